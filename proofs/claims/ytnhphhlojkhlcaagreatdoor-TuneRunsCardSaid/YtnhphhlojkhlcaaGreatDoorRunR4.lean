/- TuneRuns on symbols, run at some codes. Nothing is claimed here. -/
import Derived.Test.YtnhphhlojkhlcaaGreatDoorRun
namespace Go.Proofs.YtnhphhlojkhlcaaGreatDoor
open Go Go.Sx Go.RowKit
theorem run25 : runAt 25 = .ok := by kernel_rfl
theorem run31 : runAt 31 = .ok := by kernel_rfl
theorem run68 : runAt 68 = .ok := by kernel_rfl
theorem run87 : runAt 87 = .ok := by kernel_rfl
theorem run94 : runAt 94 = .ok := by kernel_rfl
theorem run115 : runAt 115 = .ok := by kernel_rfl
theorem run138 : runAt 138 = .ok := by kernel_rfl
theorem run150 : runAt 150 = .ok := by kernel_rfl
theorem run152 : runAt 152 = .ok := by kernel_rfl
theorem run178 : runAt 178 = .ok := by kernel_rfl
theorem run191 : runAt 191 = .ok := by kernel_rfl
theorem run192 : runAt 192 = .ok := by kernel_rfl
theorem run204 : runAt 204 = .ok := by kernel_rfl
theorem run208 : runAt 208 = .ok := by kernel_rfl
theorem run212 : runAt 212 = .ok := by kernel_rfl
theorem run231 : runAt 231 = .ok := by kernel_rfl
theorem run232 : runAt 232 = .ok := by kernel_rfl
theorem run237 : runAt 237 = .ok := by kernel_rfl
theorem run245 : runAt 245 = .ok := by kernel_rfl
end Go.Proofs.YtnhphhlojkhlcaaGreatDoor

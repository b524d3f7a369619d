/- TuneRuns on symbols, run at some codes. Nothing is claimed here. -/
import Derived.Test.YtnhphhlojkhlcaaGreatDoorRun
namespace Go.Proofs.YtnhphhlojkhlcaaGreatDoor
open Go Go.Sx Go.RowKit
theorem run8 : runAt 8 = .ok := by kernel_rfl
theorem run40 : runAt 40 = .ok := by kernel_rfl
theorem run51 : runAt 51 = .ok := by kernel_rfl
theorem run58 : runAt 58 = .ok := by kernel_rfl
theorem run88 : runAt 88 = .ok := by kernel_rfl
theorem run100 : runAt 100 = .ok := by kernel_rfl
theorem run101 : runAt 101 = .ok := by kernel_rfl
theorem run127 : runAt 127 = .ok := by kernel_rfl
theorem run134 : runAt 134 = .ok := by kernel_rfl
theorem run137_1 : runAtP 137 1 = .ok := by kernel_rfl
theorem run141 : runAt 141 = .ok := by kernel_rfl
theorem run145 : runAt 145 = .ok := by kernel_rfl
theorem run148 : runAt 148 = .ok := by kernel_rfl
theorem run159 : runAt 159 = .ok := by kernel_rfl
theorem run186 : runAt 186 = .ok := by kernel_rfl
theorem run219 : runAt 219 = .ok := by kernel_rfl
theorem run236 : runAt 236 = .ok := by kernel_rfl
theorem run251 : runAt 251 = .ok := by kernel_rfl
end Go.Proofs.YtnhphhlojkhlcaaGreatDoor

/- TuneRuns on symbols, run at some codes. Nothing is claimed here. -/
import Derived.Test.YtnhphhlojkhlcaaGreatDoorRun
namespace Go.Proofs.YtnhphhlojkhlcaaGreatDoor
open Go Go.Sx Go.RowKit
theorem run26 : runAt 26 = .ok := by kernel_rfl
theorem run52 : runAt 52 = .ok := by kernel_rfl
theorem run60 : runAt 60 = .ok := by kernel_rfl
theorem run63 : runAt 63 = .ok := by kernel_rfl
theorem run77 : runAt 77 = .ok := by kernel_rfl
theorem run89 : runAt 89 = .ok := by kernel_rfl
theorem run103 : runAt 103 = .ok := by kernel_rfl
theorem run118 : runAt 118 = .ok := by kernel_rfl
theorem run128 : runAt 128 = .ok := by kernel_rfl
theorem run129 : runAt 129 = .ok := by kernel_rfl
theorem run135_1 : runAtP 135 1 = .ok := by kernel_rfl
theorem run142 : runAt 142 = .ok := by kernel_rfl
theorem run179 : runAt 179 = .ok := by kernel_rfl
theorem run194 : runAt 194 = .ok := by kernel_rfl
theorem run211 : runAt 211 = .ok := by kernel_rfl
theorem run217 : runAt 217 = .ok := by kernel_rfl
theorem run222 : runAt 222 = .ok := by kernel_rfl
theorem run233 : runAt 233 = .ok := by kernel_rfl
theorem run241 : runAt 241 = .ok := by kernel_rfl
end Go.Proofs.YtnhphhlojkhlcaaGreatDoor

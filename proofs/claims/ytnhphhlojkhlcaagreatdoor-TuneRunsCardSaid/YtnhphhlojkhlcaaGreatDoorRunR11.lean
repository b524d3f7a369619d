/- TuneRuns on symbols, run at some codes. Nothing is claimed here. -/
import Derived.Test.YtnhphhlojkhlcaaGreatDoorRun
namespace Go.Proofs.YtnhphhlojkhlcaaGreatDoor
open Go Go.Sx Go.RowKit
theorem run10 : runAt 10 = .ok := by kernel_rfl
theorem run12 : runAt 12 = .ok := by kernel_rfl
theorem run13 : runAt 13 = .ok := by kernel_rfl
theorem run19 : runAt 19 = .ok := by kernel_rfl
theorem run28 : runAt 28 = .ok := by kernel_rfl
theorem run29 : runAt 29 = .ok := by kernel_rfl
theorem run73 : runAt 73 = .ok := by kernel_rfl
theorem run85 : runAt 85 = .ok := by kernel_rfl
theorem run95 : runAt 95 = .ok := by kernel_rfl
theorem run96 : runAt 96 = .ok := by kernel_rfl
theorem run113 : runAt 113 = .ok := by kernel_rfl
theorem run121 : runAt 121 = .ok := by kernel_rfl
theorem run130 : runAt 130 = .ok := by kernel_rfl
theorem run137_0 : runAtP 137 0 = .ok := by kernel_rfl
theorem run165 : runAt 165 = .ok := by kernel_rfl
theorem run168 : runAt 168 = .ok := by kernel_rfl
theorem run169_1 : runAtP 169 1 = .ok := by kernel_rfl
theorem run213 : runAt 213 = .ok := by kernel_rfl
theorem run246 : runAt 246 = .ok := by kernel_rfl
end Go.Proofs.YtnhphhlojkhlcaaGreatDoor

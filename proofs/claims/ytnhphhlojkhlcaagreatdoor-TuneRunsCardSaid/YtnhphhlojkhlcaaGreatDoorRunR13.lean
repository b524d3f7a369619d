/- TuneRuns on symbols, run at some codes. Nothing is claimed here. -/
import Derived.Test.YtnhphhlojkhlcaaGreatDoorRun
namespace Go.Proofs.YtnhphhlojkhlcaaGreatDoor
open Go Go.Sx Go.RowKit
theorem run17 : runAt 17 = .ok := by kernel_rfl
theorem run24 : runAt 24 = .ok := by kernel_rfl
theorem run36 : runAt 36 = .ok := by kernel_rfl
theorem run43 : runAt 43 = .ok := by kernel_rfl
theorem run49 : runAt 49 = .ok := by kernel_rfl
theorem run50 : runAt 50 = .ok := by kernel_rfl
theorem run76 : runAt 76 = .ok := by kernel_rfl
theorem run83 : runAt 83 = .ok := by kernel_rfl
theorem run136 : runAt 136 = .ok := by kernel_rfl
theorem run149 : runAt 149 = .ok := by kernel_rfl
theorem run153 : runAt 153 = .ok := by kernel_rfl
theorem run156 : runAt 156 = .ok := by kernel_rfl
theorem run162 : runAt 162 = .ok := by kernel_rfl
theorem run169_0 : runAtP 169 0 = .ok := by kernel_rfl
theorem run200 : runAt 200 = .ok := by kernel_rfl
theorem run207 : runAt 207 = .ok := by kernel_rfl
theorem run216 : runAt 216 = .ok := by kernel_rfl
theorem run223 : runAt 223 = .ok := by kernel_rfl
end Go.Proofs.YtnhphhlojkhlcaaGreatDoor

/- TuneRuns on symbols, run at some codes. Nothing is claimed here. -/
import Derived.Test.YtnhphhlojkhlcaaGreatDoorRun
namespace Go.Proofs.YtnhphhlojkhlcaaGreatDoor
open Go Go.Sx Go.RowKit
theorem run5 : runAt 5 = .ok := by kernel_rfl
theorem run6 : runAt 6 = .ok := by kernel_rfl
theorem run41 : runAt 41 = .ok := by kernel_rfl
theorem run44 : runAt 44 = .ok := by kernel_rfl
theorem run48 : runAt 48 = .ok := by kernel_rfl
theorem run61 : runAt 61 = .ok := by kernel_rfl
theorem run69 : runAt 69 = .ok := by kernel_rfl
theorem run70 : runAt 70 = .ok := by kernel_rfl
theorem run71 : runAt 71 = .ok := by kernel_rfl
theorem run104 : runAt 104 = .ok := by kernel_rfl
theorem run151_1 : runAtP 151 1 = .ok := by kernel_rfl
theorem run177 : runAt 177 = .ok := by kernel_rfl
theorem run182 : runAt 182 = .ok := by kernel_rfl
theorem run196 : runAt 196 = .ok := by kernel_rfl
theorem run198 : runAt 198 = .ok := by kernel_rfl
theorem run215 : runAt 215 = .ok := by kernel_rfl
theorem run229 : runAt 229 = .ok := by kernel_rfl
theorem run243 : runAt 243 = .ok := by kernel_rfl
end Go.Proofs.YtnhphhlojkhlcaaGreatDoor

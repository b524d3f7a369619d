/- TuneRuns on symbols, run at some codes. Nothing is claimed here. -/
import Derived.Test.YtnhphhlojkhlcaaGreatDoorRun
namespace Go.Proofs.YtnhphhlojkhlcaaGreatDoor
open Go Go.Sx Go.RowKit
theorem run1 : runAt 1 = .ok := by kernel_rfl
theorem run14 : runAt 14 = .ok := by kernel_rfl
theorem run18 : runAt 18 = .ok := by kernel_rfl
theorem run33 : runAt 33 = .ok := by kernel_rfl
theorem run55 : runAt 55 = .ok := by kernel_rfl
theorem run59 : runAt 59 = .ok := by kernel_rfl
theorem run79 : runAt 79 = .ok := by kernel_rfl
theorem run84 : runAt 84 = .ok := by kernel_rfl
theorem run111 : runAt 111 = .ok := by kernel_rfl
theorem run116 : runAt 116 = .ok := by kernel_rfl
theorem run139 : runAt 139 = .ok := by kernel_rfl
theorem run146 : runAt 146 = .ok := by kernel_rfl
theorem run160 : runAt 160 = .ok := by kernel_rfl
theorem run163 : runAt 163 = .ok := by kernel_rfl
theorem run164 : runAt 164 = .ok := by kernel_rfl
theorem run183_0 : runAtP 183 0 = .ok := by kernel_rfl
theorem run206 : runAt 206 = .ok := by kernel_rfl
theorem run218 : runAt 218 = .ok := by kernel_rfl
theorem run253 : runAt 253 = .ok := by kernel_rfl
end Go.Proofs.YtnhphhlojkhlcaaGreatDoor

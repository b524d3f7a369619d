/- TuneRuns on symbols, run at some codes. Nothing is claimed here. -/
import Derived.Test.YtnhphhlojkhlcaaGreatDoorRun
namespace Go.Proofs.YtnhphhlojkhlcaaGreatDoor
open Go Go.Sx Go.RowKit
theorem run0 : runAt 0 = .ok := by kernel_rfl
theorem run4 : runAt 4 = .ok := by kernel_rfl
theorem run7 : runAt 7 = .ok := by kernel_rfl
theorem run32 : runAt 32 = .ok := by kernel_rfl
theorem run42 : runAt 42 = .ok := by kernel_rfl
theorem run53 : runAt 53 = .ok := by kernel_rfl
theorem run82 : runAt 82 = .ok := by kernel_rfl
theorem run90 : runAt 90 = .ok := by kernel_rfl
theorem run97 : runAt 97 = .ok := by kernel_rfl
theorem run119 : runAt 119 = .ok := by kernel_rfl
theorem run173 : runAt 173 = .ok := by kernel_rfl
theorem run174 : runAt 174 = .ok := by kernel_rfl
theorem run183_1 : runAtP 183 1 = .ok := by kernel_rfl
theorem run190 : runAt 190 = .ok := by kernel_rfl
theorem run199 : runAt 199 = .ok := by kernel_rfl
theorem run227 : runAt 227 = .ok := by kernel_rfl
theorem run235 : runAt 235 = .ok := by kernel_rfl
theorem run250 : runAt 250 = .ok := by kernel_rfl
theorem run254 : runAt 254 = .ok := by kernel_rfl
end Go.Proofs.YtnhphhlojkhlcaaGreatDoor

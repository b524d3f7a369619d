/- TuneRuns on symbols, run at some codes. Nothing is claimed here. -/
import Derived.Test.YtnhphhlojkhlcaaGreatDoorRun
namespace Go.Proofs.YtnhphhlojkhlcaaGreatDoor
open Go Go.Sx Go.RowKit
theorem run9 : runAt 9 = .ok := by kernel_rfl
theorem run11 : runAt 11 = .ok := by kernel_rfl
theorem run35 : runAt 35 = .ok := by kernel_rfl
theorem run78 : runAt 78 = .ok := by kernel_rfl
theorem run81 : runAt 81 = .ok := by kernel_rfl
theorem run92 : runAt 92 = .ok := by kernel_rfl
theorem run106 : runAt 106 = .ok := by kernel_rfl
theorem run107 : runAt 107 = .ok := by kernel_rfl
theorem run108 : runAt 108 = .ok := by kernel_rfl
theorem run109 : runAt 109 = .ok := by kernel_rfl
theorem run112 : runAt 112 = .ok := by kernel_rfl
theorem run122 : runAt 122 = .ok := by kernel_rfl
theorem run143 : runAt 143 = .ok := by kernel_rfl
theorem run185 : runAt 185 = .ok := by kernel_rfl
theorem run188 : runAt 188 = .ok := by kernel_rfl
theorem run202 : runAt 202 = .ok := by kernel_rfl
theorem run228 : runAt 228 = .ok := by kernel_rfl
theorem run248 : runAt 248 = .ok := by kernel_rfl
theorem run255 : runAt 255 = .ok := by kernel_rfl
end Go.Proofs.YtnhphhlojkhlcaaGreatDoor

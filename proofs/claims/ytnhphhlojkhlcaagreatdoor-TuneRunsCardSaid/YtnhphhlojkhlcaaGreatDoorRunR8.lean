/- TuneRuns on symbols, run at some codes. Nothing is claimed here. -/
import Derived.Test.YtnhphhlojkhlcaaGreatDoorRun
namespace Go.Proofs.YtnhphhlojkhlcaaGreatDoor
open Go Go.Sx Go.RowKit
theorem run34 : runAt 34 = .ok := by kernel_rfl
theorem run37 : runAt 37 = .ok := by kernel_rfl
theorem run65 : runAt 65 = .ok := by kernel_rfl
theorem run74 : runAt 74 = .ok := by kernel_rfl
theorem run86 : runAt 86 = .ok := by kernel_rfl
theorem run110 : runAt 110 = .ok := by kernel_rfl
theorem run125 : runAt 125 = .ok := by kernel_rfl
theorem run154 : runAt 154 = .ok := by kernel_rfl
theorem run166 : runAt 166 = .ok := by kernel_rfl
theorem run167_1 : runAtP 167 1 = .ok := by kernel_rfl
theorem run172 : runAt 172 = .ok := by kernel_rfl
theorem run175 : runAt 175 = .ok := by kernel_rfl
theorem run187 : runAt 187 = .ok := by kernel_rfl
theorem run195 : runAt 195 = .ok := by kernel_rfl
theorem run224 : runAt 224 = .ok := by kernel_rfl
theorem run225 : runAt 225 = .ok := by kernel_rfl
theorem run240 : runAt 240 = .ok := by kernel_rfl
theorem run244 : runAt 244 = .ok := by kernel_rfl
theorem run252 : runAt 252 = .ok := by kernel_rfl
end Go.Proofs.YtnhphhlojkhlcaaGreatDoor

/- TuneRuns on symbols, run at some codes. Nothing is claimed here. -/
import Derived.Test.YtnhphhlojkhlcaaGreatDoorRun
namespace Go.Proofs.YtnhphhlojkhlcaaGreatDoor
open Go Go.Sx Go.RowKit
theorem run62 : runAt 62 = .ok := by kernel_rfl
theorem run67 : runAt 67 = .ok := by kernel_rfl
theorem run75 : runAt 75 = .ok := by kernel_rfl
theorem run98 : runAt 98 = .ok := by kernel_rfl
theorem run120 : runAt 120 = .ok := by kernel_rfl
theorem run124 : runAt 124 = .ok := by kernel_rfl
theorem run144 : runAt 144 = .ok := by kernel_rfl
theorem run155 : runAt 155 = .ok := by kernel_rfl
theorem run170 : runAt 170 = .ok := by kernel_rfl
theorem run180 : runAt 180 = .ok := by kernel_rfl
theorem run184 : runAt 184 = .ok := by kernel_rfl
theorem run189 : runAt 189 = .ok := by kernel_rfl
theorem run193 : runAt 193 = .ok := by kernel_rfl
theorem run226 : runAt 226 = .ok := by kernel_rfl
theorem run230 : runAt 230 = .ok := by kernel_rfl
theorem run238 : runAt 238 = .ok := by kernel_rfl
theorem run247 : runAt 247 = .ok := by kernel_rfl
theorem run249 : runAt 249 = .ok := by kernel_rfl
end Go.Proofs.YtnhphhlojkhlcaaGreatDoor

/- TuneRuns on symbols, run at some codes. Nothing is claimed here. -/
import Derived.Test.YtnhphhlojkhlcaaGreatDoorRun
namespace Go.Proofs.YtnhphhlojkhlcaaGreatDoor
open Go Go.Sx Go.RowKit
theorem run2 : runAt 2 = .ok := by kernel_rfl
theorem run23 : runAt 23 = .ok := by kernel_rfl
theorem run27 : runAt 27 = .ok := by kernel_rfl
theorem run30 : runAt 30 = .ok := by kernel_rfl
theorem run54 : runAt 54 = .ok := by kernel_rfl
theorem run56 : runAt 56 = .ok := by kernel_rfl
theorem run57 : runAt 57 = .ok := by kernel_rfl
theorem run72 : runAt 72 = .ok := by kernel_rfl
theorem run91 : runAt 91 = .ok := by kernel_rfl
theorem run99 : runAt 99 = .ok := by kernel_rfl
theorem run102 : runAt 102 = .ok := by kernel_rfl
theorem run151_0 : runAtP 151 0 = .ok := by kernel_rfl
theorem run157 : runAt 157 = .ok := by kernel_rfl
theorem run176 : runAt 176 = .ok := by kernel_rfl
theorem run181 : runAt 181 = .ok := by kernel_rfl
theorem run201 : runAt 201 = .ok := by kernel_rfl
theorem run205 : runAt 205 = .ok := by kernel_rfl
theorem run209 : runAt 209 = .ok := by kernel_rfl
theorem run221 : runAt 221 = .ok := by kernel_rfl
end Go.Proofs.YtnhphhlojkhlcaaGreatDoor

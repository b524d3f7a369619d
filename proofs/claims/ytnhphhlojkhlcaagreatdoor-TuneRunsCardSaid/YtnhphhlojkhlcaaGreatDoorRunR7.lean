/- TuneRuns on symbols, run at some codes. Nothing is claimed here. -/
import Derived.Test.YtnhphhlojkhlcaaGreatDoorRun
namespace Go.Proofs.YtnhphhlojkhlcaaGreatDoor
open Go Go.Sx Go.RowKit
theorem run3 : runAt 3 = .ok := by kernel_rfl
theorem run15 : runAt 15 = .ok := by kernel_rfl
theorem run20 : runAt 20 = .ok := by kernel_rfl
theorem run21 : runAt 21 = .ok := by kernel_rfl
theorem run66 : runAt 66 = .ok := by kernel_rfl
theorem run93 : runAt 93 = .ok := by kernel_rfl
theorem run123 : runAt 123 = .ok := by kernel_rfl
theorem run126 : runAt 126 = .ok := by kernel_rfl
theorem run132 : runAt 132 = .ok := by kernel_rfl
theorem run133 : runAt 133 = .ok := by kernel_rfl
theorem run158 : runAt 158 = .ok := by kernel_rfl
theorem run161 : runAt 161 = .ok := by kernel_rfl
theorem run167_0 : runAtP 167 0 = .ok := by kernel_rfl
theorem run171 : runAt 171 = .ok := by kernel_rfl
theorem run197 : runAt 197 = .ok := by kernel_rfl
theorem run203 : runAt 203 = .ok := by kernel_rfl
theorem run210 : runAt 210 = .ok := by kernel_rfl
theorem run220 : runAt 220 = .ok := by kernel_rfl
theorem run239 : runAt 239 = .ok := by kernel_rfl
end Go.Proofs.YtnhphhlojkhlcaaGreatDoor

/- TuneRuns on symbols, run at some codes. Nothing is claimed here. -/
import Derived.Test.YtnhphhlojkhlcaaGreatDoorRun
namespace Go.Proofs.YtnhphhlojkhlcaaGreatDoor
open Go Go.Sx Go.RowKit
theorem run16 : runAt 16 = .ok := by kernel_rfl
theorem run22 : runAt 22 = .ok := by kernel_rfl
theorem run38 : runAt 38 = .ok := by kernel_rfl
theorem run39 : runAt 39 = .ok := by kernel_rfl
theorem run45 : runAt 45 = .ok := by kernel_rfl
theorem run46 : runAt 46 = .ok := by kernel_rfl
theorem run47 : runAt 47 = .ok := by kernel_rfl
theorem run64 : runAt 64 = .ok := by kernel_rfl
theorem run80 : runAt 80 = .ok := by kernel_rfl
theorem run105 : runAt 105 = .ok := by kernel_rfl
theorem run114 : runAt 114 = .ok := by kernel_rfl
theorem run117 : runAt 117 = .ok := by kernel_rfl
theorem run131 : runAt 131 = .ok := by kernel_rfl
theorem run135_0 : runAtP 135 0 = .ok := by kernel_rfl
theorem run140 : runAt 140 = .ok := by kernel_rfl
theorem run147 : runAt 147 = .ok := by kernel_rfl
theorem run214 : runAt 214 = .ok := by kernel_rfl
theorem run234 : runAt 234 = .ok := by kernel_rfl
theorem run242 : runAt 242 = .ok := by kernel_rfl
theorem runHalt : kRunV (.lit 1) [(.op .len (lvk 2) (.lit 0) 0, 65536, 65536)] = .ok := by kernel_rfl
end Go.Proofs.YtnhphhlojkhlcaaGreatDoor

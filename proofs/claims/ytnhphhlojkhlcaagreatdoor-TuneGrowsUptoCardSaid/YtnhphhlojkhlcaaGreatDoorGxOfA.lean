/- The program's look at a code, run: it answers by the table. Nothing is claimed here. -/
import Derived.Test.YtnhphhlojkhlcaaGreatDoorGxOfTbl
namespace Go.Proofs.YtnhphhlojkhlcaaGreatDoor
open Go Go.Sx Go.RowKit
theorem ofA0 : kByTbl 49 0 64 = true := by kernel_rfl
theorem ofA1 : kByTbl 49 64 64 = true := by kernel_rfl
theorem ofA2 : kByTbl 49 128 64 = true := by kernel_rfl
theorem ofA3 : kByTbl 49 192 64 = true := by kernel_rfl
end Go.Proofs.YtnhphhlojkhlcaaGreatDoor

/- The document's look at a code, run: it answers by the table. Nothing is claimed here. -/
import Derived.Test.YtnhphhlojkhlcaaGreatDoorOfTbl
namespace Go.Proofs.YtnhphhlojkhlcaaGreatDoor
open Go Go.Sx Go.RowKit
theorem byTbl_join0 {f lo a b m n : Nat} (hm : lo + a = m) (hn : a + b = n) (h1 : kByTbl f lo a = true) (h2 : kByTbl f m b = true) : kByTbl f lo n = true := by
  subst hm hn; exact kByTbl_add h1 h2
theorem ofB_0 : kByTbl 21 0 8 = true := by kernel_rfl
theorem ofB_8 : kByTbl 21 8 8 = true := by kernel_rfl
theorem ofB_16 : kByTbl 21 16 8 = true := by kernel_rfl
theorem ofB_24 : kByTbl 21 24 8 = true := by kernel_rfl
theorem ofB_32 : kByTbl 21 32 8 = true := by kernel_rfl
theorem ofB_40 : kByTbl 21 40 8 = true := by kernel_rfl
theorem ofB_48 : kByTbl 21 48 8 = true := by kernel_rfl
theorem ofB_56 : kByTbl 21 56 8 = true := by kernel_rfl
theorem ofB_64 : kByTbl 21 64 8 = true := by kernel_rfl
theorem ofB_72 : kByTbl 21 72 8 = true := by kernel_rfl
theorem ofB_80 : kByTbl 21 80 8 = true := by kernel_rfl
theorem ofB_88 : kByTbl 21 88 8 = true := by kernel_rfl
theorem ofB_96 : kByTbl 21 96 8 = true := by kernel_rfl
theorem ofB_104 : kByTbl 21 104 8 = true := by kernel_rfl
theorem ofB_112 : kByTbl 21 112 8 = true := by kernel_rfl
theorem ofB_120 : kByTbl 21 120 8 = true := by kernel_rfl
theorem ofB_0_16 : kByTbl 21 0 16 = true := byTbl_join0 (a := 8) (b := 8) (m := 8) rfl rfl ofB_0 ofB_8
theorem ofB_0_24 : kByTbl 21 0 24 = true := byTbl_join0 (a := 16) (b := 8) (m := 16) rfl rfl ofB_0_16 ofB_16
theorem ofB_0_32 : kByTbl 21 0 32 = true := byTbl_join0 (a := 24) (b := 8) (m := 24) rfl rfl ofB_0_24 ofB_24
theorem ofB_0_40 : kByTbl 21 0 40 = true := byTbl_join0 (a := 32) (b := 8) (m := 32) rfl rfl ofB_0_32 ofB_32
theorem ofB_0_48 : kByTbl 21 0 48 = true := byTbl_join0 (a := 40) (b := 8) (m := 40) rfl rfl ofB_0_40 ofB_40
theorem ofB_0_56 : kByTbl 21 0 56 = true := byTbl_join0 (a := 48) (b := 8) (m := 48) rfl rfl ofB_0_48 ofB_48
theorem ofB_0_64 : kByTbl 21 0 64 = true := byTbl_join0 (a := 56) (b := 8) (m := 56) rfl rfl ofB_0_56 ofB_56
theorem ofB0 : kByTbl 21 0 64 = true := ofB_0_64
theorem ofB_64_16 : kByTbl 21 64 16 = true := byTbl_join0 (a := 8) (b := 8) (m := 72) rfl rfl ofB_64 ofB_72
theorem ofB_64_24 : kByTbl 21 64 24 = true := byTbl_join0 (a := 16) (b := 8) (m := 80) rfl rfl ofB_64_16 ofB_80
theorem ofB_64_32 : kByTbl 21 64 32 = true := byTbl_join0 (a := 24) (b := 8) (m := 88) rfl rfl ofB_64_24 ofB_88
theorem ofB_64_40 : kByTbl 21 64 40 = true := byTbl_join0 (a := 32) (b := 8) (m := 96) rfl rfl ofB_64_32 ofB_96
theorem ofB_64_48 : kByTbl 21 64 48 = true := byTbl_join0 (a := 40) (b := 8) (m := 104) rfl rfl ofB_64_40 ofB_104
theorem ofB_64_56 : kByTbl 21 64 56 = true := byTbl_join0 (a := 48) (b := 8) (m := 112) rfl rfl ofB_64_48 ofB_112
theorem ofB_64_64 : kByTbl 21 64 64 = true := byTbl_join0 (a := 56) (b := 8) (m := 120) rfl rfl ofB_64_56 ofB_120
theorem ofB1 : kByTbl 21 64 64 = true := ofB_64_64
end Go.Proofs.YtnhphhlojkhlcaaGreatDoor

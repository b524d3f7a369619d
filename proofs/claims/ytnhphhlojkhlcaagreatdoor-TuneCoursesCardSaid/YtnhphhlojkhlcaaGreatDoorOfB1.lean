/- The document's look at a code, run: it answers by the table. Nothing is claimed here. -/
import Derived.Test.YtnhphhlojkhlcaaGreatDoorOfTbl
namespace Go.Proofs.YtnhphhlojkhlcaaGreatDoor
open Go Go.Sx Go.RowKit
theorem byTbl_join1 {f lo a b m n : Nat} (hm : lo + a = m) (hn : a + b = n) (h1 : kByTbl f lo a = true) (h2 : kByTbl f m b = true) : kByTbl f lo n = true := by
  subst hm hn; exact kByTbl_add h1 h2
theorem ofB_128 : kByTbl 21 128 8 = true := by kernel_rfl
theorem ofB_136 : kByTbl 21 136 8 = true := by kernel_rfl
theorem ofB_144 : kByTbl 21 144 8 = true := by kernel_rfl
theorem ofB_152 : kByTbl 21 152 8 = true := by kernel_rfl
theorem ofB_160 : kByTbl 21 160 8 = true := by kernel_rfl
theorem ofB_168 : kByTbl 21 168 8 = true := by kernel_rfl
theorem ofB_176 : kByTbl 21 176 8 = true := by kernel_rfl
theorem ofB_184 : kByTbl 21 184 8 = true := by kernel_rfl
theorem ofB_192 : kByTbl 21 192 8 = true := by kernel_rfl
theorem ofB_200 : kByTbl 21 200 8 = true := by kernel_rfl
theorem ofB_208 : kByTbl 21 208 8 = true := by kernel_rfl
theorem ofB_216 : kByTbl 21 216 8 = true := by kernel_rfl
theorem ofB_224 : kByTbl 21 224 8 = true := by kernel_rfl
theorem ofB_232 : kByTbl 21 232 8 = true := by kernel_rfl
theorem ofB_240 : kByTbl 21 240 8 = true := by kernel_rfl
theorem ofB_248 : kByTbl 21 248 8 = true := by kernel_rfl
theorem ofB_128_16 : kByTbl 21 128 16 = true := byTbl_join1 (a := 8) (b := 8) (m := 136) rfl rfl ofB_128 ofB_136
theorem ofB_128_24 : kByTbl 21 128 24 = true := byTbl_join1 (a := 16) (b := 8) (m := 144) rfl rfl ofB_128_16 ofB_144
theorem ofB_128_32 : kByTbl 21 128 32 = true := byTbl_join1 (a := 24) (b := 8) (m := 152) rfl rfl ofB_128_24 ofB_152
theorem ofB_128_40 : kByTbl 21 128 40 = true := byTbl_join1 (a := 32) (b := 8) (m := 160) rfl rfl ofB_128_32 ofB_160
theorem ofB_128_48 : kByTbl 21 128 48 = true := byTbl_join1 (a := 40) (b := 8) (m := 168) rfl rfl ofB_128_40 ofB_168
theorem ofB_128_56 : kByTbl 21 128 56 = true := byTbl_join1 (a := 48) (b := 8) (m := 176) rfl rfl ofB_128_48 ofB_176
theorem ofB_128_64 : kByTbl 21 128 64 = true := byTbl_join1 (a := 56) (b := 8) (m := 184) rfl rfl ofB_128_56 ofB_184
theorem ofB2 : kByTbl 21 128 64 = true := ofB_128_64
theorem ofB_192_16 : kByTbl 21 192 16 = true := byTbl_join1 (a := 8) (b := 8) (m := 200) rfl rfl ofB_192 ofB_200
theorem ofB_192_24 : kByTbl 21 192 24 = true := byTbl_join1 (a := 16) (b := 8) (m := 208) rfl rfl ofB_192_16 ofB_208
theorem ofB_192_32 : kByTbl 21 192 32 = true := byTbl_join1 (a := 24) (b := 8) (m := 216) rfl rfl ofB_192_24 ofB_216
theorem ofB_192_40 : kByTbl 21 192 40 = true := byTbl_join1 (a := 32) (b := 8) (m := 224) rfl rfl ofB_192_32 ofB_224
theorem ofB_192_48 : kByTbl 21 192 48 = true := byTbl_join1 (a := 40) (b := 8) (m := 232) rfl rfl ofB_192_40 ofB_232
theorem ofB_192_56 : kByTbl 21 192 56 = true := byTbl_join1 (a := 48) (b := 8) (m := 240) rfl rfl ofB_192_48 ofB_240
theorem ofB_192_64 : kByTbl 21 192 64 = true := byTbl_join1 (a := 56) (b := 8) (m := 248) rfl rfl ofB_192_56 ofB_248
theorem ofB3 : kByTbl 21 192 64 = true := ofB_192_64
end Go.Proofs.YtnhphhlojkhlcaaGreatDoor

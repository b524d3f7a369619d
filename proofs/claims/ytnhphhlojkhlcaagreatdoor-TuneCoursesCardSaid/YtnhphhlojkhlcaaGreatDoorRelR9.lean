/- One instruction, the program's and the document's, run at some codes: they answer the same. Nothing is claimed here. -/
import Derived.Test.YtnhphhlojkhlcaaGreatDoorCrs
namespace Go.Proofs.YtnhphhlojkhlcaaGreatDoor
open Go Go.Sx Go.RowKit
theorem rel16 : relAt 16 = .ok := by kernel_rfl
theorem rel22 : relAt 22 = .ok := by kernel_rfl
theorem rel23 : relAt 23 = .ok := by kernel_rfl
theorem rel27 : relAt 27 = .ok := by kernel_rfl
theorem rel46 : relAt 46 = .ok := by kernel_rfl
theorem rel69 : relAt 69 = .ok := by kernel_rfl
theorem rel84 : relAt 84 = .ok := by kernel_rfl
theorem rel109 : relAt 109 = .ok := by kernel_rfl
theorem rel140 : relAt 140 = .ok := by kernel_rfl
theorem rel161 : relAt 161 = .ok := by kernel_rfl
theorem rel171 : relAt 171 = .ok := by kernel_rfl
theorem rel184 : relAt 184 = .ok := by kernel_rfl
theorem rel199 : relAt 199 = .ok := by kernel_rfl
theorem rel201 : relAt 201 = .ok := by kernel_rfl
theorem rel219 : relAt 219 = .ok := by kernel_rfl
theorem rel228 : relAt 228 = .ok := by kernel_rfl
theorem rel232 : relAt 232 = .ok := by kernel_rfl
theorem rel239 : relAt 239 = .ok := by kernel_rfl
theorem rel241 : relAt 241 = .ok := by kernel_rfl
theorem rel242 : relAt 242 = .ok := by kernel_rfl
theorem rel243 : relAt 243 = .ok := by kernel_rfl
theorem rel252 : relAt 252 = .ok := by kernel_rfl
end Go.Proofs.YtnhphhlojkhlcaaGreatDoor

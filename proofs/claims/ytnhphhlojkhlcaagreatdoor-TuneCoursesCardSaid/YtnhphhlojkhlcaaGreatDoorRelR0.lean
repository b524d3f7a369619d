/- One instruction, the program's and the document's, run at some codes: they answer the same. Nothing is claimed here. -/
import Derived.Test.YtnhphhlojkhlcaaGreatDoorCrs
namespace Go.Proofs.YtnhphhlojkhlcaaGreatDoor
open Go Go.Sx Go.RowKit
theorem rel3 : relAt 3 = .ok := by kernel_rfl
theorem rel20 : relAt 20 = .ok := by kernel_rfl
theorem rel36 : relAt 36 = .ok := by kernel_rfl
theorem rel60 : relAt 60 = .ok := by kernel_rfl
theorem rel85 : relAt 85 = .ok := by kernel_rfl
theorem rel96 : relAt 96 = .ok := by kernel_rfl
theorem rel108 : relAt 108 = .ok := by kernel_rfl
theorem rel120 : relAt 120 = .ok := by kernel_rfl
theorem rel131 : relAt 131 = .ok := by kernel_rfl
theorem rel135 : relAt 135 = .ok := by kernel_rfl
theorem rel138 : relAt 138 = .ok := by kernel_rfl
theorem rel142 : relAt 142 = .ok := by kernel_rfl
theorem rel157 : relAt 157 = .ok := by kernel_rfl
theorem rel181 : relAt 181 = .ok := by kernel_rfl
theorem rel193 : relAt 193 = .ok := by kernel_rfl
theorem rel194 : relAt 194 = .ok := by kernel_rfl
theorem rel200 : relAt 200 = .ok := by kernel_rfl
theorem rel222 : relAt 222 = .ok := by kernel_rfl
theorem rel230 : relAt 230 = .ok := by kernel_rfl
theorem rel234 : relAt 234 = .ok := by kernel_rfl
theorem rel254 : relAt 254 = .ok := by kernel_rfl
theorem relNone_ok : relNone = .ok := by kernel_rfl
end Go.Proofs.YtnhphhlojkhlcaaGreatDoor

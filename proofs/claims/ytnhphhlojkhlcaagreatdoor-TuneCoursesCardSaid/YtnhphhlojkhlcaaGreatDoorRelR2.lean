/- One instruction, the program's and the document's, run at some codes: they answer the same. Nothing is claimed here. -/
import Derived.Test.YtnhphhlojkhlcaaGreatDoorCrs
namespace Go.Proofs.YtnhphhlojkhlcaaGreatDoor
open Go Go.Sx Go.RowKit
theorem rel2 : relAt 2 = .ok := by kernel_rfl
theorem rel30 : relAt 30 = .ok := by kernel_rfl
theorem rel76 : relAt 76 = .ok := by kernel_rfl
theorem rel80 : relAt 80 = .ok := by kernel_rfl
theorem rel81 : relAt 81 = .ok := by kernel_rfl
theorem rel89 : relAt 89 = .ok := by kernel_rfl
theorem rel101 : relAt 101 = .ok := by kernel_rfl
theorem rel105 : relAt 105 = .ok := by kernel_rfl
theorem rel110 : relAt 110 = .ok := by kernel_rfl
theorem rel123 : relAt 123 = .ok := by kernel_rfl
theorem rel134 : relAt 134 = .ok := by kernel_rfl
theorem rel143 : relAt 143 = .ok := by kernel_rfl
theorem rel151 : relAt 151 = .ok := by kernel_rfl
theorem rel175 : relAt 175 = .ok := by kernel_rfl
theorem rel187 : relAt 187 = .ok := by kernel_rfl
theorem rel198 : relAt 198 = .ok := by kernel_rfl
theorem rel204 : relAt 204 = .ok := by kernel_rfl
theorem rel212 : relAt 212 = .ok := by kernel_rfl
theorem rel245 : relAt 245 = .ok := by kernel_rfl
theorem rel253 : relAt 253 = .ok := by kernel_rfl
end Go.Proofs.YtnhphhlojkhlcaaGreatDoor

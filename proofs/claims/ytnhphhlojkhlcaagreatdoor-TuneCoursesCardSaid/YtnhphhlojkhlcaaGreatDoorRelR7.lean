/- One instruction, the program's and the document's, run at some codes: they answer the same. Nothing is claimed here. -/
import Derived.Test.YtnhphhlojkhlcaaGreatDoorCrs
namespace Go.Proofs.YtnhphhlojkhlcaaGreatDoor
open Go Go.Sx Go.RowKit
theorem rel6 : relAt 6 = .ok := by kernel_rfl
theorem rel7 : relAt 7 = .ok := by kernel_rfl
theorem rel12 : relAt 12 = .ok := by kernel_rfl
theorem rel33 : relAt 33 = .ok := by kernel_rfl
theorem rel42 : relAt 42 = .ok := by kernel_rfl
theorem rel43 : relAt 43 = .ok := by kernel_rfl
theorem rel65 : relAt 65 = .ok := by kernel_rfl
theorem rel79 : relAt 79 = .ok := by kernel_rfl
theorem rel94 : relAt 94 = .ok := by kernel_rfl
theorem rel99 : relAt 99 = .ok := by kernel_rfl
theorem rel126 : relAt 126 = .ok := by kernel_rfl
theorem rel128 : relAt 128 = .ok := by kernel_rfl
theorem rel132 : relAt 132 = .ok := by kernel_rfl
theorem rel139 : relAt 139 = .ok := by kernel_rfl
theorem rel149 : relAt 149 = .ok := by kernel_rfl
theorem rel156 : relAt 156 = .ok := by kernel_rfl
theorem rel173 : relAt 173 = .ok := by kernel_rfl
theorem rel210 : relAt 210 = .ok := by kernel_rfl
theorem rel218 : relAt 218 = .ok := by kernel_rfl
theorem rel221 : relAt 221 = .ok := by kernel_rfl
theorem rel244 : relAt 244 = .ok := by kernel_rfl
theorem rel247 : relAt 247 = .ok := by kernel_rfl
end Go.Proofs.YtnhphhlojkhlcaaGreatDoor

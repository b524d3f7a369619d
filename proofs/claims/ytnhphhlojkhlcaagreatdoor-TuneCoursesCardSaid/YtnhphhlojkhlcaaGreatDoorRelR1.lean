/- One instruction, the program's and the document's, run at some codes: they answer the same. Nothing is claimed here. -/
import Derived.Test.YtnhphhlojkhlcaaGreatDoorCrs
namespace Go.Proofs.YtnhphhlojkhlcaaGreatDoor
open Go Go.Sx Go.RowKit
theorem rel1 : relAt 1 = .ok := by kernel_rfl
theorem rel8 : relAt 8 = .ok := by kernel_rfl
theorem rel15 : relAt 15 = .ok := by kernel_rfl
theorem rel18 : relAt 18 = .ok := by kernel_rfl
theorem rel26 : relAt 26 = .ok := by kernel_rfl
theorem rel44 : relAt 44 = .ok := by kernel_rfl
theorem rel59 : relAt 59 = .ok := by kernel_rfl
theorem rel111 : relAt 111 = .ok := by kernel_rfl
theorem rel117 : relAt 117 = .ok := by kernel_rfl
theorem rel122 : relAt 122 = .ok := by kernel_rfl
theorem rel124 : relAt 124 = .ok := by kernel_rfl
theorem rel130 : relAt 130 = .ok := by kernel_rfl
theorem rel133 : relAt 133 = .ok := by kernel_rfl
theorem rel144 : relAt 144 = .ok := by kernel_rfl
theorem rel160 : relAt 160 = .ok := by kernel_rfl
theorem rel167 : relAt 167 = .ok := by kernel_rfl
theorem rel170 : relAt 170 = .ok := by kernel_rfl
theorem rel174 : relAt 174 = .ok := by kernel_rfl
theorem rel186 : relAt 186 = .ok := by kernel_rfl
theorem rel192 : relAt 192 = .ok := by kernel_rfl
theorem rel251 : relAt 251 = .ok := by kernel_rfl
end Go.Proofs.YtnhphhlojkhlcaaGreatDoor

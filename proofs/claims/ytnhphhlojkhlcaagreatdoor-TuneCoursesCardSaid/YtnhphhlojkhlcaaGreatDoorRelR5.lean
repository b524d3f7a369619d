/- One instruction, the program's and the document's, run at some codes: they answer the same. Nothing is claimed here. -/
import Derived.Test.YtnhphhlojkhlcaaGreatDoorCrs
namespace Go.Proofs.YtnhphhlojkhlcaaGreatDoor
open Go Go.Sx Go.RowKit
theorem rel21 : relAt 21 = .ok := by kernel_rfl
theorem rel37 : relAt 37 = .ok := by kernel_rfl
theorem rel53 : relAt 53 = .ok := by kernel_rfl
theorem rel56 : relAt 56 = .ok := by kernel_rfl
theorem rel57 : relAt 57 = .ok := by kernel_rfl
theorem rel61 : relAt 61 = .ok := by kernel_rfl
theorem rel71 : relAt 71 = .ok := by kernel_rfl
theorem rel95 : relAt 95 = .ok := by kernel_rfl
theorem rel137 : relAt 137 = .ok := by kernel_rfl
theorem rel145 : relAt 145 = .ok := by kernel_rfl
theorem rel150 : relAt 150 = .ok := by kernel_rfl
theorem rel155 : relAt 155 = .ok := by kernel_rfl
theorem rel180 : relAt 180 = .ok := by kernel_rfl
theorem rel191 : relAt 191 = .ok := by kernel_rfl
theorem rel207 : relAt 207 = .ok := by kernel_rfl
theorem rel211 : relAt 211 = .ok := by kernel_rfl
theorem rel213 : relAt 213 = .ok := by kernel_rfl
theorem rel236 : relAt 236 = .ok := by kernel_rfl
theorem rel238 : relAt 238 = .ok := by kernel_rfl
theorem rel240 : relAt 240 = .ok := by kernel_rfl
end Go.Proofs.YtnhphhlojkhlcaaGreatDoor

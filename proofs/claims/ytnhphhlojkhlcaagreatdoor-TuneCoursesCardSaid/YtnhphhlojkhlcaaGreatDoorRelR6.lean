/- One instruction, the program's and the document's, run at some codes: they answer the same. Nothing is claimed here. -/
import Derived.Test.YtnhphhlojkhlcaaGreatDoorCrs
namespace Go.Proofs.YtnhphhlojkhlcaaGreatDoor
open Go Go.Sx Go.RowKit
theorem rel35 : relAt 35 = .ok := by kernel_rfl
theorem rel41 : relAt 41 = .ok := by kernel_rfl
theorem rel45 : relAt 45 = .ok := by kernel_rfl
theorem rel47 : relAt 47 = .ok := by kernel_rfl
theorem rel51 : relAt 51 = .ok := by kernel_rfl
theorem rel64 : relAt 64 = .ok := by kernel_rfl
theorem rel67 : relAt 67 = .ok := by kernel_rfl
theorem rel70 : relAt 70 = .ok := by kernel_rfl
theorem rel74 : relAt 74 = .ok := by kernel_rfl
theorem rel103 : relAt 103 = .ok := by kernel_rfl
theorem rel112 : relAt 112 = .ok := by kernel_rfl
theorem rel118 : relAt 118 = .ok := by kernel_rfl
theorem rel127 : relAt 127 = .ok := by kernel_rfl
theorem rel136 : relAt 136 = .ok := by kernel_rfl
theorem rel146 : relAt 146 = .ok := by kernel_rfl
theorem rel172 : relAt 172 = .ok := by kernel_rfl
theorem rel188 : relAt 188 = .ok := by kernel_rfl
theorem rel190 : relAt 190 = .ok := by kernel_rfl
theorem rel231 : relAt 231 = .ok := by kernel_rfl
theorem rel246 : relAt 246 = .ok := by kernel_rfl
theorem rel248 : relAt 248 = .ok := by kernel_rfl
theorem rel250 : relAt 250 = .ok := by kernel_rfl
end Go.Proofs.YtnhphhlojkhlcaaGreatDoor

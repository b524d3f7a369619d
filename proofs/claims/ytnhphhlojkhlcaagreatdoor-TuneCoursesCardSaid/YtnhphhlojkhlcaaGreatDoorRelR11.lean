/- One instruction, the program's and the document's, run at some codes: they answer the same. Nothing is claimed here. -/
import Derived.Test.YtnhphhlojkhlcaaGreatDoorCrs
namespace Go.Proofs.YtnhphhlojkhlcaaGreatDoor
open Go Go.Sx Go.RowKit
theorem rel4 : relAt 4 = .ok := by kernel_rfl
theorem rel11 : relAt 11 = .ok := by kernel_rfl
theorem rel13 : relAt 13 = .ok := by kernel_rfl
theorem rel38 : relAt 38 = .ok := by kernel_rfl
theorem rel68 : relAt 68 = .ok := by kernel_rfl
theorem rel72 : relAt 72 = .ok := by kernel_rfl
theorem rel86 : relAt 86 = .ok := by kernel_rfl
theorem rel88 : relAt 88 = .ok := by kernel_rfl
theorem rel92 : relAt 92 = .ok := by kernel_rfl
theorem rel113 : relAt 113 = .ok := by kernel_rfl
theorem rel115 : relAt 115 = .ok := by kernel_rfl
theorem rel121 : relAt 121 = .ok := by kernel_rfl
theorem rel148 : relAt 148 = .ok := by kernel_rfl
theorem rel152 : relAt 152 = .ok := by kernel_rfl
theorem rel153 : relAt 153 = .ok := by kernel_rfl
theorem rel189 : relAt 189 = .ok := by kernel_rfl
theorem rel196 : relAt 196 = .ok := by kernel_rfl
theorem rel202 : relAt 202 = .ok := by kernel_rfl
theorem rel214 : relAt 214 = .ok := by kernel_rfl
theorem rel223 : relAt 223 = .ok := by kernel_rfl
theorem rel227 : relAt 227 = .ok := by kernel_rfl
theorem rel233 : relAt 233 = .ok := by kernel_rfl
end Go.Proofs.YtnhphhlojkhlcaaGreatDoor

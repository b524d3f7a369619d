/- One instruction, the program's and the document's, run at some codes: they answer the same. Nothing is claimed here. -/
import Derived.Test.YtnhphhlojkhlcaaGreatDoorCrs
namespace Go.Proofs.YtnhphhlojkhlcaaGreatDoor
open Go Go.Sx Go.RowKit
theorem rel25 : relAt 25 = .ok := by kernel_rfl
theorem rel40 : relAt 40 = .ok := by kernel_rfl
theorem rel66 : relAt 66 = .ok := by kernel_rfl
theorem rel77 : relAt 77 = .ok := by kernel_rfl
theorem rel91 : relAt 91 = .ok := by kernel_rfl
theorem rel98 : relAt 98 = .ok := by kernel_rfl
theorem rel100 : relAt 100 = .ok := by kernel_rfl
theorem rel114 : relAt 114 = .ok := by kernel_rfl
theorem rel119 : relAt 119 = .ok := by kernel_rfl
theorem rel129 : relAt 129 = .ok := by kernel_rfl
theorem rel154 : relAt 154 = .ok := by kernel_rfl
theorem rel166 : relAt 166 = .ok := by kernel_rfl
theorem rel177 : relAt 177 = .ok := by kernel_rfl
theorem rel179 : relAt 179 = .ok := by kernel_rfl
theorem rel185 : relAt 185 = .ok := by kernel_rfl
theorem rel195 : relAt 195 = .ok := by kernel_rfl
theorem rel197 : relAt 197 = .ok := by kernel_rfl
theorem rel208 : relAt 208 = .ok := by kernel_rfl
theorem rel216 : relAt 216 = .ok := by kernel_rfl
theorem rel220 : relAt 220 = .ok := by kernel_rfl
theorem rel224 : relAt 224 = .ok := by kernel_rfl
theorem rel226 : relAt 226 = .ok := by kernel_rfl
end Go.Proofs.YtnhphhlojkhlcaaGreatDoor

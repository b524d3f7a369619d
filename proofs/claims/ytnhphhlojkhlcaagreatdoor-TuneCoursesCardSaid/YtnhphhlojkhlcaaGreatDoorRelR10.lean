/- One instruction, the program's and the document's, run at some codes: they answer the same. Nothing is claimed here. -/
import Derived.Test.YtnhphhlojkhlcaaGreatDoorCrs
namespace Go.Proofs.YtnhphhlojkhlcaaGreatDoor
open Go Go.Sx Go.RowKit
theorem rel0 : relAt 0 = .ok := by kernel_rfl
theorem rel5 : relAt 5 = .ok := by kernel_rfl
theorem rel28 : relAt 28 = .ok := by kernel_rfl
theorem rel31 : relAt 31 = .ok := by kernel_rfl
theorem rel50 : relAt 50 = .ok := by kernel_rfl
theorem rel55 : relAt 55 = .ok := by kernel_rfl
theorem rel73 : relAt 73 = .ok := by kernel_rfl
theorem rel87 : relAt 87 = .ok := by kernel_rfl
theorem rel90 : relAt 90 = .ok := by kernel_rfl
theorem rel97 : relAt 97 = .ok := by kernel_rfl
theorem rel102 : relAt 102 = .ok := by kernel_rfl
theorem rel104 : relAt 104 = .ok := by kernel_rfl
theorem rel107 : relAt 107 = .ok := by kernel_rfl
theorem rel141 : relAt 141 = .ok := by kernel_rfl
theorem rel147 : relAt 147 = .ok := by kernel_rfl
theorem rel162 : relAt 162 = .ok := by kernel_rfl
theorem rel168 : relAt 168 = .ok := by kernel_rfl
theorem rel178 : relAt 178 = .ok := by kernel_rfl
theorem rel182 : relAt 182 = .ok := by kernel_rfl
theorem rel203 : relAt 203 = .ok := by kernel_rfl
theorem rel229 : relAt 229 = .ok := by kernel_rfl
theorem rel255 : relAt 255 = .ok := by kernel_rfl
end Go.Proofs.YtnhphhlojkhlcaaGreatDoor

/- One instruction, the program's and the document's, run at some codes: they answer the same. Nothing is claimed here. -/
import Derived.Test.YtnhphhlojkhlcaaGreatDoorCrs
namespace Go.Proofs.YtnhphhlojkhlcaaGreatDoor
open Go Go.Sx Go.RowKit
theorem rel10 : relAt 10 = .ok := by kernel_rfl
theorem rel17 : relAt 17 = .ok := by kernel_rfl
theorem rel19 : relAt 19 = .ok := by kernel_rfl
theorem rel32 : relAt 32 = .ok := by kernel_rfl
theorem rel34 : relAt 34 = .ok := by kernel_rfl
theorem rel39 : relAt 39 = .ok := by kernel_rfl
theorem rel48 : relAt 48 = .ok := by kernel_rfl
theorem rel62 : relAt 62 = .ok := by kernel_rfl
theorem rel75 : relAt 75 = .ok := by kernel_rfl
theorem rel82 : relAt 82 = .ok := by kernel_rfl
theorem rel83 : relAt 83 = .ok := by kernel_rfl
theorem rel106 : relAt 106 = .ok := by kernel_rfl
theorem rel116 : relAt 116 = .ok := by kernel_rfl
theorem rel125 : relAt 125 = .ok := by kernel_rfl
theorem rel158 : relAt 158 = .ok := by kernel_rfl
theorem rel159 : relAt 159 = .ok := by kernel_rfl
theorem rel164 : relAt 164 = .ok := by kernel_rfl
theorem rel165 : relAt 165 = .ok := by kernel_rfl
theorem rel169 : relAt 169 = .ok := by kernel_rfl
theorem rel206 : relAt 206 = .ok := by kernel_rfl
theorem rel225 : relAt 225 = .ok := by kernel_rfl
end Go.Proofs.YtnhphhlojkhlcaaGreatDoor

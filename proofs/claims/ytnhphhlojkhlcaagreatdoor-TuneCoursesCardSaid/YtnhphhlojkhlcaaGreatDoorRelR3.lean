/- One instruction, the program's and the document's, run at some codes: they answer the same. Nothing is claimed here. -/
import Derived.Test.YtnhphhlojkhlcaaGreatDoorCrs
namespace Go.Proofs.YtnhphhlojkhlcaaGreatDoor
open Go Go.Sx Go.RowKit
theorem rel9 : relAt 9 = .ok := by kernel_rfl
theorem rel14 : relAt 14 = .ok := by kernel_rfl
theorem rel24 : relAt 24 = .ok := by kernel_rfl
theorem rel29 : relAt 29 = .ok := by kernel_rfl
theorem rel49 : relAt 49 = .ok := by kernel_rfl
theorem rel52 : relAt 52 = .ok := by kernel_rfl
theorem rel54 : relAt 54 = .ok := by kernel_rfl
theorem rel58 : relAt 58 = .ok := by kernel_rfl
theorem rel63 : relAt 63 = .ok := by kernel_rfl
theorem rel78 : relAt 78 = .ok := by kernel_rfl
theorem rel93 : relAt 93 = .ok := by kernel_rfl
theorem rel163 : relAt 163 = .ok := by kernel_rfl
theorem rel176 : relAt 176 = .ok := by kernel_rfl
theorem rel183 : relAt 183 = .ok := by kernel_rfl
theorem rel205 : relAt 205 = .ok := by kernel_rfl
theorem rel209 : relAt 209 = .ok := by kernel_rfl
theorem rel215 : relAt 215 = .ok := by kernel_rfl
theorem rel217 : relAt 217 = .ok := by kernel_rfl
theorem rel235 : relAt 235 = .ok := by kernel_rfl
theorem rel237 : relAt 237 = .ok := by kernel_rfl
theorem rel249 : relAt 249 = .ok := by kernel_rfl
end Go.Proofs.YtnhphhlojkhlcaaGreatDoor

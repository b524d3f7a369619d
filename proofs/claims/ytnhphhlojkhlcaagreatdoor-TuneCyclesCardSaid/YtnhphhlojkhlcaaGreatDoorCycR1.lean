/- TuneCycles on symbols, run at the codes 16 to 31. Nothing is claimed here. -/
import Derived.Test.YtnhphhlojkhlcaaGreatDoorCyc
namespace Go.Proofs.YtnhphhlojkhlcaaGreatDoor
open Go Go.Sx Go.RowKit
theorem cyc16 : cycAt 16 = .ok := by kernel_rfl
theorem cyc17 : cycAt 17 = .ok := by kernel_rfl
theorem cyc18 : cycAt 18 = .ok := by kernel_rfl
theorem cyc19 : cycAt 19 = .ok := by kernel_rfl
theorem cyc20 : cycAt 20 = .ok := by kernel_rfl
theorem cyc21 : cycAt 21 = .ok := by kernel_rfl
theorem cyc22 : cycAt 22 = .ok := by kernel_rfl
theorem cyc23 : cycAt 23 = .ok := by kernel_rfl
theorem cyc24 : cycAt 24 = .ok := by kernel_rfl
theorem cyc25 : cycAt 25 = .ok := by kernel_rfl
theorem cyc26 : cycAt 26 = .ok := by kernel_rfl
theorem cyc27 : cycAt 27 = .ok := by kernel_rfl
theorem cyc28 : cycAt 28 = .ok := by kernel_rfl
theorem cyc29 : cycAt 29 = .ok := by kernel_rfl
theorem cyc30 : cycAt 30 = .ok := by kernel_rfl
theorem cyc31 : cycAt 31 = .ok := by kernel_rfl
theorem cycs1 (c : Nat) (h1 : 16 ≤ c) (h2 : c < 32) : cycAt c = .ok := by
  have h : c = 16 ∨ c = 17 ∨ c = 18 ∨ c = 19 ∨ c = 20 ∨ c = 21 ∨ c = 22 ∨ c = 23 ∨ c = 24 ∨ c = 25 ∨ c = 26 ∨ c = 27 ∨ c = 28 ∨ c = 29 ∨ c = 30 ∨ c = 31 := by omega
  rcases h with rfl | rfl | rfl | rfl | rfl | rfl | rfl | rfl | rfl | rfl | rfl | rfl | rfl | rfl | rfl | rfl
  · exact cyc16
  · exact cyc17
  · exact cyc18
  · exact cyc19
  · exact cyc20
  · exact cyc21
  · exact cyc22
  · exact cyc23
  · exact cyc24
  · exact cyc25
  · exact cyc26
  · exact cyc27
  · exact cyc28
  · exact cyc29
  · exact cyc30
  · exact cyc31
end Go.Proofs.YtnhphhlojkhlcaaGreatDoor

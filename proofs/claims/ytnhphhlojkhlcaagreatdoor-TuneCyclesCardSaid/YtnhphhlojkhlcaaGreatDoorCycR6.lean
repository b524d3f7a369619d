/- TuneCycles on symbols, run at the codes 96 to 111. Nothing is claimed here. -/
import Derived.Test.YtnhphhlojkhlcaaGreatDoorCyc
namespace Go.Proofs.YtnhphhlojkhlcaaGreatDoor
open Go Go.Sx Go.RowKit
theorem cyc96 : cycAt 96 = .ok := by kernel_rfl
theorem cyc97 : cycAt 97 = .ok := by kernel_rfl
theorem cyc98 : cycAt 98 = .ok := by kernel_rfl
theorem cyc99 : cycAt 99 = .ok := by kernel_rfl
theorem cyc100 : cycAt 100 = .ok := by kernel_rfl
theorem cyc101 : cycAt 101 = .ok := by kernel_rfl
theorem cyc102 : cycAt 102 = .ok := by kernel_rfl
theorem cyc103 : cycAt 103 = .ok := by kernel_rfl
theorem cyc104 : cycAt 104 = .ok := by kernel_rfl
theorem cyc105 : cycAt 105 = .ok := by kernel_rfl
theorem cyc106 : cycAt 106 = .ok := by kernel_rfl
theorem cyc107 : cycAt 107 = .ok := by kernel_rfl
theorem cyc108 : cycAt 108 = .ok := by kernel_rfl
theorem cyc109 : cycAt 109 = .ok := by kernel_rfl
theorem cyc110 : cycAt 110 = .ok := by kernel_rfl
theorem cyc111 : cycAt 111 = .ok := by kernel_rfl
theorem cycs6 (c : Nat) (h1 : 96 ≤ c) (h2 : c < 112) : cycAt c = .ok := by
  have h : c = 96 ∨ c = 97 ∨ c = 98 ∨ c = 99 ∨ c = 100 ∨ c = 101 ∨ c = 102 ∨ c = 103 ∨ c = 104 ∨ c = 105 ∨ c = 106 ∨ c = 107 ∨ c = 108 ∨ c = 109 ∨ c = 110 ∨ c = 111 := by omega
  rcases h with rfl | rfl | rfl | rfl | rfl | rfl | rfl | rfl | rfl | rfl | rfl | rfl | rfl | rfl | rfl | rfl
  · exact cyc96
  · exact cyc97
  · exact cyc98
  · exact cyc99
  · exact cyc100
  · exact cyc101
  · exact cyc102
  · exact cyc103
  · exact cyc104
  · exact cyc105
  · exact cyc106
  · exact cyc107
  · exact cyc108
  · exact cyc109
  · exact cyc110
  · exact cyc111
end Go.Proofs.YtnhphhlojkhlcaaGreatDoor

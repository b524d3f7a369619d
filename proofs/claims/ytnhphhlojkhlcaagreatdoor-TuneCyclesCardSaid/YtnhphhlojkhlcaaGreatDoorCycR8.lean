/- TuneCycles on symbols, run at the codes 128 to 143. Nothing is claimed here. -/
import Derived.Test.YtnhphhlojkhlcaaGreatDoorCyc
namespace Go.Proofs.YtnhphhlojkhlcaaGreatDoor
open Go Go.Sx Go.RowKit
theorem cyc128 : cycAt 128 = .ok := by kernel_rfl
theorem cyc129 : cycAt 129 = .ok := by kernel_rfl
theorem cyc130 : cycAt 130 = .ok := by kernel_rfl
theorem cyc131 : cycAt 131 = .ok := by kernel_rfl
theorem cyc132 : cycAt 132 = .ok := by kernel_rfl
theorem cyc133 : cycAt 133 = .ok := by kernel_rfl
theorem cyc134 : cycAt 134 = .ok := by kernel_rfl
theorem cyc135 : cycAt 135 = .ok := by kernel_rfl
theorem cyc136 : cycAt 136 = .ok := by kernel_rfl
theorem cyc137 : cycAt 137 = .ok := by kernel_rfl
theorem cyc138 : cycAt 138 = .ok := by kernel_rfl
theorem cyc139 : cycAt 139 = .ok := by kernel_rfl
theorem cyc140 : cycAt 140 = .ok := by kernel_rfl
theorem cyc141 : cycAt 141 = .ok := by kernel_rfl
theorem cyc142 : cycAt 142 = .ok := by kernel_rfl
theorem cyc143 : cycAt 143 = .ok := by kernel_rfl
theorem cycs8 (c : Nat) (h1 : 128 ≤ c) (h2 : c < 144) : cycAt c = .ok := by
  have h : c = 128 ∨ c = 129 ∨ c = 130 ∨ c = 131 ∨ c = 132 ∨ c = 133 ∨ c = 134 ∨ c = 135 ∨ c = 136 ∨ c = 137 ∨ c = 138 ∨ c = 139 ∨ c = 140 ∨ c = 141 ∨ c = 142 ∨ c = 143 := by omega
  rcases h with rfl | rfl | rfl | rfl | rfl | rfl | rfl | rfl | rfl | rfl | rfl | rfl | rfl | rfl | rfl | rfl
  · exact cyc128
  · exact cyc129
  · exact cyc130
  · exact cyc131
  · exact cyc132
  · exact cyc133
  · exact cyc134
  · exact cyc135
  · exact cyc136
  · exact cyc137
  · exact cyc138
  · exact cyc139
  · exact cyc140
  · exact cyc141
  · exact cyc142
  · exact cyc143
end Go.Proofs.YtnhphhlojkhlcaaGreatDoor

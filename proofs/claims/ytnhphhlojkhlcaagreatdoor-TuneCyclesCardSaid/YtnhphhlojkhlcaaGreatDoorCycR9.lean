/- TuneCycles on symbols, run at the codes 144 to 159. Nothing is claimed here. -/
import Derived.Test.YtnhphhlojkhlcaaGreatDoorCyc
namespace Go.Proofs.YtnhphhlojkhlcaaGreatDoor
open Go Go.Sx Go.RowKit
theorem cyc144 : cycAt 144 = .ok := by kernel_rfl
theorem cyc145 : cycAt 145 = .ok := by kernel_rfl
theorem cyc146 : cycAt 146 = .ok := by kernel_rfl
theorem cyc147 : cycAt 147 = .ok := by kernel_rfl
theorem cyc148 : cycAt 148 = .ok := by kernel_rfl
theorem cyc149 : cycAt 149 = .ok := by kernel_rfl
theorem cyc150 : cycAt 150 = .ok := by kernel_rfl
theorem cyc151 : cycAt 151 = .ok := by kernel_rfl
theorem cyc152 : cycAt 152 = .ok := by kernel_rfl
theorem cyc153 : cycAt 153 = .ok := by kernel_rfl
theorem cyc154 : cycAt 154 = .ok := by kernel_rfl
theorem cyc155 : cycAt 155 = .ok := by kernel_rfl
theorem cyc156 : cycAt 156 = .ok := by kernel_rfl
theorem cyc157 : cycAt 157 = .ok := by kernel_rfl
theorem cyc158 : cycAt 158 = .ok := by kernel_rfl
theorem cyc159 : cycAt 159 = .ok := by kernel_rfl
theorem cycs9 (c : Nat) (h1 : 144 ≤ c) (h2 : c < 160) : cycAt c = .ok := by
  have h : c = 144 ∨ c = 145 ∨ c = 146 ∨ c = 147 ∨ c = 148 ∨ c = 149 ∨ c = 150 ∨ c = 151 ∨ c = 152 ∨ c = 153 ∨ c = 154 ∨ c = 155 ∨ c = 156 ∨ c = 157 ∨ c = 158 ∨ c = 159 := by omega
  rcases h with rfl | rfl | rfl | rfl | rfl | rfl | rfl | rfl | rfl | rfl | rfl | rfl | rfl | rfl | rfl | rfl
  · exact cyc144
  · exact cyc145
  · exact cyc146
  · exact cyc147
  · exact cyc148
  · exact cyc149
  · exact cyc150
  · exact cyc151
  · exact cyc152
  · exact cyc153
  · exact cyc154
  · exact cyc155
  · exact cyc156
  · exact cyc157
  · exact cyc158
  · exact cyc159
end Go.Proofs.YtnhphhlojkhlcaaGreatDoor

/- TuneCycles on symbols, run at the codes 160 to 175. Nothing is claimed here. -/
import Derived.Test.YtnhphhlojkhlcaaGreatDoorCyc
namespace Go.Proofs.YtnhphhlojkhlcaaGreatDoor
open Go Go.Sx Go.RowKit
theorem cyc160 : cycAt 160 = .ok := by kernel_rfl
theorem cyc161 : cycAt 161 = .ok := by kernel_rfl
theorem cyc162 : cycAt 162 = .ok := by kernel_rfl
theorem cyc163 : cycAt 163 = .ok := by kernel_rfl
theorem cyc164 : cycAt 164 = .ok := by kernel_rfl
theorem cyc165 : cycAt 165 = .ok := by kernel_rfl
theorem cyc166 : cycAt 166 = .ok := by kernel_rfl
theorem cyc167 : cycAt 167 = .ok := by kernel_rfl
theorem cyc168 : cycAt 168 = .ok := by kernel_rfl
theorem cyc169 : cycAt 169 = .ok := by kernel_rfl
theorem cyc170 : cycAt 170 = .ok := by kernel_rfl
theorem cyc171 : cycAt 171 = .ok := by kernel_rfl
theorem cyc172 : cycAt 172 = .ok := by kernel_rfl
theorem cyc173 : cycAt 173 = .ok := by kernel_rfl
theorem cyc174 : cycAt 174 = .ok := by kernel_rfl
theorem cyc175 : cycAt 175 = .ok := by kernel_rfl
theorem cycs10 (c : Nat) (h1 : 160 ≤ c) (h2 : c < 176) : cycAt c = .ok := by
  have h : c = 160 ∨ c = 161 ∨ c = 162 ∨ c = 163 ∨ c = 164 ∨ c = 165 ∨ c = 166 ∨ c = 167 ∨ c = 168 ∨ c = 169 ∨ c = 170 ∨ c = 171 ∨ c = 172 ∨ c = 173 ∨ c = 174 ∨ c = 175 := by omega
  rcases h with rfl | rfl | rfl | rfl | rfl | rfl | rfl | rfl | rfl | rfl | rfl | rfl | rfl | rfl | rfl | rfl
  · exact cyc160
  · exact cyc161
  · exact cyc162
  · exact cyc163
  · exact cyc164
  · exact cyc165
  · exact cyc166
  · exact cyc167
  · exact cyc168
  · exact cyc169
  · exact cyc170
  · exact cyc171
  · exact cyc172
  · exact cyc173
  · exact cyc174
  · exact cyc175
end Go.Proofs.YtnhphhlojkhlcaaGreatDoor

/- TuneCycles on symbols, run at the codes 176 to 191. Nothing is claimed here. -/
import Derived.Test.YtnhphhlojkhlcaaGreatDoorCyc
namespace Go.Proofs.YtnhphhlojkhlcaaGreatDoor
open Go Go.Sx Go.RowKit
theorem cyc176 : cycAt 176 = .ok := by kernel_rfl
theorem cyc177 : cycAt 177 = .ok := by kernel_rfl
theorem cyc178 : cycAt 178 = .ok := by kernel_rfl
theorem cyc179 : cycAt 179 = .ok := by kernel_rfl
theorem cyc180 : cycAt 180 = .ok := by kernel_rfl
theorem cyc181 : cycAt 181 = .ok := by kernel_rfl
theorem cyc182 : cycAt 182 = .ok := by kernel_rfl
theorem cyc183 : cycAt 183 = .ok := by kernel_rfl
theorem cyc184 : cycAt 184 = .ok := by kernel_rfl
theorem cyc185 : cycAt 185 = .ok := by kernel_rfl
theorem cyc186 : cycAt 186 = .ok := by kernel_rfl
theorem cyc187 : cycAt 187 = .ok := by kernel_rfl
theorem cyc188 : cycAt 188 = .ok := by kernel_rfl
theorem cyc189 : cycAt 189 = .ok := by kernel_rfl
theorem cyc190 : cycAt 190 = .ok := by kernel_rfl
theorem cyc191 : cycAt 191 = .ok := by kernel_rfl
theorem cycs11 (c : Nat) (h1 : 176 ≤ c) (h2 : c < 192) : cycAt c = .ok := by
  have h : c = 176 ∨ c = 177 ∨ c = 178 ∨ c = 179 ∨ c = 180 ∨ c = 181 ∨ c = 182 ∨ c = 183 ∨ c = 184 ∨ c = 185 ∨ c = 186 ∨ c = 187 ∨ c = 188 ∨ c = 189 ∨ c = 190 ∨ c = 191 := by omega
  rcases h with rfl | rfl | rfl | rfl | rfl | rfl | rfl | rfl | rfl | rfl | rfl | rfl | rfl | rfl | rfl | rfl
  · exact cyc176
  · exact cyc177
  · exact cyc178
  · exact cyc179
  · exact cyc180
  · exact cyc181
  · exact cyc182
  · exact cyc183
  · exact cyc184
  · exact cyc185
  · exact cyc186
  · exact cyc187
  · exact cyc188
  · exact cyc189
  · exact cyc190
  · exact cyc191
end Go.Proofs.YtnhphhlojkhlcaaGreatDoor

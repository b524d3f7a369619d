/- TuneCycles on symbols, run at the codes 208 to 223. Nothing is claimed here. -/
import Derived.Test.YtnhphhlojkhlcaaGreatDoorCyc
namespace Go.Proofs.YtnhphhlojkhlcaaGreatDoor
open Go Go.Sx Go.RowKit
theorem cyc208 : cycAt 208 = .ok := by kernel_rfl
theorem cyc209 : cycAt 209 = .ok := by kernel_rfl
theorem cyc210 : cycAt 210 = .ok := by kernel_rfl
theorem cyc211 : cycAt 211 = .ok := by kernel_rfl
theorem cyc212 : cycAt 212 = .ok := by kernel_rfl
theorem cyc213 : cycAt 213 = .ok := by kernel_rfl
theorem cyc214 : cycAt 214 = .ok := by kernel_rfl
theorem cyc215 : cycAt 215 = .ok := by kernel_rfl
theorem cyc216 : cycAt 216 = .ok := by kernel_rfl
theorem cyc217 : cycAt 217 = .ok := by kernel_rfl
theorem cyc218 : cycAt 218 = .ok := by kernel_rfl
theorem cyc219 : cycAt 219 = .ok := by kernel_rfl
theorem cyc220 : cycAt 220 = .ok := by kernel_rfl
theorem cyc221 : cycAt 221 = .ok := by kernel_rfl
theorem cyc222 : cycAt 222 = .ok := by kernel_rfl
theorem cyc223 : cycAt 223 = .ok := by kernel_rfl
theorem cycs13 (c : Nat) (h1 : 208 ≤ c) (h2 : c < 224) : cycAt c = .ok := by
  have h : c = 208 ∨ c = 209 ∨ c = 210 ∨ c = 211 ∨ c = 212 ∨ c = 213 ∨ c = 214 ∨ c = 215 ∨ c = 216 ∨ c = 217 ∨ c = 218 ∨ c = 219 ∨ c = 220 ∨ c = 221 ∨ c = 222 ∨ c = 223 := by omega
  rcases h with rfl | rfl | rfl | rfl | rfl | rfl | rfl | rfl | rfl | rfl | rfl | rfl | rfl | rfl | rfl | rfl
  · exact cyc208
  · exact cyc209
  · exact cyc210
  · exact cyc211
  · exact cyc212
  · exact cyc213
  · exact cyc214
  · exact cyc215
  · exact cyc216
  · exact cyc217
  · exact cyc218
  · exact cyc219
  · exact cyc220
  · exact cyc221
  · exact cyc222
  · exact cyc223
end Go.Proofs.YtnhphhlojkhlcaaGreatDoor

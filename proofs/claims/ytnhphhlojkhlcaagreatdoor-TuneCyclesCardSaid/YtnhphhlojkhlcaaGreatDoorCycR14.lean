/- TuneCycles on symbols, run at the codes 224 to 239. Nothing is claimed here. -/
import Derived.Test.YtnhphhlojkhlcaaGreatDoorCyc
namespace Go.Proofs.YtnhphhlojkhlcaaGreatDoor
open Go Go.Sx Go.RowKit
theorem cyc224 : cycAt 224 = .ok := by kernel_rfl
theorem cyc225 : cycAt 225 = .ok := by kernel_rfl
theorem cyc226 : cycAt 226 = .ok := by kernel_rfl
theorem cyc227 : cycAt 227 = .ok := by kernel_rfl
theorem cyc228 : cycAt 228 = .ok := by kernel_rfl
theorem cyc229 : cycAt 229 = .ok := by kernel_rfl
theorem cyc230 : cycAt 230 = .ok := by kernel_rfl
theorem cyc231 : cycAt 231 = .ok := by kernel_rfl
theorem cyc232 : cycAt 232 = .ok := by kernel_rfl
theorem cyc233 : cycAt 233 = .ok := by kernel_rfl
theorem cyc234 : cycAt 234 = .ok := by kernel_rfl
theorem cyc235 : cycAt 235 = .ok := by kernel_rfl
theorem cyc236 : cycAt 236 = .ok := by kernel_rfl
theorem cyc237 : cycAt 237 = .ok := by kernel_rfl
theorem cyc238 : cycAt 238 = .ok := by kernel_rfl
theorem cyc239 : cycAt 239 = .ok := by kernel_rfl
theorem cycs14 (c : Nat) (h1 : 224 ≤ c) (h2 : c < 240) : cycAt c = .ok := by
  have h : c = 224 ∨ c = 225 ∨ c = 226 ∨ c = 227 ∨ c = 228 ∨ c = 229 ∨ c = 230 ∨ c = 231 ∨ c = 232 ∨ c = 233 ∨ c = 234 ∨ c = 235 ∨ c = 236 ∨ c = 237 ∨ c = 238 ∨ c = 239 := by omega
  rcases h with rfl | rfl | rfl | rfl | rfl | rfl | rfl | rfl | rfl | rfl | rfl | rfl | rfl | rfl | rfl | rfl
  · exact cyc224
  · exact cyc225
  · exact cyc226
  · exact cyc227
  · exact cyc228
  · exact cyc229
  · exact cyc230
  · exact cyc231
  · exact cyc232
  · exact cyc233
  · exact cyc234
  · exact cyc235
  · exact cyc236
  · exact cyc237
  · exact cyc238
  · exact cyc239
end Go.Proofs.YtnhphhlojkhlcaaGreatDoor

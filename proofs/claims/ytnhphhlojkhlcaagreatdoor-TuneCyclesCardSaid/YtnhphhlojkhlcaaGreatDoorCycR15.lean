/- TuneCycles on symbols, run at the codes 240 to 255. Nothing is claimed here. -/
import Derived.Test.YtnhphhlojkhlcaaGreatDoorCyc
namespace Go.Proofs.YtnhphhlojkhlcaaGreatDoor
open Go Go.Sx Go.RowKit
theorem cyc240 : cycAt 240 = .ok := by kernel_rfl
theorem cyc241 : cycAt 241 = .ok := by kernel_rfl
theorem cyc242 : cycAt 242 = .ok := by kernel_rfl
theorem cyc243 : cycAt 243 = .ok := by kernel_rfl
theorem cyc244 : cycAt 244 = .ok := by kernel_rfl
theorem cyc245 : cycAt 245 = .ok := by kernel_rfl
theorem cyc246 : cycAt 246 = .ok := by kernel_rfl
theorem cyc247 : cycAt 247 = .ok := by kernel_rfl
theorem cyc248 : cycAt 248 = .ok := by kernel_rfl
theorem cyc249 : cycAt 249 = .ok := by kernel_rfl
theorem cyc250 : cycAt 250 = .ok := by kernel_rfl
theorem cyc251 : cycAt 251 = .ok := by kernel_rfl
theorem cyc252 : cycAt 252 = .ok := by kernel_rfl
theorem cyc253 : cycAt 253 = .ok := by kernel_rfl
theorem cyc254 : cycAt 254 = .ok := by kernel_rfl
theorem cyc255 : cycAt 255 = .ok := by kernel_rfl
theorem cycs15 (c : Nat) (h1 : 240 ≤ c) (h2 : c < 256) : cycAt c = .ok := by
  have h : c = 240 ∨ c = 241 ∨ c = 242 ∨ c = 243 ∨ c = 244 ∨ c = 245 ∨ c = 246 ∨ c = 247 ∨ c = 248 ∨ c = 249 ∨ c = 250 ∨ c = 251 ∨ c = 252 ∨ c = 253 ∨ c = 254 ∨ c = 255 := by omega
  rcases h with rfl | rfl | rfl | rfl | rfl | rfl | rfl | rfl | rfl | rfl | rfl | rfl | rfl | rfl | rfl | rfl
  · exact cyc240
  · exact cyc241
  · exact cyc242
  · exact cyc243
  · exact cyc244
  · exact cyc245
  · exact cyc246
  · exact cyc247
  · exact cyc248
  · exact cyc249
  · exact cyc250
  · exact cyc251
  · exact cyc252
  · exact cyc253
  · exact cyc254
  · exact cyc255
end Go.Proofs.YtnhphhlojkhlcaaGreatDoor

/- TuneCycles on symbols, run at the codes 192 to 207. Nothing is claimed here. -/
import Derived.Test.YtnhphhlojkhlcaaGreatDoorCyc
namespace Go.Proofs.YtnhphhlojkhlcaaGreatDoor
open Go Go.Sx Go.RowKit
theorem cyc192 : cycAt 192 = .ok := by kernel_rfl
theorem cyc193 : cycAt 193 = .ok := by kernel_rfl
theorem cyc194 : cycAt 194 = .ok := by kernel_rfl
theorem cyc195 : cycAt 195 = .ok := by kernel_rfl
theorem cyc196 : cycAt 196 = .ok := by kernel_rfl
theorem cyc197 : cycAt 197 = .ok := by kernel_rfl
theorem cyc198 : cycAt 198 = .ok := by kernel_rfl
theorem cyc199 : cycAt 199 = .ok := by kernel_rfl
theorem cyc200 : cycAt 200 = .ok := by kernel_rfl
theorem cyc201 : cycAt 201 = .ok := by kernel_rfl
theorem cyc202 : cycAt 202 = .ok := by kernel_rfl
theorem cyc203 : cycAt 203 = .ok := by kernel_rfl
theorem cyc204 : cycAt 204 = .ok := by kernel_rfl
theorem cyc205 : cycAt 205 = .ok := by kernel_rfl
theorem cyc206 : cycAt 206 = .ok := by kernel_rfl
theorem cyc207 : cycAt 207 = .ok := by kernel_rfl
theorem cycs12 (c : Nat) (h1 : 192 ≤ c) (h2 : c < 208) : cycAt c = .ok := by
  have h : c = 192 ∨ c = 193 ∨ c = 194 ∨ c = 195 ∨ c = 196 ∨ c = 197 ∨ c = 198 ∨ c = 199 ∨ c = 200 ∨ c = 201 ∨ c = 202 ∨ c = 203 ∨ c = 204 ∨ c = 205 ∨ c = 206 ∨ c = 207 := by omega
  rcases h with rfl | rfl | rfl | rfl | rfl | rfl | rfl | rfl | rfl | rfl | rfl | rfl | rfl | rfl | rfl | rfl
  · exact cyc192
  · exact cyc193
  · exact cyc194
  · exact cyc195
  · exact cyc196
  · exact cyc197
  · exact cyc198
  · exact cyc199
  · exact cyc200
  · exact cyc201
  · exact cyc202
  · exact cyc203
  · exact cyc204
  · exact cyc205
  · exact cyc206
  · exact cyc207
end Go.Proofs.YtnhphhlojkhlcaaGreatDoor

/- TuneCycles on symbols, run at the codes 112 to 127. Nothing is claimed here. -/
import Derived.Test.YtnhphhlojkhlcaaGreatDoorCyc
namespace Go.Proofs.YtnhphhlojkhlcaaGreatDoor
open Go Go.Sx Go.RowKit
theorem cyc112 : cycAt 112 = .ok := by kernel_rfl
theorem cyc113 : cycAt 113 = .ok := by kernel_rfl
theorem cyc114 : cycAt 114 = .ok := by kernel_rfl
theorem cyc115 : cycAt 115 = .ok := by kernel_rfl
theorem cyc116 : cycAt 116 = .ok := by kernel_rfl
theorem cyc117 : cycAt 117 = .ok := by kernel_rfl
theorem cyc118 : cycAt 118 = .ok := by kernel_rfl
theorem cyc119 : cycAt 119 = .ok := by kernel_rfl
theorem cyc120 : cycAt 120 = .ok := by kernel_rfl
theorem cyc121 : cycAt 121 = .ok := by kernel_rfl
theorem cyc122 : cycAt 122 = .ok := by kernel_rfl
theorem cyc123 : cycAt 123 = .ok := by kernel_rfl
theorem cyc124 : cycAt 124 = .ok := by kernel_rfl
theorem cyc125 : cycAt 125 = .ok := by kernel_rfl
theorem cyc126 : cycAt 126 = .ok := by kernel_rfl
theorem cyc127 : cycAt 127 = .ok := by kernel_rfl
theorem cycs7 (c : Nat) (h1 : 112 ≤ c) (h2 : c < 128) : cycAt c = .ok := by
  have h : c = 112 ∨ c = 113 ∨ c = 114 ∨ c = 115 ∨ c = 116 ∨ c = 117 ∨ c = 118 ∨ c = 119 ∨ c = 120 ∨ c = 121 ∨ c = 122 ∨ c = 123 ∨ c = 124 ∨ c = 125 ∨ c = 126 ∨ c = 127 := by omega
  rcases h with rfl | rfl | rfl | rfl | rfl | rfl | rfl | rfl | rfl | rfl | rfl | rfl | rfl | rfl | rfl | rfl
  · exact cyc112
  · exact cyc113
  · exact cyc114
  · exact cyc115
  · exact cyc116
  · exact cyc117
  · exact cyc118
  · exact cyc119
  · exact cyc120
  · exact cyc121
  · exact cyc122
  · exact cyc123
  · exact cyc124
  · exact cyc125
  · exact cyc126
  · exact cyc127
end Go.Proofs.YtnhphhlojkhlcaaGreatDoor

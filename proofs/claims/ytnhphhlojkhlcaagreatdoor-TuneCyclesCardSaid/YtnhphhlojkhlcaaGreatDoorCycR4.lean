/- TuneCycles on symbols, run at the codes 64 to 79. Nothing is claimed here. -/
import Derived.Test.YtnhphhlojkhlcaaGreatDoorCyc
namespace Go.Proofs.YtnhphhlojkhlcaaGreatDoor
open Go Go.Sx Go.RowKit
theorem cyc64 : cycAt 64 = .ok := by kernel_rfl
theorem cyc65 : cycAt 65 = .ok := by kernel_rfl
theorem cyc66 : cycAt 66 = .ok := by kernel_rfl
theorem cyc67 : cycAt 67 = .ok := by kernel_rfl
theorem cyc68 : cycAt 68 = .ok := by kernel_rfl
theorem cyc69 : cycAt 69 = .ok := by kernel_rfl
theorem cyc70 : cycAt 70 = .ok := by kernel_rfl
theorem cyc71 : cycAt 71 = .ok := by kernel_rfl
theorem cyc72 : cycAt 72 = .ok := by kernel_rfl
theorem cyc73 : cycAt 73 = .ok := by kernel_rfl
theorem cyc74 : cycAt 74 = .ok := by kernel_rfl
theorem cyc75 : cycAt 75 = .ok := by kernel_rfl
theorem cyc76 : cycAt 76 = .ok := by kernel_rfl
theorem cyc77 : cycAt 77 = .ok := by kernel_rfl
theorem cyc78 : cycAt 78 = .ok := by kernel_rfl
theorem cyc79 : cycAt 79 = .ok := by kernel_rfl
theorem cycs4 (c : Nat) (h1 : 64 ≤ c) (h2 : c < 80) : cycAt c = .ok := by
  have h : c = 64 ∨ c = 65 ∨ c = 66 ∨ c = 67 ∨ c = 68 ∨ c = 69 ∨ c = 70 ∨ c = 71 ∨ c = 72 ∨ c = 73 ∨ c = 74 ∨ c = 75 ∨ c = 76 ∨ c = 77 ∨ c = 78 ∨ c = 79 := by omega
  rcases h with rfl | rfl | rfl | rfl | rfl | rfl | rfl | rfl | rfl | rfl | rfl | rfl | rfl | rfl | rfl | rfl
  · exact cyc64
  · exact cyc65
  · exact cyc66
  · exact cyc67
  · exact cyc68
  · exact cyc69
  · exact cyc70
  · exact cyc71
  · exact cyc72
  · exact cyc73
  · exact cyc74
  · exact cyc75
  · exact cyc76
  · exact cyc77
  · exact cyc78
  · exact cyc79
end Go.Proofs.YtnhphhlojkhlcaaGreatDoor

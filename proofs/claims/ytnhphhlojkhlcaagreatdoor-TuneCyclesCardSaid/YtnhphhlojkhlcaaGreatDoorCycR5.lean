/- TuneCycles on symbols, run at the codes 80 to 95. Nothing is claimed here. -/
import Derived.Test.YtnhphhlojkhlcaaGreatDoorCyc
namespace Go.Proofs.YtnhphhlojkhlcaaGreatDoor
open Go Go.Sx Go.RowKit
theorem cyc80 : cycAt 80 = .ok := by kernel_rfl
theorem cyc81 : cycAt 81 = .ok := by kernel_rfl
theorem cyc82 : cycAt 82 = .ok := by kernel_rfl
theorem cyc83 : cycAt 83 = .ok := by kernel_rfl
theorem cyc84 : cycAt 84 = .ok := by kernel_rfl
theorem cyc85 : cycAt 85 = .ok := by kernel_rfl
theorem cyc86 : cycAt 86 = .ok := by kernel_rfl
theorem cyc87 : cycAt 87 = .ok := by kernel_rfl
theorem cyc88 : cycAt 88 = .ok := by kernel_rfl
theorem cyc89 : cycAt 89 = .ok := by kernel_rfl
theorem cyc90 : cycAt 90 = .ok := by kernel_rfl
theorem cyc91 : cycAt 91 = .ok := by kernel_rfl
theorem cyc92 : cycAt 92 = .ok := by kernel_rfl
theorem cyc93 : cycAt 93 = .ok := by kernel_rfl
theorem cyc94 : cycAt 94 = .ok := by kernel_rfl
theorem cyc95 : cycAt 95 = .ok := by kernel_rfl
theorem cycs5 (c : Nat) (h1 : 80 ≤ c) (h2 : c < 96) : cycAt c = .ok := by
  have h : c = 80 ∨ c = 81 ∨ c = 82 ∨ c = 83 ∨ c = 84 ∨ c = 85 ∨ c = 86 ∨ c = 87 ∨ c = 88 ∨ c = 89 ∨ c = 90 ∨ c = 91 ∨ c = 92 ∨ c = 93 ∨ c = 94 ∨ c = 95 := by omega
  rcases h with rfl | rfl | rfl | rfl | rfl | rfl | rfl | rfl | rfl | rfl | rfl | rfl | rfl | rfl | rfl | rfl
  · exact cyc80
  · exact cyc81
  · exact cyc82
  · exact cyc83
  · exact cyc84
  · exact cyc85
  · exact cyc86
  · exact cyc87
  · exact cyc88
  · exact cyc89
  · exact cyc90
  · exact cyc91
  · exact cyc92
  · exact cyc93
  · exact cyc94
  · exact cyc95
end Go.Proofs.YtnhphhlojkhlcaaGreatDoor

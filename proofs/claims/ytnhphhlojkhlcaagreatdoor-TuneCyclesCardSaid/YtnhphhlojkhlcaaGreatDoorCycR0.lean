/- TuneCycles on symbols, run at the codes 0 to 15. Nothing is claimed here. -/
import Derived.Test.YtnhphhlojkhlcaaGreatDoorCyc
namespace Go.Proofs.YtnhphhlojkhlcaaGreatDoor
open Go Go.Sx Go.RowKit
theorem cyc0 : cycAt 0 = .ok := by kernel_rfl
theorem cyc1 : cycAt 1 = .ok := by kernel_rfl
theorem cyc2 : cycAt 2 = .ok := by kernel_rfl
theorem cyc3 : cycAt 3 = .ok := by kernel_rfl
theorem cyc4 : cycAt 4 = .ok := by kernel_rfl
theorem cyc5 : cycAt 5 = .ok := by kernel_rfl
theorem cyc6 : cycAt 6 = .ok := by kernel_rfl
theorem cyc7 : cycAt 7 = .ok := by kernel_rfl
theorem cyc8 : cycAt 8 = .ok := by kernel_rfl
theorem cyc9 : cycAt 9 = .ok := by kernel_rfl
theorem cyc10 : cycAt 10 = .ok := by kernel_rfl
theorem cyc11 : cycAt 11 = .ok := by kernel_rfl
theorem cyc12 : cycAt 12 = .ok := by kernel_rfl
theorem cyc13 : cycAt 13 = .ok := by kernel_rfl
theorem cyc14 : cycAt 14 = .ok := by kernel_rfl
theorem cyc15 : cycAt 15 = .ok := by kernel_rfl
theorem cycHalt : kCycV (.lit 1) [(.op .len (lvk 2) (.lit 0) 0, 65536, 65536)] = .ok := by kernel_rfl
theorem cycs0 (c : Nat) (h1 : 0 ≤ c) (h2 : c < 16) : cycAt c = .ok := by
  have h : c = 0 ∨ c = 1 ∨ c = 2 ∨ c = 3 ∨ c = 4 ∨ c = 5 ∨ c = 6 ∨ c = 7 ∨ c = 8 ∨ c = 9 ∨ c = 10 ∨ c = 11 ∨ c = 12 ∨ c = 13 ∨ c = 14 ∨ c = 15 := by omega
  rcases h with rfl | rfl | rfl | rfl | rfl | rfl | rfl | rfl | rfl | rfl | rfl | rfl | rfl | rfl | rfl | rfl
  · exact cyc0
  · exact cyc1
  · exact cyc2
  · exact cyc3
  · exact cyc4
  · exact cyc5
  · exact cyc6
  · exact cyc7
  · exact cyc8
  · exact cyc9
  · exact cyc10
  · exact cyc11
  · exact cyc12
  · exact cyc13
  · exact cyc14
  · exact cyc15
end Go.Proofs.YtnhphhlojkhlcaaGreatDoor

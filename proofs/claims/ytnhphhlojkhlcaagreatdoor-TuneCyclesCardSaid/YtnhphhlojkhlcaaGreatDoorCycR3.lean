/- TuneCycles on symbols, run at the codes 48 to 63. Nothing is claimed here. -/
import Derived.Test.YtnhphhlojkhlcaaGreatDoorCyc
namespace Go.Proofs.YtnhphhlojkhlcaaGreatDoor
open Go Go.Sx Go.RowKit
theorem cyc48 : cycAt 48 = .ok := by kernel_rfl
theorem cyc49 : cycAt 49 = .ok := by kernel_rfl
theorem cyc50 : cycAt 50 = .ok := by kernel_rfl
theorem cyc51 : cycAt 51 = .ok := by kernel_rfl
theorem cyc52 : cycAt 52 = .ok := by kernel_rfl
theorem cyc53 : cycAt 53 = .ok := by kernel_rfl
theorem cyc54 : cycAt 54 = .ok := by kernel_rfl
theorem cyc55 : cycAt 55 = .ok := by kernel_rfl
theorem cyc56 : cycAt 56 = .ok := by kernel_rfl
theorem cyc57 : cycAt 57 = .ok := by kernel_rfl
theorem cyc58 : cycAt 58 = .ok := by kernel_rfl
theorem cyc59 : cycAt 59 = .ok := by kernel_rfl
theorem cyc60 : cycAt 60 = .ok := by kernel_rfl
theorem cyc61 : cycAt 61 = .ok := by kernel_rfl
theorem cyc62 : cycAt 62 = .ok := by kernel_rfl
theorem cyc63 : cycAt 63 = .ok := by kernel_rfl
theorem cycs3 (c : Nat) (h1 : 48 ≤ c) (h2 : c < 64) : cycAt c = .ok := by
  have h : c = 48 ∨ c = 49 ∨ c = 50 ∨ c = 51 ∨ c = 52 ∨ c = 53 ∨ c = 54 ∨ c = 55 ∨ c = 56 ∨ c = 57 ∨ c = 58 ∨ c = 59 ∨ c = 60 ∨ c = 61 ∨ c = 62 ∨ c = 63 := by omega
  rcases h with rfl | rfl | rfl | rfl | rfl | rfl | rfl | rfl | rfl | rfl | rfl | rfl | rfl | rfl | rfl | rfl
  · exact cyc48
  · exact cyc49
  · exact cyc50
  · exact cyc51
  · exact cyc52
  · exact cyc53
  · exact cyc54
  · exact cyc55
  · exact cyc56
  · exact cyc57
  · exact cyc58
  · exact cyc59
  · exact cyc60
  · exact cyc61
  · exact cyc62
  · exact cyc63
end Go.Proofs.YtnhphhlojkhlcaaGreatDoor

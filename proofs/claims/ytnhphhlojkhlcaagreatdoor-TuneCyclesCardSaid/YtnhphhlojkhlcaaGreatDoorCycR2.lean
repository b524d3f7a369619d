/- TuneCycles on symbols, run at the codes 32 to 47. Nothing is claimed here. -/
import Derived.Test.YtnhphhlojkhlcaaGreatDoorCyc
namespace Go.Proofs.YtnhphhlojkhlcaaGreatDoor
open Go Go.Sx Go.RowKit
theorem cyc32 : cycAt 32 = .ok := by kernel_rfl
theorem cyc33 : cycAt 33 = .ok := by kernel_rfl
theorem cyc34 : cycAt 34 = .ok := by kernel_rfl
theorem cyc35 : cycAt 35 = .ok := by kernel_rfl
theorem cyc36 : cycAt 36 = .ok := by kernel_rfl
theorem cyc37 : cycAt 37 = .ok := by kernel_rfl
theorem cyc38 : cycAt 38 = .ok := by kernel_rfl
theorem cyc39 : cycAt 39 = .ok := by kernel_rfl
theorem cyc40 : cycAt 40 = .ok := by kernel_rfl
theorem cyc41 : cycAt 41 = .ok := by kernel_rfl
theorem cyc42 : cycAt 42 = .ok := by kernel_rfl
theorem cyc43 : cycAt 43 = .ok := by kernel_rfl
theorem cyc44 : cycAt 44 = .ok := by kernel_rfl
theorem cyc45 : cycAt 45 = .ok := by kernel_rfl
theorem cyc46 : cycAt 46 = .ok := by kernel_rfl
theorem cyc47 : cycAt 47 = .ok := by kernel_rfl
theorem cycs2 (c : Nat) (h1 : 32 ≤ c) (h2 : c < 48) : cycAt c = .ok := by
  have h : c = 32 ∨ c = 33 ∨ c = 34 ∨ c = 35 ∨ c = 36 ∨ c = 37 ∨ c = 38 ∨ c = 39 ∨ c = 40 ∨ c = 41 ∨ c = 42 ∨ c = 43 ∨ c = 44 ∨ c = 45 ∨ c = 46 ∨ c = 47 := by omega
  rcases h with rfl | rfl | rfl | rfl | rfl | rfl | rfl | rfl | rfl | rfl | rfl | rfl | rfl | rfl | rfl | rfl
  · exact cyc32
  · exact cyc33
  · exact cyc34
  · exact cyc35
  · exact cyc36
  · exact cyc37
  · exact cyc38
  · exact cyc39
  · exact cyc40
  · exact cyc41
  · exact cyc42
  · exact cyc43
  · exact cyc44
  · exact cyc45
  · exact cyc46
  · exact cyc47
end Go.Proofs.YtnhphhlojkhlcaaGreatDoor

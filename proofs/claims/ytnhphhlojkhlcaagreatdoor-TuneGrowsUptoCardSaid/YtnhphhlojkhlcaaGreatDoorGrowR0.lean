/- TuneGrows on symbols, run at some codes. Nothing is claimed here. -/
import Derived.Test.YtnhphhlojkhlcaaGreatDoorGrowS
namespace Go.Proofs.YtnhphhlojkhlcaaGreatDoor
open Go Go.Sx Go.RowKit
theorem grAZ1 : grAZ 1 = .ok := by kernel_rfl
theorem grAZ10 : grAZ 10 = .ok := by kernel_rfl
theorem grZA11 : grZA 11 = .ok := by kernel_rfl
theorem grAZ15 : grAZ 15 = .ok := by kernel_rfl
theorem grZA16 : grZA 16 = .ok := by kernel_rfl
theorem grAA19 : grAA 19 = .ok := by kernel_rfl
theorem grZA19 : grZA 19 = .ok := by kernel_rfl
theorem grAA20 : grAA 20 = .ok := by kernel_rfl
theorem grAA21 : grAA 21 = .ok := by kernel_rfl
theorem grAZ31 : grAZ 31 = .ok := by kernel_rfl
theorem grAA37 : grAA 37 = .ok := by kernel_rfl
theorem grAA54 : grAA 54 = .ok := by kernel_rfl
theorem grAZ57 : grAZ 57 = .ok := by kernel_rfl
theorem grZA62 : grZA 62 = .ok := by kernel_rfl
theorem grZA69 : grZA 69 = .ok := by kernel_rfl
theorem grAA71 : grAA 71 = .ok := by kernel_rfl
theorem grAZ73 : grAZ 73 = .ok := by kernel_rfl
theorem grAA77 : grAA 77 = .ok := by kernel_rfl
theorem grAA78 : grAA 78 = .ok := by kernel_rfl
theorem grAA81 : grAA 81 = .ok := by kernel_rfl
theorem grAA93 : grAA 93 = .ok := by kernel_rfl
theorem grAZ96 : grAZ 96 = .ok := by kernel_rfl
theorem grZA96 : grZA 96 = .ok := by kernel_rfl
theorem grAA106 : grAA 106 = .ok := by kernel_rfl
theorem grAA113 : grAA 113 = .ok := by kernel_rfl
theorem grZA119 : grZA 119 = .ok := by kernel_rfl
theorem grZA123 : grZA 123 = .ok := by kernel_rfl
theorem grAA125 : grAA 125 = .ok := by kernel_rfl
theorem grAZ132 : grAZ 132 = .ok := by kernel_rfl
theorem grAA136 : grAA 136 = .ok := by kernel_rfl
theorem grAZ142 : grAZ 142 = .ok := by kernel_rfl
theorem grAZ143 : grAZ 143 = .ok := by kernel_rfl
theorem grAZ147 : grAZ 147 = .ok := by kernel_rfl
theorem grZA150 : grZA 150 = .ok := by kernel_rfl
theorem grZA154 : grZA 154 = .ok := by kernel_rfl
theorem grAZ156 : grAZ 156 = .ok := by kernel_rfl
theorem grZA166 : grZA 166 = .ok := by kernel_rfl
theorem grAZ167 : grAZ 167 = .ok := by kernel_rfl
theorem grAZ178 : grAZ 178 = .ok := by kernel_rfl
theorem grZA179 : grZA 179 = .ok := by kernel_rfl
theorem grAA185 : grAA 185 = .ok := by kernel_rfl
theorem grZA189 : grZA 189 = .ok := by kernel_rfl
theorem grZA194 : grZA 194 = .ok := by kernel_rfl
theorem grAA198 : grAA 198 = .ok := by kernel_rfl
theorem grAZ209 : grAZ 209 = .ok := by kernel_rfl
theorem grZA217 : grZA 217 = .ok := by kernel_rfl
theorem grAZ221 : grAZ 221 = .ok := by kernel_rfl
theorem grZA225 : grZA 225 = .ok := by kernel_rfl
theorem grZA230 : grZA 230 = .ok := by kernel_rfl
theorem grAZ240 : grAZ 240 = .ok := by kernel_rfl
theorem grAA242 : grAA 242 = .ok := by kernel_rfl
theorem grZA242 : grZA 242 = .ok := by kernel_rfl
theorem grAA243 : grAA 243 = .ok := by kernel_rfl
theorem grAA246 : grAA 246 = .ok := by kernel_rfl
theorem grAZ248 : grAZ 248 = .ok := by kernel_rfl
theorem grZZ0 : grZZ 0 = .ok := by kernel_rfl
theorem grZZ1 : grZZ 1 = .ok := by kernel_rfl
theorem grHAZ_ok : grHAZ = .ok := by kernel_rfl
theorem grHZA_ok : grHZA = .ok := by kernel_rfl
theorem grHAA_ok : grHAA = .ok := by kernel_rfl
end Go.Proofs.YtnhphhlojkhlcaaGreatDoor

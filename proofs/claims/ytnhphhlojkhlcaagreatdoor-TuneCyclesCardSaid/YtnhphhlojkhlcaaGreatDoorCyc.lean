/- TuneCycles on symbols: the state ahead of it. Nothing is claimed here. -/
import Derived.Test.YtnhphhlojkhlcaaGreatDoorOfTbl
namespace Go.Proofs.YtnhphhlojkhlcaaGreatDoor
open Go Go.Sx Go.RowKit

/-- The cells of a memory, as they come in: perhaps none. -/
def cellsS : SV := .nslice 0 (lenT (lvk 3)) (vr 62 0 big) (vr 61 0 big) 2 (vr 63 0 1)
/-- What memory answers: a row that stands for the list number 2. -/
def memC : CF → List SV → Hs → (FR → Hs → V) → V := fun _ args h k =>
  bif sames (SV.same 6) args [cellsS, .int .u8 (vr 50 0 255)] then k (.ret (.slice h.hn (.lit 0) (.lit 65536) (some (.lit 65536)) 1)) (h.alloc (.ints .u8 8 (lvk 2) 5 true)) else .bad 525 args

def cycSums : Sums := fun f => bif Nat.beq f 9 then some memC else bif Nat.beq f 17 then some yes else bif Nat.beq f 49 then some (oneS noteTbl) else none
noncomputable def kCycSums : Sums := fun f => bif Nat.beq f 9 then some memC else bif Nat.beq f 17 then some K_yes.v else bif Nat.beq f 49 then some (K_oneS.v noteTbl) else none
theorem kCycSums_eq : cycSums = kCycSums := by unfold cycSums kCycSums; rw [← K_yes.e, ← K_oneS.e]

def pcT : T := bytes2 5 10
def cycF (c : Nat) : Facts := [(.op .rd (lvk 2) pcT 8, (c : Int), (c : Int)), (.op .len (lvk 2) (.lit 0) 0, 65536, 65536)]
def cycH (fs : Facts) : Hs := { hp := .e, hn := 1, fs := fs, n0 := 1, ng := 0 }
noncomputable def cycV (halt : T) (fs : Facts) : V := callN Tryz.prog ext cycSums (fun _ _ => none) 600 60 7 [.agg (pegL halt), cellsS, .int .u8 (vr 50 0 255)] (cycH fs) fin
noncomputable def kCycV (halt : T) (fs : Facts) : V := K_callN.v Tryz.prog kext kCycSums (fun _ _ => none) 600 60 7 [.agg (pegL halt), cellsS, .int .u8 (vr 50 0 255)] (cycH fs) K_fin.v
theorem kCycV_eq (halt : T) (fs : Facts) : cycV halt fs = kCycV halt fs := by
  unfold cycV kCycV
  rw [← K_callN.e, ← K_fin.e, kext_eq, kCycSums_eq]
/-- At one code. -/
noncomputable def cycAt (c : Nat) : V := kCycV (.lit 0) (cycF c)
end Go.Proofs.YtnhphhlojkhlcaaGreatDoor

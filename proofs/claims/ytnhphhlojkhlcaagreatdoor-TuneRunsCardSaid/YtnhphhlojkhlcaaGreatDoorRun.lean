/- TuneRuns on symbols: the state ahead of it. Nothing is claimed here. -/
import Derived.Test.YtnhphhlojkhlcaaGreatDoorOfTbl
namespace Go.Proofs.YtnhphhlojkhlcaaGreatDoor
open Go Go.Sx Go.RowKit

/-- The cells of a memory, as they come in: perhaps none. -/
def cellsS : SV := .nslice 0 (lenT (lvk 3)) (vr 62 0 big) (vr 61 0 big) 2 (vr 63 0 1)
/-- What memory answers: a row that stands for the list number 2. -/
def memC : CF → List SV → Hs → (FR → Hs → V) → V := fun _ args h k =>
  bif sames (SV.same 6) args [cellsS, .int .u8 (vr 50 0 255)] then k (.ret (.slice h.hn (.lit 0) (.lit 65536) (some (.lit 65536)) 1)) (h.alloc (.ints .u8 8 (lvk 2) 5 true)) else .bad 525 args

def pcT : T := bytes2 5 10
def cycF (c : Nat) : Facts := [(.op .rd (lvk 2) pcT 8, (c : Int), (c : Int)), (.op .len (lvk 2) (.lit 0) 0, 65536, 65536)]
def cycH (fs : Facts) : Hs := { hp := .e, hn := 1, fs := fs, n0 := 1, ng := 0 }
def lsp (var cnt : Nat) (b : LBound) (keep : List Nat) (rows : List LRow) : LSpec := ⟨var, cnt, b, keep, rows⟩
/-- The copy's loop, the comparison's. -/
def runLoops : FuncId → Nat → Option LSpec := fun f _ => bif Nat.beq f 11 then some (lsp 9001 4 (.len 0 0) [0, 3] [.copy 3 0]) else bif Nat.beq f 14 then some (lsp 9002 5 (.len 0 0) [0, 1] []) else none

def runSums : Sums := fun f => bif Nat.beq f 9 then some memC else bif Nat.beq f 49 then some (oneS noteTbl) else bif Nat.beq f 21 then some (oneS noteTbl) else none
noncomputable def kRunSums : Sums := fun f => bif Nat.beq f 9 then some memC else bif Nat.beq f 49 then some (K_oneS.v noteTbl) else bif Nat.beq f 21 then some (K_oneS.v noteTbl) else none
theorem kRunSums_eq : runSums = kRunSums := by unfold runSums kRunSums; rw [← K_oneS.e]

noncomputable def runV (halt : T) (fs : Facts) : V := callN Tryz.prog ext runSums runLoops 600 60 3 [.agg (pegL halt), cellsS, .int .u8 (vr 50 0 255)] (cycH fs) fin
noncomputable def kRunV (halt : T) (fs : Facts) : V := K_callN.v Tryz.prog kext kRunSums runLoops 600 60 3 [.agg (pegL halt), cellsS, .int .u8 (vr 50 0 255)] (cycH fs) K_fin.v
theorem kRunV_eq (halt : T) (fs : Facts) : runV halt fs = kRunV halt fs := by
  unfold runV kRunV
  rw [← K_callN.e, ← K_fin.e, kext_eq, kRunSums_eq]
/-- At one code. -/
noncomputable def runAt (c : Nat) : V := kRunV (.lit 0) (cycF c)
/-- At one code, the page flag known. -/
noncomputable def runAtP (c : Nat) (b : Int) : V := kRunV (.lit 0) ((.var 105 0 1, b, b) :: cycF c)
end Go.Proofs.YtnhphhlojkhlcaaGreatDoor

/- TuneGrows on symbols: the states ahead of it. Nothing is claimed here. -/
import Derived.Test.YtnhphhlojkhlcaaGreatDoorGxOfTbl
namespace Go.Proofs.YtnhphhlojkhlcaaGreatDoor
open Go Go.Sx Go.RowKit

/-- Further than any place; how many bytes at most. -/
def top : Int := 140737488355328
def bulk : Int := 1048576
/-- The bytes that were seen; none. More bytes; none. -/
def seenA : SV := .slice 0 (lenT (lvk 3)) (lenT (lvk 1)) (some (vr 61 0 top)) 1
def seenZ : SV := .nslice 0 (lenT (lvk 3)) (.lit 0) (vr 61 0 top) 1 (vr 63 0 1)
def moreA : SV := .slice 1 (lenT (lvk 4)) (lenT (lvk 2)) (some (vr 65 0 top)) 1
def moreZ : SV := .nslice 1 (lenT (lvk 4)) (.lit 0) (vr 65 0 top) 1 (vr 66 0 1)
def rowA : SObj := .recs [(.u8, 8)] (lvk 1) (lenT (lvk 3))
def rowM : SObj := .recs [(.u8, 8)] (lvk 2) (lenT (lvk 4))
/-- Both rows, one, none. -/
def hAM (fs : Facts) : Hs := { hp := (Tr.e.set (some rowA) 0).set (some rowM) 1, hn := 2, fs := fs, n0 := 2, ng := 0 }
def hA (fs : Facts) : Hs := { hp := Tr.e.set (some rowA) 0, hn := 2, fs := fs, n0 := 2, ng := 0 }
def hM (fs : Facts) : Hs := { hp := Tr.e.set (some rowM) 1, hn := 2, fs := fs, n0 := 2, ng := 0 }
def hN (fs : Facts) : Hs := { hp := .e, hn := 2, fs := fs, n0 := 2, ng := 0 }
def lenF (k : Nat) : T × Int × Int := (.op .len (lvk k) (.lit 0) 0, 1, bulk)
def rdF (k c : Nat) : T × Int × Int := (.op .rd (lvk k) (.lit 0) 8, (c : Int), (c : Int))
def lsp (var cnt : Nat) (b : LBound) (keep : List Nat) (rows : List LRow) : LSpec := ⟨var, cnt, b, keep, rows⟩
def growLoops : FuncId → Nat → Option LSpec := fun f id =>
  bif Nat.beq id 1000000 then (bif Nat.beq f 5 || Nat.beq f 13 || Nat.beq f 11 then none else some (lsp 0 0 (.lit 0) [] []))
  else bif Nat.beq f 11 then some (lsp 9001 4 (.len 0 0) [0, 3] [.copy 3 0]) else none
def growLoopsZ : FuncId → Nat → Option LSpec := fun f id => bif Nat.beq id 1000000 then (bif Nat.beq f 5 || Nat.beq f 13 || Nat.beq f 11 then none else some (lsp 0 0 (.lit 0) [] [])) else none
def growSums : Sums := fun f => bif Nat.beq f 49 then some (oneS noteTbl) else bif Nat.beq f 17 then some yes else none
noncomputable def kGrowSums : Sums := fun f => bif Nat.beq f 49 then some (K_oneS.v noteTbl) else bif Nat.beq f 17 then some K_yes.v else none
theorem kGrowSums_eq : growSums = kGrowSums := by unfold growSums kGrowSums; rw [← K_oneS.e, ← K_yes.e]
noncomputable def growV (lp : FuncId → Nat → Option LSpec) (halt : T) (s m : SV) (h : Hs) : V := callN Tryz.prog ext growSums lp 600 60 5 [.agg (pegL halt), s, m] h fin
noncomputable def kGrowV (lp : FuncId → Nat → Option LSpec) (halt : T) (s m : SV) (h : Hs) : V := K_callN.v Tryz.prog kext kGrowSums lp 600 60 5 [.agg (pegL halt), s, m] h K_fin.v
theorem kGrowV_eq (lp : FuncId → Nat → Option LSpec) (halt : T) (s m : SV) (h : Hs) : growV lp halt s m h = kGrowV lp halt s m h := by
  unfold growV kGrowV
  rw [← K_callN.e, ← K_fin.e, kext_eq, kGrowSums_eq]
/-- At one code: bytes and no more, none and then some, some and more. -/
noncomputable def grAZ (c : Nat) : V := kGrowV growLoops (.lit 0) seenA moreZ (hA [lenF 1, rdF 1 c])
noncomputable def grZA (c : Nat) : V := kGrowV growLoopsZ (.lit 0) seenZ moreA (hM [lenF 2, rdF 2 c])
noncomputable def grAA (c : Nat) : V := kGrowV growLoops (.lit 0) seenA moreA (hAM [lenF 1, rdF 1 c, lenF 2])
/-- No bytes at all; halted. -/
noncomputable def grZZ (halt : Int) : V := kGrowV growLoopsZ (.lit halt) seenZ moreZ (hN [])
noncomputable def grHAZ : V := kGrowV growLoops (.lit 1) seenA moreZ (hA [lenF 1])
noncomputable def grHZA : V := kGrowV growLoopsZ (.lit 1) seenZ moreA (hM [lenF 2])
noncomputable def grHAA : V := kGrowV growLoops (.lit 1) seenA moreA (hAM [lenF 1, lenF 2])
theorem closed_run : callN Tryz.prog ext (fun _ => none) (fun _ _ => none) 600 60 17 [] Go.Sx.h0 fin = V.ok := by
  have h : K_callN.v Tryz.prog kext (fun _ => none) (fun _ _ => none) 600 60 17 [] Go.Sx.h0 K_fin.v = V.ok := by kernel_rfl
  rw [← K_callN.e, ← K_fin.e, ← kext_eq] at h
  exact h
end Go.Proofs.YtnhphhlojkhlcaaGreatDoor

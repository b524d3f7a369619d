/- One instruction on symbols, the program's and behind it the document's: the states ahead of them. Nothing is claimed here. -/
import Derived.Test.YtnhphhlojkhlcaaGreatDoorOfTbl
namespace Go.Proofs.YtnhphhlojkhlcaaGreatDoor
open Go Go.Sx Go.RowKit

/-- Further than any place. -/
def top : Int := 140737488355328
/-- Bytes that come in, from a place on: for the one, for the other. -/
def slA : SV := .slice 0 (lenT (lvk 3)) (lenT (lvk 1)) (some (vr 61 0 top)) 1
def slB : SV := .slice 0 (lenT (lvk 4)) (lenT (lvk 1)) (some (vr 65 0 top)) 1
/-- No bytes. -/
def emA : SV := .nslice 0 (lenT (lvk 3)) (.lit 0) (vr 61 0 top) 1 (vr 63 0 1)
def emB : SV := .nslice 0 (lenT (lvk 4)) (.lit 0) (vr 65 0 top) 1 (vr 66 0 1)
def rowH (v : Nat) (fs : Facts) : Hs := { hp := Tr.e.set (some (.recs [(.u8, 8)] (lvk 1) (lenT (lvk v)))) 0, hn := 1, fs := fs, n0 := 1, ng := 0 }
def noH (fs : Facts) : Hs := { hp := .e, hn := 1, fs := fs, n0 := 1, ng := 0 }
def crsF (c : Nat) : Facts := [(.op .len (lvk 1) (.lit 0) 0, 1, top), (.op .rd (lvk 1) (.lit 0) 8, (c : Int), (c : Int))]
def lsp (var cnt : Nat) (b : LBound) (keep : List Nat) (rows : List LRow) : LSpec := ⟨var, cnt, b, keep, rows⟩
/-- Tests are looked at shortly. -/
def crsLoops : FuncId → Nat → Option LSpec := fun _ id => bif Nat.beq id 1000000 then some (lsp 0 0 (.lit 0) [] []) else none
/-- What is known of the looks at a code. -/
def ofSums : Sums := fun f => bif Nat.beq f 49 then some (oneS noteTbl) else bif Nat.beq f 21 then some (oneS noteTbl) else none
noncomputable def kOfSums : Sums := fun f => bif Nat.beq f 49 then some (K_oneS.v noteTbl) else bif Nat.beq f 21 then some (K_oneS.v noteTbl) else none
theorem kOfSums_eq : ofSums = kOfSums := by unfold ofSums kOfSums; rw [← K_oneS.e]

/-- The program's, and behind it the document's: they answer the same. -/
noncomputable def relV (a b : SV) (h : Hs) (hB : Facts → Hs) : V :=
  callN Tryz.prog ext ofSums crsLoops 600 60 16 [.agg (pegL (.lit 0)), a] h (fun r g => callN Tryz.prog ext ofSums crsLoops 600 60 15 [.agg (pegL (.lit 0)), b] (hB g.fs) (fun r' g' => finRel r g r' g'))
noncomputable def kRelV (a b : SV) (h : Hs) (hB : Facts → Hs) : V :=
  K_callN.v Tryz.prog kext kOfSums crsLoops 600 60 16 [.agg (pegL (.lit 0)), a] h (fun r g => K_callN.v Tryz.prog kext kOfSums crsLoops 600 60 15 [.agg (pegL (.lit 0)), b] (hB g.fs) (fun r' g' => K_finRel.v r g r' g'))
theorem kRelV_eq (a b : SV) (h : Hs) (hB : Facts → Hs) : relV a b h hB = kRelV a b h hB := by
  unfold relV kRelV
  rw [← K_callN.e, ← K_finRel.e, kext_eq, kOfSums_eq]
/-- At one code; ... and one page flag. -/
noncomputable def relAt (c : Nat) : V := kRelV slA slB (rowH 3 (crsF c)) (rowH 4)
noncomputable def relAtP (c : Nat) (b : Int) : V := kRelV slA slB (rowH 3 ((.var 105 0 1, b, b) :: crsF c)) (rowH 4)
/-- With no bytes. -/
noncomputable def relNone : V := kRelV emA emB (noH []) noH
end Go.Proofs.YtnhphhlojkhlcaaGreatDoor

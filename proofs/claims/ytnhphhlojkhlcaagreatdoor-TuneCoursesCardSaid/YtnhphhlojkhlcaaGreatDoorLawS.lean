/- TuneCourses on symbols, the instructions' answers as tables. Nothing is claimed here. -/
import Derived.Test.YtnhphhlojkhlcaaGreatDoorCrsOk
namespace Go.Proofs.YtnhphhlojkhlcaaGreatDoor
open Go Go.Sx Go.RowKit

def offS : T := lenT (lvk 3)
/-- The bytes that came in; none. -/
def seenN : SV := .nslice 0 offS (lenT (lvk 1)) (vr 61 0 top) 1 (vr 63 0 1)
def seenE : SV := .nslice 0 offS (.lit 0) (vr 61 0 top) 1 (vr 63 0 1)
def pegV : SV := .agg (pegL (.lit 0))
def appT (k : Nat) (a b : T) : T := T.atom (.op .app a b k)
/-- Of so many bytes: how many accesses, their cells, the registers. -/
def cntT (n : T) : T := appT 0 n (.lit 0)
def tabT (n : T) : T := .op .ltab n (T.scale 3 (cntT n)) 2
def regsT (n : T) : List SV := [.int .u8 (appT 3 n (.lit 0)), .int .u8 (appT 3 n (.lit 1)), .int .u8 (appT 3 n (.lit 2)), .int .u8 (appT 3 n (.lit 3)), .int .u8 (appT 3 n (.lit 4)), .int .u16 (appT 3 n (.lit 5)), .bool (appT 4 n (.lit 0))]
def ansF (n : T) : Facts := [(.op .app n (.lit 0) 0, 1, 64), (.op .app n (.lit 0) 1, 0, 1), (.op .app n (.lit 0) 4, 0, 1), (T.sub (lenL (tabT n)) (T.scale 3 (cntT n)), 0, 0)]
def ansH (n : T) (h : Hs) : Hs := { h with fs := ansF n ++ h.fs }.alloc (.recs accK (tabT n) (.lit 0))
def ansV (n : T) (h : Hs) : FR := .ret (.tup [.slice h.hn (.lit 0) (cntT n) none 3, .bool (appT 1 n (.lit 0)), .agg (regsT n)])
/-- The document's instruction, on the first bytes. -/
def c15 : CF → List SV → Hs → (FR → Hs → V) → V := fun _ args h k => match args with
  | [p, x] => (match x with
    | .nslice 0 o n c 1 nl => bif SV.same 6 p pegV && T.same o offS && T.same c (vr 61 0 top) && T.same nl (vr 63 0 1) && nonneg h.fs n && nonpos h.fs (T.sub n (lenT (lvk 1))) then k (ansV n h) (ansH n h) else .bad 700 args
    | _ => .bad 701 args)
  | _ => .bad 702 args
def copyT (n : T) : T := .op .lmix (lvk 1) (.op .lpair (.op .lrep (.lit 0) n 0) n 0) 0
/-- The program's, on a copy of them. -/
def c16 : CF → List SV → Hs → (FR → Hs → V) → V := fun _ args h k => match args with
  | [p, x] => (match x with
    | .slice b (.lit (.ofNat 0)) n (some c) 1 => (match h.hp.get b with
      | some (.ints .u8 8 L _ _) => bif SV.same 6 p pegV && T.same L (copyT n) && T.same c n && nonneg h.fs n && nonpos h.fs (T.sub n (lenT (lvk 1))) then k (ansV n h) (ansH n h) else .bad 710 [.int .u8 L, .int .u8 n]
      | some (.row [] _ _) => bif SV.same 6 p pegV && T.same n (.lit 0) && T.same c n then k (ansV n h) (ansH n h) else .bad 713 args
      | _ => .bad 711 args)
    | _ => .bad 712 args)
  | _ => .bad 714 args
def lawSums : Sums := fun f => bif Nat.beq f 15 then some c15 else bif Nat.beq f 16 then some c16 else none
def lawLoops : FuncId → Nat → Option LSpec := fun f id =>
  bif Nat.beq f 4 then (bif Nat.beq id 0 then some (lsp 9000 5 (.len 1 1) [1, 2] []) else none)
  else bif Nat.beq f 11 then some (lsp 9001 4 (.len 0 0) [0, 3] [.copy 3 0])
  else bif Nat.beq f 13 then (bif Nat.beq id 0 then some (lsp 9005 5 (.len 0 0) [0, 1] []) else none)
  else bif Nat.beq f 14 then some (lsp 9002 5 (.len 0 0) [0, 1] []) else none
def emptyLoops : FuncId → Nat → Option LSpec := fun f id => bif Nat.beq f 13 then (bif Nat.beq id 0 then some (lsp 9005 5 (.len 0 0) [0, 1] []) else none) else none
def haltLoops : FuncId → Nat → Option LSpec := fun f id =>
  bif Nat.beq f 4 then (bif Nat.beq id 0 then some (lsp 9000 5 (.len 1 1) [1, 2] []) else none)
  else bif Nat.beq f 11 then some (lsp 9001 4 (.len 0 0) [0, 3] [.copy 3 0])
  else bif Nat.beq f 14 then some (lsp 9002 5 (.len 0 0) [0, 1] []) else none
def lawF : Facts := [(.op .len (lvk 1) (.lit 0) 0, 1, top), (T.sub (lenT (lvk 1)) (vr 61 0 top), -top, 0)]
def emptyF : Facts := [(.op .len (lvk 1) (.lit 0) 0, 0, 0)]

theorem law_run : callN Tryz.prog ext lawSums lawLoops 600 60 4 [pegV, seenN] (rowH 3 lawF) fin = V.ok := by
  have h : K_callN.v Tryz.prog kext lawSums lawLoops 600 60 4 [pegV, seenN] (rowH 3 lawF) K_fin.v = V.ok := by kernel_rfl
  rw [← K_callN.e, ← K_fin.e, ← kext_eq] at h
  exact h
theorem empty_run : callN Tryz.prog ext lawSums emptyLoops 600 60 4 [pegV, seenE] (noH emptyF) fin = V.ok := by
  have h : K_callN.v Tryz.prog kext lawSums emptyLoops 600 60 4 [pegV, seenE] (noH emptyF) K_fin.v = V.ok := by kernel_rfl
  rw [← K_callN.e, ← K_fin.e, ← kext_eq] at h
  exact h
theorem halt_run : callN Tryz.prog ext (fun _ => none) haltLoops 600 60 4 [.agg (pegL (.lit 1)), seenN] (rowH 3 lawF) fin = V.ok := by
  have h : K_callN.v Tryz.prog kext (fun _ => none) haltLoops 600 60 4 [.agg (pegL (.lit 1)), seenN] (rowH 3 lawF) K_fin.v = V.ok := by kernel_rfl
  rw [← K_callN.e, ← K_fin.e, ← kext_eq] at h
  exact h
theorem haltEmpty_run : callN Tryz.prog ext (fun _ => none) (fun _ _ => none) 600 60 4 [.agg (pegL (.lit 1)), seenE] (noH emptyF) fin = V.ok := by
  have h : K_callN.v Tryz.prog kext (fun _ => none) (fun _ _ => none) 600 60 4 [.agg (pegL (.lit 1)), seenE] (noH emptyF) K_fin.v = V.ok := by kernel_rfl
  rw [← K_callN.e, ← K_fin.e, ← kext_eq] at h
  exact h
end Go.Proofs.YtnhphhlojkhlcaaGreatDoor

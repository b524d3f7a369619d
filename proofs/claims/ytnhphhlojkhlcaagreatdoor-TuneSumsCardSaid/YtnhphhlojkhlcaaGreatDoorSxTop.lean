/- From a symbolic run to a call. -/
import Derived.Test.YtnhphhlojkhlcaaGreatDoorSxCall
namespace Go.Sx
open Go Go.RowKit

/-- No memory but what a call makes. -/
def h0 : Hs := { hp := .e, hn := 0, fs := [], n0 := 0, ng := 0 }

/-- It answers true. -/
def fin (r : FR) (h : Hs) : V := match r with
  | .ret (.bool p) => (match knownD h.fs p with | some true => .ok | _ => .bad 1 [.bool p])
  | .ret v => .bad 2 [v]
  | .pan v => .bad 3 [v]

def base0 (w : World) : Base := { w0 := w, B := w.heap.size, n0 := 0, ng := 0, M0 := fun _ => none, wr := fun _ => false }

section
variable {P : Program} {e : Env} {w : World}

theorem heap0 : HeapOK e (base0 w) (fun _ => none) h0 w := by
  refine ⟨fun i o h => ?_, fun i j oi oj ri rj ni nj h => ?_, fun _ _ => rfl, fun x hx => (by cases hx), fun _ _ => rfl, Nat.le_refl _, rfl, rfl, Nat.le_refl _, fun i o r n h => ?_, fun i o h => ?_, fun i r n hi => ?_, ?_⟩
  · cases h
  · cases h
  · cases h
  · cases h
  · cases hi
  · exact ⟨rfl, rfl, rfl, Nat.le_refl _, fun _ _ _ => rfl⟩

/-- What a call leaves as it was. -/
def Left0 (w w' : World) : Prop := w'.os = w.os ∧ w'.output = w.output ∧ ∀ k, k < w.heap.size → w'.heap[k]? = w.heap[k]?

theorem calls_true (hm : P.follows .mixedOrders = true) {ext : FuncId → List SV → Option SV} (hext : ExtOK P e ext) {rounds depth : Nat} {f : FuncId} {args : List SV} {vs : Array Value}
    (hrun : callN P ext (fun _ => none) rounds depth f args h0 fin = .ok) (hargs : VRs e (fun _ => none) args vs.toList) :
    Calls P f vs w fun en w' => en = .returned (.bool true) ∧ Left0 w w' := by
  have hc := callN_ok (P := P) (e := e) (F := base0 w) hm hext (sums := fun _ => none) (fun f sm h => (by cases h)) rounds depth
  refine Calls.mono (hc (fun _ => none) h0 w f args vs fin hrun heap0 hargs) ?_
  rintro en w' ⟨M', h', r, _, H, hr, hk⟩
  refine ⟨?_, H.frame.os, H.frame.output, fun k hk => H.frame.block k hk (fun i _ _ hi _ => by cases hi)⟩
  cases hr with
  | pan v x hv => cases hk
  | ret v x hv =>
    unfold fin at hk
    split at hk
    · rename_i p heq
      cases heq
      cases hv with
      | bool _ b hb =>
        split at hk
        · rename_i hkn
          rw [knownD_ok H.fact hb hkn]
        · cases hk
    · cases hk
    · rename_i heq; cases heq

theorem left0_kept {w' : World} (h : Left0 w w') (may : MemPlace → Prop) : w.keptBut w' may := by
  refine ⟨h.1, h.2.1, fun i hi => ?_⟩
  rw [h.2.2 i hi]
  cases w.heap[i]? with
  | none => trivial
  | some o => cases o <;> simp
end
end Go.Sx

/- From a symbolic run to a call. -/
import Derived.Test.YtjddkgejbfdalaaGreatDoorSxCall
namespace Go.Sx
open Go Go.RowKit

/-- No memory but what a call makes. -/
def h0 : Hs := { hp := .e, hn := 0, fs := [], n0 := 0, ng := 0 }

/-- It answers true. -/
def fin (r : FR) (h : Hs) : V := match r with
  | .ret (.bool p) => (match knownD h.fs p with | some true => .ok | _ => .bad 1 [.bool p])
  | .ret v => .bad 2 [v]
  | .pan v => .bad 3 [v]

def base0 (w : World) : Base := { w0 := w, B := w.heap.size, n0 := 0, ng := 0, M0 := fun _ => none, wr := fun _ => false }

section
variable {P : Program} {e : Env} {w : World}

theorem heap0 : HeapOK e (base0 w) (fun _ => none) h0 w := by
  refine ⟨fun i o h => ?_, fun i j oi oj ri rj ni nj h => ?_, fun _ _ => rfl, fun x hx => (by cases hx), fun _ _ => rfl, Nat.le_refl _, rfl, rfl, Nat.le_refl _, fun i o r n h => ?_, fun i o h => ?_, fun i r n hi => ?_, ?_⟩
  · cases h
  · cases h
  · cases h
  · cases h
  · cases hi
  · exact ⟨rfl, rfl, rfl, Nat.le_refl _, fun _ _ _ => rfl⟩

/-- What a call leaves as it was. -/
theorem left_of {F : Base} {M : Lay} {h : Hs} {w' : World} (H : HeapOK e F M h w') (h1 : F.B = F.w0.heap.size) (h2 : ∀ i, F.wr i = false) : Grown F.w0 w' :=
  ⟨H.frame.os, H.frame.tape, H.frame.output, by rw [← h1]; exact H.frame.size, fun k hk => H.frame.block k (by rw [h1]; exact hk) (fun i _ _ _ hi => by rw [h2 i] at hi; cases hi)⟩

theorem fin_ok {M : Lay} {F : Base} {h : Hs} {r : FR} {en : Ending} {w' : World} (H : HeapOK e F M h w') (hr : FRel e M r en) (hk : fin r h = .ok) : en = .returned (.bool true) := by
  cases hr with
  | pan v x hv => cases hk
  | ret v x hv =>
    unfold fin at hk
    split at hk
    · rename_i p heq
      cases heq
      cases hv with
      | bool _ b hb =>
        split at hk
        · rename_i hkn
          rw [knownD_ok H.fact hb hkn]
        · cases hk
    · cases hk
    · rename_i heq; cases heq

abbrev Sums := FuncId → Option (CF → List SV → Hs → (FR → Hs → V) → V)
/-- What is known of functions is right. -/
def SumsOK (P : Program) (e : Env) (F : Base) (sums : Sums) : Prop :=
  ∀ f sm, sums f = some sm → ∀ cf : CF, CallOK P e F cf → CallOK P e F (fun g args h k => if g = f then sm cf args h k else .bad 65 [])

theorem no_sums {F : Base} : SumsOK P e F (fun _ => none) := fun _ _ h => by cases h

/-- From any memory. -/
theorem calls_true' (hm : P.follows .mixedOrders = true) {ext : FuncId → List SV → Option SV} (hext : ExtOK P e ext) {F : Base} {M : Lay} {h : Hs} {sums : Sums} (hs : SumsOK P e F sums) {rounds depth : Nat} {f : FuncId} {args : List SV} {vs : Array Value}
    (hrun : callN P ext sums rounds depth f args h fin = .ok) (H : HeapOK e F M h w) (hB : F.B = F.w0.heap.size) (hwr : ∀ i, F.wr i = false) (hargs : VRs e M args vs.toList) :
    Calls P f vs w fun en w' => en = .returned (.bool true) ∧ Grown F.w0 w' := by
  have hc := callN_ok (P := P) (e := e) (F := F) hm hext hs rounds depth
  refine Calls.mono (hc M h w f args vs fin hrun H hargs) ?_
  rintro en w' ⟨M', h', r, _, H', hr, hk⟩
  exact ⟨fin_ok H' hr hk, left_of H' hB hwr⟩

theorem calls_true (hm : P.follows .mixedOrders = true) {ext : FuncId → List SV → Option SV} (hext : ExtOK P e ext) {sums : Sums} (hs : SumsOK P e (base0 w) sums) {rounds depth : Nat} {f : FuncId} {args : List SV} {vs : Array Value}
    (hrun : callN P ext sums rounds depth f args h0 fin = .ok) (hargs : VRs e (fun _ => none) args vs.toList) :
    Calls P f vs w fun en w' => en = .returned (.bool true) ∧ Grown w w' :=
  calls_true' (F := base0 w) hm hext hs hrun heap0 rfl (fun _ => rfl) hargs

theorem grown_kept {w' : World} (h : Grown w w') (may : MemPlace → Prop) : w.keptBut w' may := by
  refine ⟨h.1, h.2.2.1, fun i hi => ?_⟩
  rw [h.2.2.2.2 i hi]
  cases w.heap[i]? with
  | none => trivial
  | some o => cases o <;> simp

/-- A call of no arguments that answers true, and leaves nothing behind but blocks that nothing leads to. -/
def yes : CF → List SV → Hs → (FR → Hs → V) → V := fun _ args h k => match args with
  | [] => k (.ret (.bool (.lit 1))) h
  | _ => .bad 4 args

theorem yes_ok {F : Base} {f : FuncId} (hc : ∀ w, Calls P f #[] w fun en w' => en = .returned (.bool true) ∧ Grown w w') (cf : CF) : CallOK P e F (fun g args h k => if g = f then yes cf args h k else .bad 65 []) := by
  intro M h w g args vs k hk H hargs
  simp only at hk
  split at hk
  · rename_i hg
    subst hg
    unfold yes at hk
    split at hk
    · obtain ⟨vs⟩ := vs
      cases hargs
      refine Calls.mono (hc w) ?_
      rintro en w' ⟨rfl, hgr⟩
      exact ⟨M, h, _, M.le_refl, H.grown hgr, .ret _ _ (.bool _ true rfl), hk⟩
    · cases hk
  · cases hk
end
end Go.Sx

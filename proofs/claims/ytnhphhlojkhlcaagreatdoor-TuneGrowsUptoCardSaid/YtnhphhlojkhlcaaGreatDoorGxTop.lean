/- From a symbolic run to a call. -/
import Derived.Test.YtnhphhlojkhlcaaGreatDoorGxCall
namespace Go.Sx
open Go Go.RowKit

/-- No memory but what a call makes. -/
def h0 : Hs := { hp := .e, hn := 0, fs := [], n0 := 0, ng := 0 }

/-- It answers true. -/
def fin (r : FR) (h : Hs) : V := match r with
  | .ret (.bool p) => (match knownD h.fs p with | some true => .ok | _ => .bad 1 [.bool p])
  | .ret v => .bad 2 [v]
  | .pan v => .bad 3 [v]

def base0 (w : World) : Base := { w0 := w, B := w.heap.size, n0 := 0, ng := 0, M0 := fun _ => none, wr := fun _ => false }

section
variable {P : Program} {e : Env} {w : World}

theorem heap0 : HeapOK e (base0 w) (fun _ => none) h0 w := by
  refine ⟨fun i o h => ?_, fun i j oi oj ri rj ni nj h => ?_, fun _ _ => rfl, fun x hx => (by cases hx), fun _ _ => rfl, Nat.le_refl _, rfl, rfl, Nat.le_refl _, fun i o r n h => ?_, fun i o h => ?_, fun i r n hi => ?_, ?_⟩
  · cases h
  · cases h
  · cases h
  · cases h
  · cases hi
  · exact ⟨rfl, rfl, rfl, Nat.le_refl _, fun _ _ _ => rfl⟩

/-- What a call leaves as it was. -/
theorem left_of {F : Base} {M : Lay} {h : Hs} {w' : World} (H : HeapOK e F M h w') (h1 : F.B = F.w0.heap.size) (h2 : ∀ i, F.wr i = false) : Grown F.w0 w' :=
  ⟨H.frame.os, H.frame.tape, H.frame.output, by rw [← h1]; exact H.frame.size, fun k hk => H.frame.block k (by rw [h1]; exact hk) (fun i _ _ _ hi => by rw [h2 i] at hi; cases hi)⟩

theorem fin_ok {M : Lay} {F : Base} {h : Hs} {r : FR} {en : Ending} {w' : World} (H : HeapOK e F M h w') (hr : FRel e M r en) (hk : fin r h = .ok) : en = .returned (.bool true) := by
  cases hr with
  | pan v x hv => cases hk
  | ret v x hv =>
    unfold fin at hk
    split at hk
    · rename_i p heq
      cases heq
      cases hv with
      | bool _ b hb =>
        split at hk
        · rename_i hkn
          rw [knownD_ok H.fact hb hkn]
        · cases hk
    · cases hk
    · rename_i heq; cases heq

abbrev Sums := FuncId → Option (CF → List SV → Hs → (FR → Hs → V) → V)
/-- What is known of functions is right. -/
def SumsOK (P : Program) (F : Base) (e0 : Env) (sums : Sums) : Prop :=
  ∀ f sm, sums f = some sm → ∀ cf : CF, (∀ e, e0.near e → CallOK P e F cf) → ∀ e, e0.near e → CallOK P e F (fun g args h k => if g = f then sm cf args h k else .bad 65 [])

theorem no_sums {F : Base} {e0 : Env} : SumsOK P F e0 (fun _ => none) := fun _ _ h => by cases h

/-- From any memory. -/
theorem calls_true' (hm : P.follows .mixedOrders = true) {ext : FuncId → List SV → Option SV} (hext : ∀ e, ExtOK P e ext) {F : Base} {M : Lay} {h : Hs} {sums : Sums} (hs : SumsOK P F e sums) {loops : FuncId → Nat → Option LSpec} {rounds depth : Nat} {f : FuncId} {args : List SV} {vs : Array Value}
    (hrun : callN P ext sums loops rounds depth f args h fin = .ok) (H : HeapOK e F M h w) (hB : F.B = F.w0.heap.size) (hwr : ∀ i, F.wr i = false) (hargs : VRs e M args vs.toList) :
    Calls P f vs w fun en w' => en = .returned (.bool true) ∧ Grown F.w0 w' := by
  have hc := callN_ok (P := P) (F := F) (loops := loops) hm hext (e0 := e) hs rounds depth e (Env.near_refl e)
  refine Calls.mono (hc M h w f args vs fin hrun H hargs) ?_
  rintro en w' ⟨M', h', r, _, H', hr, hk⟩
  exact ⟨fin_ok H' hr hk, left_of H' hB hwr⟩

theorem calls_true (hm : P.follows .mixedOrders = true) {ext : FuncId → List SV → Option SV} (hext : ∀ e, ExtOK P e ext) {sums : Sums} (hs : SumsOK P (base0 w) e sums) {loops : FuncId → Nat → Option LSpec} {rounds depth : Nat} {f : FuncId} {args : List SV} {vs : Array Value}
    (hrun : callN P ext sums loops rounds depth f args h0 fin = .ok) (hargs : VRs e (fun _ => none) args vs.toList) :
    Calls P f vs w fun en w' => en = .returned (.bool true) ∧ Grown w w' :=
  calls_true' (F := base0 w) hm hext hs hrun heap0 rfl (fun _ => rfl) hargs

theorem grown_kept {w' : World} (h : Grown w w') (may : MemPlace → Prop) : w.keptBut w' may := by
  refine ⟨h.1, h.2.2.1, fun i hi => ?_⟩
  rw [h.2.2.2.2 i hi]
  cases w.heap[i]? with
  | none => trivial
  | some o => cases o <;> simp

/-- A call of no arguments that answers true, and leaves nothing behind but blocks that nothing leads to. -/
def yes : CF → List SV → Hs → (FR → Hs → V) → V := fun _ args h k => match args with
  | [] => k (.ret (.bool (.lit 1))) h
  | _ => .bad 4 args

theorem yes_ok {F : Base} {f : FuncId} (hc : ∀ w, Calls P f #[] w fun en w' => en = .returned (.bool true) ∧ Grown w w') (cf : CF) : CallOK P e F (fun g args h k => if g = f then yes cf args h k else .bad 65 []) := by
  intro M h w g args vs k hk H hargs
  simp only at hk
  split at hk
  · rename_i hg
    subst hg
    unfold yes at hk
    split at hk
    · obtain ⟨vs⟩ := vs
      cases hargs
      refine Calls.mono (hc w) ?_
      rintro en w' ⟨rfl, hgr⟩
      exact ⟨M, h, _, M.le_refl, H.grown hgr, .ret _ _ (.bool _ true rfl), hk⟩
    · cases hk
  · cases hk

/-! ## Closed calls by a number -/

/-- A value without places, and without symbols. -/
def plainS : Nat → SV → Bool
  | 0, _ => false
  | f + 1, s => match s with
    | .int _ (.lit _) => true
    | .bool (.lit _) => true
    | .str _ => true
    | .nilp => true
    | .nils => true
    | .nilm => true
    | .nilf => true
    | .nili => true
    | .iface _ v => plainS f v
    | .agg l => l.all (plainS f)
    | .tup l => l.all (plainS f)
    | _ => false

theorem plains_ok {e' : Env} {M M' : Lay} {f : Nat} (ih : ∀ s v, plainS f s = true → VR e M s v → VR e' M' s v) : ∀ (l : List SV) (vs : List Value), l.all (plainS f) = true → VRs e M l vs → VRs e' M' l vs := by
  intro l
  induction l with
  | nil => intro vs _ h; cases h; exact .nil
  | cons s l ihl =>
    intro vs hf h
    simp only [List.all_cons, Bool.and_eq_true] at hf
    cases h with
    | cons _ v _ vs h1 h2 => exact .cons _ _ _ _ (ih s v hf.1 h1) (ihl vs hf.2 h2)

theorem plain_ok {e' : Env} {M M' : Lay} : ∀ (f : Nat) (s : SV) (v : Value), plainS f s = true → VR e M s v → VR e' M' s v := by
  intro f
  induction f with
  | zero => intro s v h; cases h
  | succ f ih =>
    intro s v hf h
    unfold plainS at hf
    split at hf
    · cases h; rw [ev_lit]; exact .int _ (.lit _)
    · cases h with
      | bool _ b hb => exact .bool _ b (by rw [ev_lit] at hb ⊢; exact hb)
    · cases h with
      | str _ hl => exact .str _ hl
    · cases h; exact .nilp
    · cases h; exact .nils
    · cases h; exact .nilm
    · cases h; exact .nilf
    · cases h; exact .nili
    · cases h with
      | iface _ _ x h1 => exact .iface _ _ x (ih _ _ hf h1)
    · cases h with
      | agg _ x h1 => exact .agg _ x (plains_ok ih _ _ hf h1)
    · cases h with
      | tup _ x h1 => exact .tup _ x (plains_ok ih _ _ hf h1)
    · cases hf

/-- It answers just this. -/
def finIs (v : SV) (r : FR) (_ : Hs) : V := match r with
  | .ret u => bif SV.same 6 u v then .ok else .bad 4 [u, v]
  | .pan u => .bad 3 [u]

/-- A call by a number: what a table says. -/
def oneS (tbl : Nat → Option SV) : CF → List SV → Hs → (FR → Hs → V) → V := fun _ args h k => match args with
  | [.int .u8 t] => match litNat h.fs t with
    | some c => match tbl c with
      | some v => k (.ret v) h
      | none => .bad 521 args
    | none => .bad 522 args
  | _ => .bad 523 args

theorem oneS_ok {F : Base} {f : FuncId} {tbl : Nat → Option SV} (hm : P.follows .mixedOrders = true) {ext : FuncId → List SV → Option SV} (hext : ∀ e, ExtOK P e ext) {rounds depth : Nat}
    (hrun : ∀ c v, tbl c = some v → plainS 6 v = true ∧ callN P ext (fun _ => none) (fun _ _ => none) rounds depth f [.int .u8 (.lit (c : Int))] h0 (finIs v) = .ok) (cf : CF) (e : Env) :
    CallOK P e F (fun g args h k => if g = f then oneS tbl cf args h k else .bad 65 []) := by
  intro M h w g args vs k hk H hargs
  simp only at hk
  split at hk
  · rename_i hg
    subst hg
    unfold oneS at hk
    split at hk
    · rename_i t
      split at hk
      · rename_i c hc
        split at hk
        · rename_i v hv
          obtain ⟨hp, hr⟩ := hrun c v hv
          have hct := litNat_ok H.fact hc
          have hargs' : VRs e (fun _ => none) [.int .u8 (.lit (c : Int))] vs.toList := by
            generalize vs.toList = l at hargs
            cases hargs with
            | cons _ x _ r h1 h2 =>
              cases h2
              cases h1
              rw [hct]
              have := VR.int (e := e) (M := fun _ => none) .u8 (.lit (c : Int))
              rw [ev_lit] at this
              exact .cons _ _ _ _ this .nil
          have hcall := callN_ok (P := P) (F := base0 w) hm hext (sums := fun _ => none) (loops := fun _ _ => none) (e0 := e) no_sums rounds depth e (Env.near_refl e) _ h0 w g _ vs _ hr heap0 hargs'
          refine Calls.mono hcall ?_
          rintro en w' ⟨M', h', r, _, H', hrel, hfin⟩
          have hgr := left_of H' rfl (fun _ => rfl)
          cases hrel with
          | ret u x hx =>
            simp only [finIs] at hfin
            cases hs : SV.same 6 u v with
            | false => rw [hs] at hfin; cases hfin
            | true =>
              have := same_is 6 hs
              subst this
              exact ⟨M, h, _, M.le_refl, H.grown hgr, .ret _ _ (plain_ok 6 _ _ hp hx), hk⟩
          | pan u x hx => cases hfin
        · cases hk
      · cases hk
    · cases hk
  · cases hk
end
end Go.Sx

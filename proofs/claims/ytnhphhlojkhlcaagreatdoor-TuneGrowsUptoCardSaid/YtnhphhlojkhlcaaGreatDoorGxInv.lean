/- Loops whose rounds are told by a number: what a state is behind so many rounds. -/
import Derived.Test.YtnhphhlojkhlcaaGreatDoorGxPred
namespace Go.Sx
open Go Go.RowKit

/-! ## Free of a variable -/

/-- All terms but those with a variable are the same. -/
def EnvSim (n : Nat) (e1 e2 : Env) : Prop := ∀ t : T, T.free n t = true → t.den e1 = t.den e2
theorem EnvSim.ev {n : Nat} {e1 e2 : Env} (h : EnvSim n e1 e2) {t : T} (ht : T.free n t = true) : t.ev e1 = t.ev e2 := by unfold T.ev; rw [h t ht]
theorem EnvSim.evl {n : Nat} {e1 e2 : Env} (h : EnvSim n e1 e2) {t : T} (ht : T.free n t = true) : t.evl e1 = t.evl e2 := by unfold T.evl; rw [h t ht]
theorem EnvSim.put (e : Env) (n : Nat) (x y : Int) : EnvSim n (e.put n x) (e.put n y) := fun t ht => by rw [T.free_den t ht, T.free_den t ht]
theorem EnvSim.put_to (e : Env) (n : Nat) (x : Int) : EnvSim n (e.put n x) e := fun t ht => T.free_den t ht
theorem EnvSim.to_put (e : Env) (n : Nat) (x : Int) : EnvSim n e (e.put n x) := fun t ht => (T.free_den t ht).symm

def freeS (n hn : Nat) : Nat → SV → Bool
  | 0, _ => false
  | f + 1, s => match s with
    | .int _ p => T.free n p
    | .bool p => T.free n p
    | .ptr b o => Nat.blt b hn && T.free n o
    | .slice b o l c _ => Nat.blt b hn && T.free n o && T.free n l && (match c with
      | some c => T.free n c
      | none => true)
    | .nslice b o l c _ nl => Nat.blt b hn && T.free n o && T.free n l && T.free n c && T.free n nl
    | .when _ _ => false
    | .map b => Nat.blt b hn
    | .fn _ a c => a.all (freeS n hn f) && c.all (freeS n hn f)
    | .iface _ v => freeS n hn f v
    | .agg l => l.all (freeS n hn f)
    | .tup l => l.all (freeS n hn f)
    | _ => true

section
variable {n hn : Nat} {e1 e2 : Env} {M M' : Lay}

theorem VRs_move {f : Nat} (ih : ∀ s v, freeS n hn f s = true → VR e1 M s v → VR e2 M' s v) : ∀ (l : List SV) (vs : List Value), l.all (freeS n hn f) = true → VRs e1 M l vs → VRs e2 M' l vs := by
  intro l
  induction l with
  | nil => intro vs _ h; cases h; exact .nil
  | cons s l ihl =>
    intro vs hf h
    simp only [List.all_cons, Bool.and_eq_true] at hf
    cases h with
    | cons _ v _ vs h1 h2 => exact .cons _ _ _ _ (ih s v hf.1 h1) (ihl vs hf.2 h2)

theorem VR_move (hE : EnvSim n e1 e2) (hM : ∀ b, b < hn → ∀ x, M b = some x → M' b = some x) : ∀ (f : Nat) (s : SV) (v : Value), freeS n hn f s = true → VR e1 M s v → VR e2 M' s v := by
  intro f
  induction f with
  | zero => intro s v h; cases h
  | succ f ih =>
    intro s v hf h
    cases h with
    | junk v => exact .junk v
    | int k p => simp only [freeS] at hf; rw [hE.ev hf]; exact .int k p
    | bool p b hb => simp only [freeS] at hf; exact .bool p b (by rw [← hE.ev hf]; exact hb)
    | str l hl => exact .str l hl
    | nilp => exact .nilp
    | ptr b off r m h1 h2 =>
      simp only [freeS, Bool.and_eq_true] at hf
      have hb : b < hn := by simpa [Nat.blt_eq] using hf.1
      rw [hE.ev hf.2] at h2 ⊢
      exact .ptr b off r m (hM b hb _ h1) h2
    | nils => exact .nils
    | slice b off len cap sz r m c h1 h2 h3 h4 h5 h6 =>
      simp only [freeS, Bool.and_eq_true] at hf
      obtain ⟨⟨⟨hb, hoff⟩, hlen⟩, hcap⟩ := hf
      have hb : b < hn := by simpa [Nat.blt_eq] using hb
      rw [hE.ev hoff] at h2 h6 ⊢
      rw [hE.ev hlen] at h3 h4 ⊢
      refine .slice b off len cap sz r m c (hM b hb _ h1) h2 h3 h4 (fun t ht => ?_) h6
      subst ht
      rw [← hE.ev hcap]; exact h5 t rfl
    | nsome b off len cap sz nl r m c h0 h1 h2 h3 h4 h5 h6 =>
      simp only [freeS, Bool.and_eq_true] at hf
      obtain ⟨⟨⟨⟨hb, hoff⟩, hlen⟩, hcap⟩, hnl⟩ := hf
      have hb : b < hn := by simpa [Nat.blt_eq] using hb
      rw [hE.ev hoff] at h2 h6 ⊢
      rw [hE.ev hlen] at h3 h4 ⊢
      exact .nsome b off len cap sz nl r m c (by rw [← hE.ev hnl]; exact h0) (hM b hb _ h1) h2 h3 h4 (by rw [← hE.ev hcap]; exact h5) h6
    | nnone b off len cap sz nl h0 h1 h2 =>
      simp only [freeS, Bool.and_eq_true] at hf
      obtain ⟨⟨⟨⟨hb, hoff⟩, hlen⟩, hcap⟩, hnl⟩ := hf
      exact .nnone b off len cap sz nl (by rw [← hE.ev hnl]; exact h0) (by rw [← hE.ev hlen]; exact h1) (by rw [← hE.ev hcap]; exact h2)
    | «when» q v x h1 => cases hf
    | nilm => exact .nilm
    | map b r m h1 =>
      simp only [freeS] at hf
      exact .map b r m (hM b (by simpa [Nat.blt_eq] using hf) _ h1)
    | fn g a c x y h1 h2 =>
      simp only [freeS, Bool.and_eq_true] at hf
      exact .fn g a c x y (VRs_move ih _ _ hf.1 h1) (VRs_move ih _ _ hf.2 h2)
    | nilf => exact .nilf
    | iface t v x h1 => exact .iface t v x (ih v x hf h1)
    | nili => exact .nili
    | agg l x h1 => exact .agg l x (VRs_move ih _ _ hf h1)
    | tup l x h1 => exact .tup l x (VRs_move ih _ _ hf h1)

def freeE (n hn : Nat) (x : SV × SV × Nat) : Bool := freeS n hn 6 x.1 && freeS n hn 6 x.2.1
def freeO (n hn : Nat) : SObj → Bool
  | .row cs _ _ => cs.all (freeS n hn 6)
  | .ints _ _ L _ _ => T.free n L
  | .recs _ C o => T.free n C && T.free n o
  | .map es _ => es.all (freeE n hn)
  | .iter _ _ => true
  | .dead => true

theorem ER_move (hE : EnvSim n e1 e2) (hM : ∀ b, b < hn → ∀ x, M b = some x → M' b = some x) {es : List (SV × SV × Nat)} {xs : List MapEntry} (h : ER e1 M es xs) (hf : es.all (freeE n hn) = true) : ER e2 M' es xs := by
  induction h with
  | nil => exact .nil
  | cons k v b l x xs h1 h2 h3 _ ih =>
    simp only [List.all_cons, Bool.and_eq_true, freeE] at hf
    exact .cons k v b l x xs (VR_move hE hM 6 _ _ hf.1.1 h1) (VR_move hE hM 6 _ _ hf.1.2 h2) h3 (ih hf.2)

theorem OR_move (hE : EnvSim n e1 e2) (hM : ∀ b, b < hn → ∀ x, M b = some x → M' b = some x) {o : SObj} (hf : freeO n hn o = true) {x : Obj} {m : Nat} (h : OR e1 M o x m) : OR e2 M' o x m := by
  cases h with
  | row cs elem wr c pre rest fr h1 h2 h3 => exact .row cs elem wr c pre rest fr h1 (VRs_move (VR_move hE hM 6) _ _ hf h2) h3
  | ints k bits L elem wr c rest fr h1 h2 h3 =>
    simp only [freeO] at hf
    exact .ints k bits L elem wr c rest fr (by rw [← hE.evl hf]; exact h1) (by rw [← hE.evl hf]; exact h2) h3
  | recs ks C o elem c fr h1 h2 =>
    simp only [freeO, Bool.and_eq_true] at hf
    exact .recs ks C o elem c fr (by rw [← hE.ev hf.2]; exact h1) (by rw [← hE.evl hf.1, ← hE.ev hf.2]; exact h2)
  | map es clock xs m h1 => exact .map es clock xs m (ER_move hE hM h1 hf)
  | iter s pos m => exact .iter s pos m
end

/-! ## What a state is behind so many rounds -/

def keepT (s : St) : List Tmp → Tr SV
  | [] => .e
  | t :: l => match s.tm.get t with
    | some v => (keepT s l).set (some v) t
    | none => keepT s l

theorem keepT_get (s : St) : ∀ (l : List Tmp) (t : Tmp) (v : SV), (keepT s l).get t = some v → s.tm.get t = some v ∧ t ∈ l := by
  intro l
  induction l with
  | nil => intro t v h; cases h
  | cons a l ih =>
    intro t v h
    simp only [keepT] at h
    split at h
    · rename_i u hu
      rw [Tr.get_set] at h
      split at h
      · rename_i he; subst he; cases h; exact ⟨hu, by simp⟩
      · have := ih t v h; exact ⟨this.1, by simp [this.2]⟩
    · have := ih t v h; exact ⟨this.1, by simp [this.2]⟩

/-- A list behind so many rounds. -/
def listT (o : TO) (A Z v : T) : T := .op o A (.op .lpair Z v 0) 0

/-- The list that a row has from a place on, where that is the row's own. -/
def fromOf (h : Hs) (b : Nat) (o : T) : Option T := match h.hp.get b with
  | some (.ints _ _ A _ _) => bif isZero [] o then some A else none
  | some (.recs _ C o') => bif T.same o o' then some C else none
  | _ => none

/-- Where the cells of a row come from. -/
def srcOf (sz : Nat) : SV → Option (Nat × T)
  | .slice b o _ _ z => bif Nat.beq z sz then some (b, o) else none
  | .nslice b o _ _ z _ => bif Nat.beq z sz then some (b, o) else none
  | _ => none

def rowObj (s : St) (v : T) : LRow → Option (Nat × SObj)
  | .copy d c => match s.tm.get d, s.tm.get c with
    | some (.slice bd (.lit (.ofNat 0)) _ _ 1), some c => match srcOf 1 c with
      | some (bs, o) => match s.h.hp.get bd, fromOf s.h bs o with
        | some (.ints k bits Z el true), some A => some (bd, .ints k bits (listT .lmix A Z v) el true)
        | _, _ => none
      | none => none
    | _, _ => none
  | .mem d y => match s.tm.get d, s.tm.get y with
    | some (.slice bd (.lit (.ofNat 0)) _ _ 1), some (.int .u8 p) => match s.h.hp.get bd with
      | some (.ints k bits Z el true) => some (bd, .ints k bits (listT .lmem p Z v) el true)
      | _ => none
    | _, _ => none
  | .puts d c => match s.tm.get d, s.tm.get c with
    | some (.slice bd (.lit (.ofNat 0)) _ _ 1), some c => match srcOf 2 c with
      | some (bs, o) => match s.h.hp.get bd, fromOf s.h bs o with
        | some (.ints k bits Z el true), some C => some (bd, .ints k bits (listT .lputs Z C v) el true)
        | _, _ => none
      | none => none
    | _, _ => none

def rowsH (s : St) (v : T) : List LRow → Hs → Option Hs
  | [], h => some h
  | r :: l, h => match rowObj s v r with
    | some (b, o) => rowsH s v l (h.upd b o)
    | none => none

def tmplS (sp : LSpec) (s : St) (v : T) : Option St := match rowsH s v sp.rows s.h with
  | some h => some { s with tm := (keepT s sp.keep).set (some (.int .i64 v)) sp.cnt, h := h }
  | none => none

/-- What a row becomes. -/
theorem rowObj_ok {s : St} {v : T} {r : LRow} {b : Nat} {o : SObj} (h : rowObj s v r = some (b, o)) : ∃ k bits Z0 el op A Z, s.h.hp.get b = some (.ints k bits Z0 el true) ∧
    (op = .lmix ∨ op = .lmem ∨ op = .lputs) ∧ o = .ints k bits (listT op A Z v) el true ∧ ∀ v', rowObj s v' r = some (b, .ints k bits (listT op A Z v') el true) := by
  unfold rowObj at h
  cases r with
  | copy d c =>
    simp only at h
    split at h
    · rename_i bd _ _ c' h1 h2
      split at h
      · rename_i bs o' hs
        split at h
        · rename_i k bits Z el A g1 g2
          cases h
          refine ⟨k, bits, Z, el, .lmix, A, Z, g1, .inl rfl, rfl, fun v' => ?_⟩
          simp only [rowObj, h1, h2, hs, g1, g2]
        · cases h
      · cases h
    · cases h
  | mem d y =>
    simp only at h
    split at h
    · rename_i bd _ _ p h1 h2
      split at h
      · rename_i k bits Z el g1
        cases h
        refine ⟨k, bits, Z, el, .lmem, p, Z, g1, .inr (.inl rfl), rfl, fun v' => ?_⟩
        simp only [rowObj, h1, h2, g1]
      · cases h
    · cases h
  | puts d c =>
    simp only at h
    split at h
    · rename_i bd _ _ c' h1 h2
      split at h
      · rename_i bs o' hs
        split at h
        · rename_i k bits Z el C g1 g2
          cases h
          refine ⟨k, bits, Z, el, .lputs, Z, C, g1, .inr (.inr rfl), rfl, fun v' => ?_⟩
          simp only [rowObj, h1, h2, hs, g1, g2]
        · cases h
      · cases h
    · cases h

def rowFree (n : Nat) (s : St) (r : LRow) : Bool := match rowObj s (.lit 0) r with
  | some (_, .ints _ _ (.op _ A (.op _ Z _ _) _) _ _) => T.free n A && T.free n Z
  | _ => false

/-- A state that does not hang on the variable. -/
def freeSt (sp : LSpec) (s : St) : Bool :=
  s.ds.isEmpty && (sp.keep.all fun t => match s.tm.get t with
    | some v => freeS sp.var s.h.hn 6 v
    | none => true) && ((List.range s.h.hn).all fun j => match s.h.hp.get j with
    | some o => freeO sp.var s.h.hn o
    | none => true) && sp.rows.all (rowFree sp.var s)

/-- Two memories that stand for the same. -/
def Rel (eA eB : Env) (MA MB : Lay) (hn : Nat) (hA hB : Hs) : Prop := ∀ j, j < hn → ∀ b, hB.hp.get j = some b → ∃ a, hA.hp.get j = some a ∧ a.live = b.live ∧ a.wr = b.wr ∧ ∀ x m, OR eA MA a x m → OR eB MB b x m

theorem listT_evl {eA eB : Env} {n : Nat} (hE : EnvSim n eA eB) {op : TO} {A Z vA vB : T} (hop : op = .lmix ∨ op = .lmem ∨ op = .lputs) (hA : T.free n A = true) (hZ : T.free n Z = true) (hv : vA.ev eA = vB.ev eB) :
    (listT op A Z vA).evl eA = (listT op A Z vB).evl eB := by
  have h1 : T.den eA A = T.den eB A := hE A hA
  have h2 : T.den eA Z = T.den eB Z := hE Z hZ
  have h3 : (T.den eA vA).1 = (T.den eB vB).1 := hv
  unfold listT T.evl
  rcases hop with rfl | rfl | rfl <;> simp only [T.den, TO.den, h1, h2, h3]

theorem rows_rel {eA eB : Env} {MA MB : Lay} {n hn : Nat} {s : St} {vA vB : T} (hE : EnvSim n eA eB) (hv : vA.ev eA = vB.ev eB) : ∀ (l : List LRow) (h1 h2 hA hB : Hs), l.all (rowFree n s) = true → Rel eA eB MA MB hn h1 h2 →
    rowsH s vA l h1 = some hA → rowsH s vB l h2 = some hB → Rel eA eB MA MB hn hA hB := by
  intro l
  induction l with
  | nil => intro h1 h2 hA hB _ hr e1 e2; cases e1; cases e2; exact hr
  | cons r l ih =>
    intro h1 h2 hA hB hf hr e1 e2
    simp only [List.all_cons, Bool.and_eq_true] at hf
    simp only [rowsH] at e1 e2
    split at e1
    · rename_i b o ho
      obtain ⟨k, bits, Z0, el, op, A, Z, g1, g2, g3, g4⟩ := rowObj_ok ho
      rw [g4 vB] at e2
      simp only at e2
      have hfr := hf.1
      unfold rowFree at hfr
      rw [g4 (.lit 0)] at hfr
      simp only [listT, Bool.and_eq_true] at hfr
      refine ih _ _ hA hB hf.2 ?_ e1 e2
      intro j hj bo hb
      have getA : (h1.upd b o).hp.get j = if b = j then some o else h1.hp.get j := Tr.get_set _ _ _ _
      have getB : (h2.upd b (.ints k bits (listT op A Z vB) el true)).hp.get j = if b = j then some (.ints k bits (listT op A Z vB) el true) else h2.hp.get j := Tr.get_set _ _ _ _
      rw [getB] at hb
      rw [getA]
      split at hb
      · rename_i he
        cases hb
        rw [if_pos he]
        refine ⟨o, rfl, by rw [g3]; rfl, by rw [g3]; rfl, ?_⟩
        intro x m hx
        rw [g3] at hx
        cases hx with
        | ints _ _ _ _ _ c rest fr z1 z2 z3 =>
          have hl := listT_evl hE g2 hfr.1 hfr.2 hv
          exact .ints k bits _ el true c rest fr (by rw [← hl]; exact z1) (by rw [← hl]; exact z2) z3
      · rename_i he
        rw [if_neg he]
        exact hr j hj bo hb
    · cases e1

theorem rows_keys {s : St} {v : T} : ∀ (l : List LRow) (h h' : Hs), rowsH s v l h = some h' → (∀ j o, h.hp.get j = some o → ∃ o', s.h.hp.get j = some o' ∧ o'.live = o.live ∧ o'.wr = o.wr) →
    (∀ j o, h'.hp.get j = some o → ∃ o', s.h.hp.get j = some o' ∧ o'.live = o.live ∧ o'.wr = o.wr) ∧ h'.hn = h.hn ∧ h'.fs = h.fs ∧ h'.n0 = h.n0 ∧ h'.ng = h.ng := by
  intro l
  induction l with
  | nil => intro h h' e hk; cases e; exact ⟨hk, rfl, rfl, rfl, rfl⟩
  | cons r l ih =>
    intro h h' e hk
    simp only [rowsH] at e
    split at e
    · rename_i b o ho
      obtain ⟨k, bits, Z0, el, op, A, Z, g1, g2, g3, g4⟩ := rowObj_ok ho
      refine (fun q => ih (h.upd b o) h' e q) ?_
      intro j oj hj
      have get : (h.upd b o).hp.get j = if b = j then some o else h.hp.get j := Tr.get_set _ _ _ _
      rw [get] at hj
      split at hj
      · rename_i he; subst he; cases hj
        exact ⟨_, g1, by rw [g3]; rfl, by rw [g3]; rfl⟩
      · exact hk j oj hj
    · cases e

/-! ## Does a state stand where it should? -/

def hasInts (h : Hs) (bits : Nat) (A : T) : Bool := (List.range h.hn).any fun j => match h.hp.get j with
  | some (.ints _ b A' _ _) => Nat.beq b bits && T.same A' A
  | some (.recs [(_, b)] A' _) => Nat.beq b bits && T.same A' A
  | _ => false
def hasRecs (h : Hs) (C : T) : Bool := (List.range h.hn).any fun j => match h.hp.get j with
  | some (.recs ks C' _) => decide (ks = [(.u16, 16), (.u8, 8)]) && T.same C' C
  | _ => false

/-- Is a list surely that of a template? -/
def eqL (h : Hs) (bits : Nat) (L' L : T) : Bool := T.same L' L || match L with
  | .op .lmix A (.op .lpair Z t _) _ => (isZero h.fs t && T.same L' Z) || (match L' with
    | .op .lset (.op .lmix A' (.op .lpair Z' p _) _) (.op .pair q x _) _ => T.same A' A && T.same Z' Z && T.same q p && T.same t (T.addc 1 p) && nonneg h.fs p && T.same x (rdT A bits p) && hasInts h bits A
    | _ => false)
  | .op .lmem y (.op .lpair Z t _) _ => (isZero h.fs t && T.same L' Z) || (match L' with
    | .op .lset (.op .lmem y' (.op .lpair Z' p _) _) (.op .pair q x _) _ => T.same y' y && T.same Z' Z && T.same q p && T.same t (T.addc 1 p) && nonneg h.fs p && T.same x (T.mod h.fs 256 (T.mul h.fs (T.mod h.fs 256 p) y))
    | _ => false)
  | .op .lputs L0 (.op .lpair C t _) _ => (isZero h.fs t && T.same L' L0) || (match L' with
    | .op .lset (.op .lputs L0' (.op .lpair C' p _) _) (.op .pair q x _) _ => T.same L0' L0 && T.same C' C && T.same t (T.addc 1 p) && nonneg h.fs p && T.same q (rdT C 16 (T.scale 2 p)) && T.same x (rdT C 8 (T.addc 1 (T.scale 2 p))) && hasRecs h C
    | _ => false)
  | _ => false

def sameEs : List (SV × SV × Nat) → List (SV × SV × Nat) → Bool
  | [], [] => true
  | (k, v, n) :: l, (k', v', n') :: r => SV.same 6 k k' && SV.same 6 v v' && Nat.beq n n' && sameEs l r
  | _, _ => false

def sameO : SObj → SObj → Bool
  | .row cs el w, .row cs' el' w' => sames (SV.same 6) cs cs' && Nat.beq el el' && (w == w')
  | .recs ks C o, .recs ks' C' o' => decide (ks = ks') && T.same C C' && T.same o o'
  | .iter s p, .iter s' p' => seq s s' && Nat.beq p p'
  | .map es c, .map es' c' => sameEs es es' && Nat.beq c c'
  | _, _ => false

def matchRow (h : Hs) (g o : SObj) : Bool := match g, o with
  | .ints k bits L el w, .ints k' bits' L' el' w' => decide (k = k') && Nat.beq bits bits' && Nat.beq el el' && (w == w') && eqL h bits L' L
  | g, o => sameO g o

def matchH (g h : Hs) : Bool := (List.range g.hn).all fun j => match g.hp.get j with
  | none => true
  | some .dead => true
  | some o => match h.hp.get j with
    | some o' => matchRow h o o'
    | none => false

def matchT (g s : St) (l : List Tmp) : Bool := l.all fun t => match g.tm.get t with
  | none => true
  | some v => match s.tm.get t with
    | some u => SV.same 6 u v
    | none => false

def matchS (sp : LSpec) (g s : St) : Bool := Nat.beq s.nt g.nt && s.ds.isEmpty && matchT g s (sp.cnt :: sp.keep) && matchH g.h s.h

section
variable {e : Env} {F : Base} {M : Lay} {h : Hs} {w : World}

theorem hasInts_ok (H : HeapOK e F M h w) {bits : Nat} {A : T} (hh : hasInts h bits A = true) (j : Nat) : clamp 0 (2 ^ bits - 1) ((A.evl e).getD j 0) = (A.evl e).getD j 0 := by
  unfold hasInts at hh
  simp only [List.any_eq_true, List.mem_range] at hh
  obtain ⟨i, _, hi⟩ := hh
  split at hi
  · rename_i k b A' el w' hg
    simp only [Bool.and_eq_true] at hi
    have hb := Nat.eq_of_beq_eq_true hi.1
    have hA := T.same_eq hi.2
    subst hb hA
    obtain ⟨r, n, x, h1, h2, h3⟩ := H.live i _ hg rfl
    cases h3 with
    | ints _ _ _ _ _ c rest fr z1 z2 z3 =>
      have hp : (0 : Int) < 2 ^ b := Int.pow_pos (by omega)
      rw [List.getD_eq_getElem?_getD]
      cases hx : (A'.evl e)[j]? with
      | none => simp only [Option.getD_none]; exact clamp_id (by omega) (by omega)
      | some y =>
        have := z2 y (List.mem_of_getElem? hx)
        simp only [Option.getD_some]
        exact clamp_id this.1 (by omega)
  · rename_i k b A' o hg
    simp only [Bool.and_eq_true] at hi
    have hb := Nat.eq_of_beq_eq_true hi.1
    have hA := T.same_eq hi.2
    subst hb hA
    obtain ⟨r, n, x, h1, h2, h3⟩ := H.live i _ hg rfl
    cases h3 with
    | recs _ _ _ _ c fr z1 z2 =>
      have hp : (0 : Int) < 2 ^ b := Int.pow_pos (by omega)
      rw [List.getD_eq_getElem?_getD]
      cases hx : (A'.evl e)[j]? with
      | none => simp only [Option.getD_none]; exact clamp_id (by omega) (by omega)
      | some y =>
        have := (z2 j y hx).2
        have hm : j % [(k, b)].length = 0 := by simp [Nat.mod_one]
        rw [hm] at this
        simp only [List.getD_eq_getElem?_getD, List.getElem?_cons_zero, Option.getD_some] at this
        simp only [Option.getD_some]
        exact clamp_id this.1 (by omega)
  · cases hi

theorem hasRecs_ok (H : HeapOK e F M h w) {C : T} (hh : hasRecs h C = true) (j : Nat) :
    clamp 0 (2 ^ 16 - 1) ((C.evl e).getD (2 * j) 0) = (C.evl e).getD (2 * j) 0 ∧ clamp 0 (2 ^ 8 - 1) ((C.evl e).getD (2 * j + 1) 0) = (C.evl e).getD (2 * j + 1) 0 := by
  unfold hasRecs at hh
  simp only [List.any_eq_true, List.mem_range] at hh
  obtain ⟨i, _, hi⟩ := hh
  split at hi
  · rename_i ks C' o hg
    simp only [Bool.and_eq_true, decide_eq_true_eq] at hi
    obtain ⟨hk, hC⟩ := hi
    have hC := T.same_eq hC
    subst hk hC
    obtain ⟨r, n, x, h1, h2, h3⟩ := H.live i _ hg rfl
    cases h3 with
    | recs _ _ _ _ c fr z1 z3 =>
      constructor
      · rw [List.getD_eq_getElem?_getD]
        cases hx : (C'.evl e)[2 * j]? with
        | none => simp only [Option.getD_none]; exact clamp_id (by omega) (by omega)
        | some y =>
          have := (z3 _ y hx).2
          have hm : (2 * j) % [(IntKind.u16, 16), (IntKind.u8, 8)].length = 0 := by simp
          rw [hm] at this
          simp only [List.getD_eq_getElem?_getD, List.getElem?_cons_zero, Option.getD_some] at this
          simp only [Option.getD_some]
          exact clamp_id this.1 (by omega)
      · rw [List.getD_eq_getElem?_getD]
        cases hx : (C'.evl e)[2 * j + 1]? with
        | none => simp only [Option.getD_none]; exact clamp_id (by omega) (by omega)
        | some y =>
          have := (z3 _ y hx).2
          have hm : (2 * j + 1) % [(IntKind.u16, 16), (IntKind.u8, 8)].length = 1 := by simp only [List.length_cons, List.length_nil]; omega
          rw [hm] at this
          simp only [List.getD_eq_getElem?_getD, List.getElem?_cons_succ, List.getElem?_cons_zero, Option.getD_some] at this
          simp only [Option.getD_some]
          exact clamp_id this.1 (by omega)
  · cases hi

theorem eqL_ok (H : HeapOK e F M h w) {bits : Nat} {L' L : T} (hh : eqL h bits L' L = true) : L'.evl e = L.evl e := by
  unfold eqL at hh
  simp only [Bool.or_eq_true] at hh
  rcases hh with hh | hh
  · rw [T.same_eq hh]
  have hz : ∀ t : T, isZero h.fs t = true → t.ev e = 0 := by
    intro t ht
    unfold isZero at ht
    split at ht
    · rename_i h0; exact litNat_ok H.fact h0
    · cases ht
  split at hh
  · rename_i A Z t j k
    have hl : (T.op .lmix A (.op .lpair Z t j) k).evl e = mixL (A.evl e) (Z.evl e) (t.ev e).toNat := rfl
    rw [hl]
    simp only [Bool.or_eq_true, Bool.and_eq_true] at hh
    rcases hh with ⟨h1, h2⟩ | hh
    · rw [hz _ h1, T.same_eq h2]; exact (mixL_zero _ _).symm
    · split at hh
      · rename_i A' Z' p j1 k1 q x j2 k2
        simp only [Bool.and_eq_true] at hh
        obtain ⟨⟨⟨⟨⟨⟨a1, a2⟩, a3⟩, a4⟩, a5⟩, a6⟩, a7⟩ := hh
        have a1 := T.same_eq a1; have a2 := T.same_eq a2; have a3 := T.same_eq a3; have a4 := T.same_eq a4; have a6 := T.same_eq a6
        have hp := nonneg_ok H.fact a5
        subst a1 a2 a3 a6
        have ht : (t.ev e).toNat = (q.ev e).toNat + 1 := by rw [a4, addc_ev]; omega
        show (mixL (A'.evl e) (Z'.evl e) (q.ev e).toNat).set (q.ev e).toNat ((rdT A' bits q).ev e) = _
        rw [ht, rdT_ev, hasInts_ok H a7, mixL_succ]
      · cases hh
  · rename_i y Z t j k
    have hl : (T.op .lmem y (.op .lpair Z t j) k).evl e = memL (y.ev e) (Z.evl e) (t.ev e).toNat := rfl
    rw [hl]
    simp only [Bool.or_eq_true, Bool.and_eq_true] at hh
    rcases hh with ⟨h1, h2⟩ | hh
    · rw [hz _ h1, T.same_eq h2]; exact (memL_zero _ _).symm
    · split at hh
      · rename_i y' Z' p j1 k1 q x j2 k2
        simp only [Bool.and_eq_true] at hh
        obtain ⟨⟨⟨⟨⟨a1, a2⟩, a3⟩, a4⟩, a5⟩, a6⟩ := hh
        have a1 := T.same_eq a1; have a2 := T.same_eq a2; have a3 := T.same_eq a3; have a4 := T.same_eq a4; have a6 := T.same_eq a6
        have hp := nonneg_ok H.fact a5
        subst a1 a2 a3 a6
        have ht : (t.ev e).toNat = (q.ev e).toNat + 1 := by rw [a4, addc_ev]; omega
        show (memL (y'.ev e) (Z'.evl e) (q.ev e).toNat).set (q.ev e).toNat ((T.mod h.fs 256 (T.mul h.fs (T.mod h.fs 256 q) y')).ev e) = _
        rw [ht, ← memL_succ, mod_ev H.fact (by omega), mul_ev H.fact, mod_ev H.fact (by omega)]
        have : ((q.ev e).toNat : Int) = q.ev e := Int.toNat_of_nonneg hp
        rw [this]; rfl
      · cases hh
  · rename_i L0 C t j k
    have hl : (T.op .lputs L0 (.op .lpair C t j) k).evl e = putsL (L0.evl e) (C.evl e) (t.ev e).toNat := rfl
    rw [hl]
    simp only [Bool.or_eq_true, Bool.and_eq_true] at hh
    rcases hh with ⟨h1, h2⟩ | hh
    · rw [hz _ h1, T.same_eq h2]; rfl
    · split at hh
      · rename_i L0' C' p j1 k1 q x j2 k2
        simp only [Bool.and_eq_true] at hh
        obtain ⟨⟨⟨⟨⟨⟨a1, a2⟩, a4⟩, a5⟩, a3⟩, a6⟩, a7⟩ := hh
        have a1 := T.same_eq a1; have a2 := T.same_eq a2; have a3 := T.same_eq a3; have a4 := T.same_eq a4; have a6 := T.same_eq a6
        have hp := nonneg_ok H.fact a5
        subst a1 a2 a3 a6
        have ht : (t.ev e).toNat = (p.ev e).toNat + 1 := by rw [a4, addc_ev]; omega
        have hr := hasRecs_ok H a7 (p.ev e).toNat
        have e1 : ((T.scale 2 p).ev e).toNat = 2 * (p.ev e).toNat := by rw [scale_ev]; omega
        have e2 : ((T.addc 1 (T.scale 2 p)).ev e).toNat = 2 * (p.ev e).toNat + 1 := by rw [addc_ev, scale_ev]; omega
        show (putsL (L0'.evl e) (C'.evl e) (p.ev e).toNat).set ((rdT C' 16 (T.scale 2 p)).ev e).toNat ((rdT C' 8 (T.addc 1 (T.scale 2 p))).ev e) = _
        rw [ht, rdT_ev, rdT_ev, e1, e2, hr.1, hr.2]; rfl
      · cases hh
  · cases hh

theorem sames_eq : ∀ {l r : List SV}, sames (SV.same 6) l r = true → l = r := by
  intro l
  induction l with
  | nil => intro r h; cases r with
    | nil => rfl
    | cons => cases h
  | cons x l ih =>
    intro r h
    cases r with
    | nil => cases h
    | cons y r =>
      simp only [sames, Bool.and_eq_true] at h
      rw [same_is 6 h.1, ih h.2]

theorem sameEs_eq : ∀ {l r : List (SV × SV × Nat)}, sameEs l r = true → l = r := by
  intro l
  induction l with
  | nil => intro r h; cases r with
    | nil => rfl
    | cons => cases h
  | cons x l ih =>
    intro r h
    cases r with
    | nil => cases h
    | cons y r =>
      obtain ⟨k, v, n⟩ := x
      obtain ⟨k', v', n'⟩ := y
      simp only [sameEs, Bool.and_eq_true] at h
      rw [same_is 6 h.1.1.1, same_is 6 h.1.1.2, Nat.eq_of_beq_eq_true h.1.2, ih h.2]

/-- What matches stands for what it should. -/
theorem matchRow_ok (H : HeapOK e F M h w) {g o : SObj} (hm : matchRow h g o = true) : o.live = g.live ∧ o.wr = g.wr ∧ ∀ x m, OR e M o x m → OR e M g x m := by
  unfold matchRow at hm
  split at hm
  · rename_i k bits L el wr k' bits' L' el' wr'
    simp only [Bool.and_eq_true, decide_eq_true_eq] at hm
    obtain ⟨⟨⟨⟨h1, h2⟩, h3⟩, h4⟩, h5⟩ := hm
    have h2 := Nat.eq_of_beq_eq_true h2
    have h3 := Nat.eq_of_beq_eq_true h3
    have h4 : wr = wr' := by simpa using h4
    subst h1 h2 h3 h4
    have hl := eqL_ok H h5
    refine ⟨rfl, rfl, fun x m hx => ?_⟩
    cases hx with
    | ints _ _ _ _ _ c rest fr z1 z2 z3 => exact .ints k bits L el wr c rest fr (by rw [← hl]; exact z1) (by rw [← hl]; exact z2) z3
  · unfold sameO at hm
    split at hm
    · simp only [Bool.and_eq_true] at hm
      have h1 := sames_eq hm.1.1
      have h2 := Nat.eq_of_beq_eq_true hm.1.2
      have h3 := hm.2
      simp only [beq_iff_eq] at h3
      subst h1 h2 h3
      exact ⟨rfl, rfl, fun x m hx => hx⟩
    · simp only [Bool.and_eq_true, decide_eq_true_eq] at hm
      have h1 := T.same_eq hm.1.2
      have h2 := T.same_eq hm.2
      have h4 := hm.1.1
      subst h1 h2 h4
      exact ⟨rfl, rfl, fun x m hx => hx⟩
    · simp only [Bool.and_eq_true] at hm
      have h1 := seq_iff.1 hm.1
      have h2 := Nat.eq_of_beq_eq_true hm.2
      subst h1 h2
      exact ⟨rfl, rfl, fun x m hx => hx⟩
    · simp only [Bool.and_eq_true] at hm
      have h1 := sameEs_eq hm.1
      have h2 := Nat.eq_of_beq_eq_true hm.2
      subst h1 h2
      exact ⟨rfl, rfl, fun x m hx => hx⟩
    · cases hm
end

/-- The rows below a number. -/
def Lay.cut (M : Lay) (hn : Nat) : Lay := fun j => if j < hn then M j else none

/-- From what was reached to what stands for it in another environment. -/
theorem transport {F : Base} {M MA : Lay} {eA eB e : Env} {D : List Deferred} {sp : LSpec} {s s' gA gB : St} {vA vB : T} {a : Act} {w w0 : World} {fs : Facts} (H0 : HeapOK e F M s.h w0) (hfree : freeSt sp s = true)
    (hA : tmplS sp s vA = some gA) (hB : tmplS sp s vB = some gB) (hm : matchS sp gA s' = true) (hs : StOK eA F MA D s' a w) (hM : M.le MA) (hE : EnvSim sp.var eA eB) (hv : vA.ev eA = vB.ev eB) (hf : fs.ok eB) (hnt : gA.nt = gB.nt) :
    M.le (MA.cut s.h.hn) ∧ StOK eB F (MA.cut s.h.hn) D { gB with h := { gB.h with fs := fs } } a w := by
  have hcut : ∀ b, b < s.h.hn → ∀ x, MA b = some x → (MA.cut s.h.hn) b = some x := fun b hb x hx => by unfold Lay.cut; rw [if_pos hb]; exact hx
  have hcut' : ∀ b x, (MA.cut s.h.hn) b = some x → b < s.h.hn ∧ MA b = some x := by
    intro b x hx
    unfold Lay.cut at hx
    split at hx
    · rename_i hb; exact ⟨hb, hx⟩
    · cases hx
  have hlt : ∀ b x, M b = some x → b < s.h.hn := by
    intro b x hx
    rcases Nat.lt_or_ge b s.h.hn with h | h
    · exact h
    · rw [H0.fresh b h] at hx; cases hx
  refine ⟨fun b x hx => hcut b (hlt b x hx) x (hM b x hx), ?_⟩
  -- the templates taken apart
  unfold tmplS at hA hB
  split at hA
  · rename_i hAh eqA
    cases hA
    split at hB
    · rename_i hBh eqB
      cases hB
      have k0 : ∀ j o, s.h.hp.get j = some o → ∃ o', s.h.hp.get j = some o' ∧ o'.live = o.live ∧ o'.wr = o.wr := fun j o h => ⟨o, h, rfl, rfl⟩
      obtain ⟨keyA, hnA, _, n0A, ngA⟩ := rows_keys sp.rows s.h _ eqA k0
      obtain ⟨keyB, hnB, _, n0B, ngB⟩ := rows_keys sp.rows s.h _ eqB k0
      simp only [freeSt, Bool.and_eq_true] at hfree
      obtain ⟨⟨⟨hds, hft⟩, hfh⟩, hfr⟩ := hfree
      simp only [matchS, Bool.and_eq_true] at hm
      obtain ⟨⟨⟨m1, m2⟩, m3⟩, m4⟩ := hm
      have hrel : Rel eA eB MA (MA.cut s.h.hn) s.h.hn hAh hBh := by
        refine rows_rel hE hv sp.rows s.h s.h hAh hBh hfr ?_ eqA eqB
        intro j hj b hb
        refine ⟨b, hb, rfl, rfl, fun x m hx => ?_⟩
        have hfo : freeO sp.var s.h.hn b = true := by
          have := List.all_eq_true.1 hfh j (List.mem_range.2 hj)
          rw [hb] at this; exact this
        exact OR_move hE hcut hfo hx
      -- a row of the template, and the one that stands for it
      have row : ∀ j o, hBh.hp.get j = some o → o.live = true → j < s.h.hn ∧ ∃ o', s'.h.hp.get j = some o' ∧ o'.live = true ∧ o'.wr = o.wr ∧ ∀ x m, OR eA MA o' x m → OR eB (MA.cut s.h.hn) o x m := by
        intro j o hj hl
        obtain ⟨os, g1, g2, g3⟩ := keyB j o hj
        obtain ⟨r, n, x, q1, _, _⟩ := H0.live j os g1 (by rw [g2]; exact hl)
        have hjn := hlt j _ q1
        obtain ⟨oa, p1, p2, p3, p4⟩ := hrel j hjn o hj
        have mh := List.all_eq_true.1 m4 j (List.mem_range.2 (by show j < hAh.hn; rw [hnA]; exact hjn))
        have hp1 : ({ s with tm := (keepT s sp.keep).set (some (.int .i64 vA)) sp.cnt, h := hAh } : St).h.hp.get j = some oa := p1
        rw [hp1] at mh
        have hoal : oa.live = true := by rw [p2]; exact hl
        split at mh
        · rename_i hnone; cases hnone
        · rename_i hdead; cases hdead; cases hoal
        · rename_i oa' heq
          cases heq
          split at mh
          · rename_i o' ho'
            obtain ⟨c1, c2, c3⟩ := matchRow_ok hs.heap mh
            exact ⟨hjn, o', ho', by rw [c1]; exact hoal, by rw [c2]; exact p3, fun x m hx => p4 x m (c3 x m hx)⟩
          · cases mh
      refine ⟨?_, ?_, ?_, ?_⟩
      · intro t v hv'
        have hv2 : ((keepT s sp.keep).set (some (.int .i64 vB)) sp.cnt).get t = some v := hv'
        have mt : ∀ t u, ((keepT s sp.keep).set (some (.int .i64 vA)) sp.cnt).get t = some u → t ∈ sp.cnt :: sp.keep → s'.tm.get t = some u := by
          intro t u hu hmem
          have := List.all_eq_true.1 m3 t hmem
          have hu' : ({ s with tm := (keepT s sp.keep).set (some (.int .i64 vA)) sp.cnt, h := hAh } : St).tm.get t = some u := hu
          rw [hu'] at this
          simp only at this
          split at this
          · rename_i u' hu2
            rw [hu2, same_is 6 this]
          · cases this
        rw [Tr.get_set] at hv2
        split at hv2
        · rename_i he; subst he; cases hv2
          have hu := mt sp.cnt (.int .i64 vA) (by rw [Tr.get_set, if_pos rfl]) (by simp)
          obtain ⟨x, x1, x2⟩ := hs.tm _ _ hu
          cases x2
          exact ⟨_, x1, by rw [hv]; exact .int _ _⟩
        · rename_i hne
          obtain ⟨g1, g2⟩ := keepT_get s sp.keep t v hv2
          have hu := mt t v (by rw [Tr.get_set, if_neg hne]; exact hv2) (by simp [g2])
          obtain ⟨x, x1, x2⟩ := hs.tm _ _ hu
          have hfv : freeS sp.var s.h.hn 6 v = true := by
            have := List.all_eq_true.1 hft t g2
            rw [g1] at this; exact this
          exact ⟨x, x1, VR_move hE hcut 6 v x hfv x2⟩
      · rw [hs.nt]
        exact Nat.eq_of_beq_eq_true m1
      · refine ⟨?_, ?_, ?_, hf, ?_, ?_, ?_, ?_, hs.heap.ng, ?_, ?_, ?_, hs.heap.frame⟩
        · intro j o hj hl
          obtain ⟨hjn, o', q1, q2, q3, q4⟩ := row j o hj hl
          obtain ⟨r, n, x, z1, z2, z3⟩ := hs.heap.live j o' q1 q2
          exact ⟨r, n, x, hcut j hjn _ z1, z2, q4 x n z3⟩
        · intro i j oi oj ri rj ni nj hi hli hj hlj hwr hMi hMj hr
          obtain ⟨_, oi', q1, q2, q3, _⟩ := row i oi hi hli
          obtain ⟨_, oj', u1, u2, u3, _⟩ := row j oj hj hlj
          exact hs.heap.inj i j oi' oj' ri rj ni nj q1 q2 u1 u2 (by rw [q3, u3]; exact hwr) (hcut' _ _ hMi).2 (hcut' _ _ hMj).2 hr
        · intro i hi
          have : s.h.hn ≤ i := by rw [← hnB]; exact hi
          unfold Lay.cut; rw [if_neg (by omega)]
        · intro i hi
          have := H0.n0
          unfold Lay.cut; rw [if_pos (by omega)]
          exact hs.heap.old i hi
        · show F.n0 ≤ hBh.hn
          rw [hnB]; exact H0.n0
        · show hBh.n0 = F.n0
          rw [n0B]; exact H0.cn0
        · show hBh.ng = F.ng
          rw [ngB]; exact H0.cng
        · intro i o r n hi hl hin hMi
          obtain ⟨_, o', q1, q2, _, _⟩ := row i o hi hl
          exact hs.heap.new i o' r n q1 q2 hin (hcut' _ _ hMi).2
        · intro i o hi hw hin
          obtain ⟨os, g1, _, g3⟩ := keyB i o hi
          exact H0.wr i os g1 (by rw [g3]; exact hw) hin
        · intro i r n hi hMi
          exact hs.heap.glob i r n hi (hcut' _ _ hMi).2
      · have h1 : s'.ds = [] := by simpa using m2
        have h2 : s.ds = [] := by simpa using hds
        have hd := hs.defs
        rw [h1] at hd
        show DefR eB (MA.cut s.h.hn) s.ds a.defers
        rw [h2]
        generalize a.defers = z at hd
        cases hd
        exact .nil
    · cases hB
  · cases hA

/-! ## The loop -/

def boundT (s : St) : LBound → Option T
  | .len t p => match s.tm.get t with
    | some (.slice _ _ len _ _) => some (T.addc (p : Int) len)
    | some (.nslice _ _ len _ _ _) => some (T.addc (p : Int) len)
    | some .nils => some (.lit (p : Int))
    | _ => none
  | .lit n => some (.lit (n : Int))

def loopF (sp : LSpec) (id : Nat) (body : St → (X → St → V) → V) (s : St) (k : X → St → V) : V :=
  match boundT s sp.bound with
  | none => .bad 900 []
  | some N => match rng s.h.fs N with
    | none => .bad 901 [.int .i64 N]
    | some (_, b) => match T.atom (.var sp.var 0 b) with
      | v => match tmplS sp s (.lit 0), tmplS sp s v, tmplS sp s (T.addc 1 v), tmplS sp s N with
        | some g0, some g, some g1, some gN =>
          bif freeSt sp s && T.free sp.var N && (s.h.fs.all fun x => T.free sp.var x.1) && matchS sp g0 s && nonneg s.h.fs N && Nat.ble 9000 sp.var then
            V.and (body { g with h := { g.h with fs := (T.sub v N, -b, 0) :: s.h.fs } } fun x s' => match x with
              | .normal => bif matchS sp g1 s' && nonpos s'.h.fs (T.sub (T.addc 1 v) N) then .ok else .bad 902 [.int .i64 (T.sub (T.addc 1 v) N)]
              | .exit j => bif Nat.beq j id && matchS sp g s' && nonpos s'.h.fs (T.sub N v) then .ok else .bad 903 [.int .i64 (T.sub N v)]
              | _ => .bad 904 []) (k (.exit id) { gN with h := { gN.h with fs := s.h.fs } })
          else .bad 905 []
        | _, _, _, _ => .bad 906 []

end Go.Sx

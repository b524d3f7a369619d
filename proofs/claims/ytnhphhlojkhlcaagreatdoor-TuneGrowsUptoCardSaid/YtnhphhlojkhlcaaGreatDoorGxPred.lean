/- Both sides of a fork at once: what they change is mixed. -/
import Derived.Test.YtnhphhlojkhlcaaGreatDoorGxSame
namespace Go.Sx
open Go Go.RowKit

section
variable (P : Program)

/-- Operations that change nothing, as the executor takes them. -/
def isPlain (o : Op) : Bool := match o with
  | .move _ => true | .assign _ => true | .pick .. => true | .build .. => true | .load .. => true | .nilCheck .. => true | .binOp .. => true | .unOp .. => true | .makeInterface .. => true
  | .slice .. => true | .fieldAddr .. => true | .field .. => true | .indexAddr .. => true | .index .. => true | .extract .. => true | _ => false

def storeD (h : Hs) (t : TypeId) (a x : SV) : Option (Hs × Nat) :=
  match a with
  | .ptr b off => match h.hp.get b with
    | some (.row cs el true) => match litNat h.fs off with
      | some n => match x.cells with
        | some l => match sizeS P t with
          | some m => bif Nat.beq l.length m && Nat.ble (n + m) cs.length then some (h.upd b (.row (overlayS cs n l) el true), b) else none
          | none => none
        | none => none
      | none => none
    | _ => none
  | _ => none

def putD (s : St) (d : Option Tmp) (v : SV) (T : List Nat) : Option (St × List Nat) :=
  match d with
  | none => some (s, T)
  | some t => bif Nat.blt t s.nt then some (s.setT (s.tm.set (some v) t), t :: T) else none

/-- What stands in a state that is gone through: temporaries and rows that were written. -/
structure DS where
  s : St
  T : List Nat
  W : List Nat

def opD (o : Oper) (x : DS) : Option DS :=
  match o.guard with
  | some _ => none
  | none => match o.op with
    | .store t a v => match storeD P x.s.h t (evS x.s.h x.s.tm a) (evS x.s.h x.s.tm v) with
      | some (h, b) => (match putD (x.s.setH h) o.dst .junk x.T with
        | some (s, T) => some ⟨s, T, b :: x.W⟩
        | none => none)
      | none => none
    | .convert src dst y => match isBytes P dst with
      | some _ => none
      | none => match quiet P x.s.h (evS x.s.h x.s.tm) (.convert src dst y) with
        | some v => (match putD x.s o.dst v x.T with
          | some (s, T) => some ⟨s, T, x.W⟩
          | none => none)
        | none => none
    | op => bif isPlain op then (match quiet P x.s.h (evS x.s.h x.s.tm) op with
        | some v => (match putD x.s o.dst v x.T with
          | some (s, T) => some ⟨s, T, x.W⟩
          | none => none)
        | none => none) else none

def opsD : List Oper → DS → Option DS
  | [], x => some x
  | o :: l, x => match opD P o x with
    | some y => opsD l y
    | none => none

def runD : Code → DS → Option DS
  | .skip, x => some x
  | .region _ ops false, x => opsD P ops.toList x
  | .seq a b, x => match runD a x with
    | some y => runD b y
    | none => none
  | _, _ => none

/-- Is a sum more than one product of one factor? -/
def multi : T → Bool
  | .term _ (.prod _ (.prod _ _)) _ => true
  | .term _ _ (.term _ _ _) => true
  | _ => false

/-- A test as one factor. -/
def bitT (c : T) : T := bif multi c then eqAtom (T.addc (-1) c) else c

theorem bitT_ev {e : Env} {c : T} {b : Bool} (h : c.ev e = bint b) : (bitT c).ev e = c.ev e := by
  unfold bitT
  cases multi c with
  | false => rfl
  | true =>
    simp only [cond_true]
    rw [eqAtom_ev, addc_ev, h]
    cases b <;> simp [bint]

def mix (fs : Facts) (c p q : T) : T := T.add q (T.mul fs (bitT c) (T.sub p q))

def mergeL (f : SV → SV → Option SV) : List SV → List SV → Option (List SV)
  | [], [] => some []
  | a :: l, b :: r => match f a b with
    | some v => match mergeL f l r with
      | some vs => some (v :: vs)
      | none => none
    | none => none
  | _, _ => none

/-- Two numbers that lie far apart: they are not mixed. -/
def far : T → T → Bool
  | .lit a, .lit b => Nat.blt 255 (a - b).natAbs
  | _, _ => false

def mergeV (fs : Facts) (c : T) : Nat → SV → SV → Option SV
  | 0, _, _ => none
  | n + 1, a, b => match a, b with
    | .int k p, .int k' q => bif far p q then none else if k = k' then some (.int k (mix fs c p q)) else none
    | .bool p, .bool q => some (.bool (mix fs c p q))
    | .agg l, .agg r => match mergeL (mergeV fs c n) l r with
      | some v => some (.agg v)
      | none => none
    | .junk, _ => some .junk
    | _, .junk => some .junk
    | a, b => bif SV.same 6 a b then some a else none

def mergeT (fs : Facts) (c : T) (x y : Tr SV) : List Nat → Tr SV → Option (Tr SV)
  | [], m => some m
  | t :: l, m => match x.get t, y.get t with
    | some a, some b => match mergeV fs c 4 a b with
      | some v => mergeT fs c x y l (m.set (some v) t)
      | none => none
    | _, _ => mergeT fs c x y l (m.set (some .junk) t)

def mergeW (fs : Facts) (c : T) (x y : Tr SObj) : List Nat → Hs → Option Hs
  | [], m => some m
  | b :: l, m => match x.get b, y.get b with
    | some (.row cs el true), some (.row cs' el' true) => bif Nat.beq el el' then match mergeL (mergeV fs c 4) cs cs' with
        | some v => mergeW fs c x y l (m.upd b (.row v el true))
        | none => none
      else none
    | _, _ => none

/-- Both sides of a fork, mixed. -/
def predX (c : T) (t f : Code) (s : St) : Option St :=
  match assume c true s.h.fs, assume c false s.h.fs with
  | some ft, some ff => match runD P t ⟨s.setH { s.h with fs := ft }, [], []⟩ with
    | some x => match runD P f ⟨s.setH { s.h with fs := ff }, [], []⟩ with
      | some y => match mergeT s.h.fs c x.s.tm y.s.tm (x.T ++ y.T) s.tm with
        | some tm => match mergeW s.h.fs c x.s.h.hp y.s.h.hp (x.W ++ y.W) s.h with
          | some h => some { s with tm := tm, h := h }
          | none => none
        | none => none
      | none => none
    | none => none
  | _, _ => none
end

section
variable {P : Program} {cf : CE} {e : Env} {F : Base} {M : Lay} {w : World} {D : List Deferred}

theorem storeD_eq {h h' : Hs} {t : TypeId} {a x : SV} {b : Nat} (hd : storeD P h t a x = some (h', b)) (k : SV → Hs → V) :
    storeS P h t a x k = k .junk h' ∧ ∃ cs el l, h.hp.get b = some (.row cs el true) ∧ h' = h.upd b (.row l el true) := by
  unfold storeD at hd
  unfold storeS
  split at hd
  · rename_i b' off
    split at hd
    · rename_i cs el hg
      split at hd
      · rename_i n hn
        split at hd
        · rename_i l hl
          split at hd
          · rename_i m hm
            cases hc : (Nat.beq l.length m && Nat.ble (n + m) cs.length) with
            | false => rw [hc] at hd; cases hd
            | true =>
              rw [hc] at hd; simp only [cond_true, Option.some.injEq, Prod.mk.injEq] at hd
              obtain ⟨rfl, rfl⟩ := hd
              simp only [hg, hn, hl, hm, hc, cond_true]
              exact ⟨trivial, cs, el, _, rfl, rfl⟩
          · cases hd
        · cases hd
      · cases hd
    · cases hd
  · cases hd

/-- What is as it was. -/
structure Same (s0 s : St) (T W : List Nat) : Prop where
  tm : ∀ t, t ∉ T → s.tm.get t = s0.tm.get t
  hp : ∀ b, b ∉ W → s.h.hp.get b = s0.h.hp.get b
  nt : s.nt = s0.nt
  ds : s.ds = s0.ds
  hn : s.h.hn = s0.h.hn
  fs : s.h.fs = s0.h.fs
  n0 : s.h.n0 = s0.h.n0
  ng : s.h.ng = s0.h.ng
  lt : ∀ t ∈ T, t < s0.nt

theorem putD_ok {s s' : St} {d : Option Tmp} {v : SV} {T T' : List Nat} (h : putD s d v T = some (s', T')) (k : St → V) : St.put s d v k = k s' ∧ s'.h = s.h ∧ s'.nt = s.nt ∧ s'.ds = s.ds ∧ (∀ t, t ∉ T' → s'.tm.get t = s.tm.get t ∧ t ∉ T) ∧ (∀ t ∈ T', t ∈ T ∨ t < s.nt) := by
  unfold putD at h
  rw [St.put_def]
  cases d with
  | none => cases h; exact ⟨rfl, rfl, rfl, rfl, fun t ht => ⟨rfl, ht⟩, fun t ht => .inl ht⟩
  | some t =>
    simp only at h ⊢
    cases hb : Nat.blt t s.nt with
    | false => rw [hb] at h; cases h
    | true =>
      rw [hb] at h; cases h
      refine ⟨rfl, rfl, rfl, rfl, fun u hu => ?_, fun u hu => ?_⟩
      · simp only [List.mem_cons, not_or] at hu
        exact ⟨by show (Tr.set (some v) s.tm t).get u = _; rw [Tr.get_set, if_neg (Ne.symm hu.1)], hu.2⟩
      · rcases List.mem_cons.1 hu with rfl | hu
        · exact .inr (by simpa [Nat.blt_eq] using hb)
        · exact .inl hu

theorem opD_eq {o : Oper} {x y : DS} (h : opD P o x = some y) (k : St → V) (kp : SV → St → V) : o.guard = none ∧ opX P cf o x.s k kp = k y.s := by
  unfold opD at h
  split at h
  · cases h
  · rename_i hg
    refine ⟨hg, ?_⟩
    split at h
    · rename_i t a v hop
      split at h
      · rename_i h' b hst
        split at h
        · rename_i s T hput
          cases h
          have g1 := (storeD_eq hst (fun v h => St.put (x.s.setH h) o.dst v k)).1
          have p1 := (putD_ok hput k).1
          unfold opX; rw [hop]; simp only [g1, p1]
        · cases h
      · cases h
    · rename_i src dst z hop
      split at h
      · cases h
      · rename_i hib
        split at h
        · rename_i v hq
          split at h
          · rename_i s T hput
            cases h
            have p1 := (putD_ok hput k).1
            unfold opX; rw [hop]; simp only [hib]
            split
            · rename_i heq; cases heq
            · rename_i heq; cases heq
            · rw [hq]; exact p1
          · cases h
        · cases h
    · rename_i op hns hnc
      cases hpl : isPlain o.op with
      | false => rw [hpl] at h; cases h
      | true =>
        rw [hpl] at h; simp only [cond_true] at h
        split at h
        · rename_i v hq
          split at h
          · rename_i s T hput
            cases h
            have p1 := (putD_ok hput k).1
            unfold opX
            generalize hoo : o.op = op' at *
            cases op' <;> first | (simp only [isPlain] at hpl; cases hpl; done) | (simp only [hq]; exact p1)
          · cases h
        · cases h

theorem opD_ok {o : Oper} {x y : DS} {s0 : St} (h : opD P o x = some y) (hs : Same s0 x.s x.T x.W) (k : St → V) (kp : SV → St → V) :
    o.guard = none ∧ opX P cf o x.s k kp = k y.s ∧ Same s0 y.s y.T y.W := by
  unfold opD at h
  split at h
  · cases h
  · rename_i hg
    refine ⟨hg, ?_⟩
    split at h
    · rename_i t a v hop
      split at h
      · rename_i h' b hst
        split at h
        · rename_i s T hput
          cases h
          obtain ⟨g1, cs, el, l, g2, g3⟩ := storeD_eq hst (fun v h => St.put (x.s.setH h) o.dst v k)
          obtain ⟨p1, p2, p3, p4, p5, p6⟩ := putD_ok hput k
          have p2 : s.h = h' := p2
          have p3 : s.nt = x.s.nt := p3
          have p4 : s.ds = x.s.ds := p4
          have p5 : ∀ t, t ∉ T → s.tm.get t = x.s.tm.get t ∧ t ∉ x.T := p5
          have p6 : ∀ t, t ∈ T → t ∈ x.T ∨ t < x.s.nt := p6
          refine ⟨by unfold opX; rw [hop]; simp only [g1, p1], ?_⟩
          refine ⟨fun t ht => ?_, fun b' hb' => ?_, by rw [p3]; exact hs.nt, by rw [p4]; exact hs.ds, ?_, ?_, ?_, ?_, fun u hu => (p6 u hu).elim (hs.lt u) (fun h => by rw [← hs.nt]; exact h)⟩
          · have := p5 t ht
            rw [this.1]; exact hs.tm t this.2
          · simp only [List.mem_cons, not_or] at hb'
            rw [p2]
            simp only [g3, Hs.upd]
            rw [Tr.get_set, if_neg (Ne.symm hb'.1)]
            exact hs.hp b' hb'.2
          · rw [p2]; simp only [g3, Hs.upd]; exact hs.hn
          · rw [p2]; simp only [g3, Hs.upd]; exact hs.fs
          · rw [p2]; simp only [g3, Hs.upd]; exact hs.n0
          · rw [p2]; simp only [g3, Hs.upd]; exact hs.ng
        · cases h
      · cases h
    · rename_i src dst z hop
      split at h
      · cases h
      · rename_i hib
        split at h
        · rename_i v hq
          split at h
          · rename_i s T hput
            cases h
            obtain ⟨p1, p2, p3, p4, p5, p6⟩ := putD_ok hput k
            refine ⟨?_, ?_⟩
            · unfold opX; rw [hop]; simp only [hib]
              split
              · rename_i heq; cases heq
              · rename_i heq; cases heq
              · rw [hq]; exact p1
            · refine ⟨fun t ht => ?_, by rw [p2]; exact hs.hp, by rw [p3]; exact hs.nt, by rw [p4]; exact hs.ds, by rw [p2]; exact hs.hn, by rw [p2]; exact hs.fs, by rw [p2]; exact hs.n0, by rw [p2]; exact hs.ng, fun u hu => (p6 u hu).elim (hs.lt u) (fun h => by rw [← hs.nt]; exact h)⟩
              have := p5 t ht
              rw [this.1]; exact hs.tm t this.2
          · cases h
        · cases h
    · rename_i op hns hnc
      cases hpl : isPlain o.op with
      | false => rw [hpl] at h; cases h
      | true =>
        rw [hpl] at h; simp only [cond_true] at h
        split at h
        · rename_i v hq
          split at h
          · rename_i s T hput
            cases h
            obtain ⟨p1, p2, p3, p4, p5, p6⟩ := putD_ok hput k
            refine ⟨?_, ?_⟩
            · unfold opX
              generalize hoo : o.op = op' at *
              cases op' <;> first | (simp only [isPlain] at hpl; cases hpl; done) | (simp only [hq]; exact p1)
            · refine ⟨fun t ht => ?_, by rw [p2]; exact hs.hp, by rw [p3]; exact hs.nt, by rw [p4]; exact hs.ds, by rw [p2]; exact hs.hn, by rw [p2]; exact hs.fs, by rw [p2]; exact hs.n0, by rw [p2]; exact hs.ng, fun u hu => (p6 u hu).elim (hs.lt u) (fun h => by rw [← hs.nt]; exact h)⟩
              have := p5 t ht
              rw [this.1]; exact hs.tm t this.2
          · cases h
        · cases h

theorem opsD_ok {ops : Array Oper} {s0 : St} : ∀ (l : List Oper) (x y : DS), opsD P l x = some y → Same s0 x.s x.T x.W → (∀ (k : St → V) (kp : SV → St → V), regN P cf ops l x.s k kp = k y.s) ∧ Same s0 y.s y.T y.W := by
  intro l
  induction l with
  | nil => intro x y h hs; cases h; exact ⟨fun _ _ => rfl, hs⟩
  | cons o l ih =>
    intro x y h hs
    simp only [opsD] at h
    split at h
    · rename_i z hz
      have hz1 := fun k kp => opD_ok (cf := cf) hz hs k kp
      obtain ⟨g1, _, g3⟩ := hz1 (fun _ => .ok) (fun _ _ => .ok)
      obtain ⟨i1, i2⟩ := ih z y h g3
      refine ⟨fun k kp => ?_, i2⟩
      have hcv : condV P cf.sh ops o x.s = none := by unfold condV; rw [g1]
      simp only [regN, hcv, guardX, g1]
      rw [(hz1 _ _).2.1]
      exact i1 k kp
    · cases h

theorem opsD_ok' {ops : Array Oper} : ∀ (l : List Oper) (x y : DS), opsD P l x = some y → ∀ (k : St → V) (kp : SV → St → V), regN P cf ops l x.s k kp = k y.s := by
  intro l
  induction l with
  | nil => intro x y h; cases h; exact fun _ _ => rfl
  | cons o l ih =>
    intro x y h k kp
    simp only [opsD] at h
    split at h
    · rename_i z hz
      -- what the operation comes to does not hang on what was written before
      have hz1 := fun k kp => opD_eq (cf := cf) hz k kp
      have hcv : condV P cf.sh ops o x.s = none := by unfold condV; rw [(hz1 k kp).1]
      simp only [regN, hcv, guardX, (hz1 k kp).1]
      rw [(hz1 _ _).2]
      exact ih z y h k kp
    · cases h

/-- One state, and no other. -/
noncomputable def only (s : St) : St → V := by
  classical
  exact fun x => if x = s then .ok else .bad 0 []

theorem only_ok {s x : St} : only s x = .ok ↔ x = s := by
  unfold only
  constructor
  · intro h
    split at h
    · assumption
    · cases h
  · intro h; simp [h]

theorem runD_same {s0 : St} : ∀ (c : Code) (x y : DS), runD P c x = some y → Same s0 x.s x.T x.W → Same s0 y.s y.T y.W := by
  intro c
  induction c with
  | skip => intro x y h hs; cases h; exact hs
  | region id ops d =>
    intro x y h hs
    cases d with
    | true => cases h
    | false => exact (opsD_ok (cf := ⟨fun _ _ _ _ => .ok, fun _ _ => none, fun _ => none⟩) (ops := ops) ops.toList x y h hs).2
  | seq c1 c2 ih1 ih2 =>
    intro x y h hs
    simp only [runD] at h
    split at h
    · rename_i z hz; exact ih2 z y h (ih1 x z hz hs)
    · cases h
  | _ => intro x y h; cases h

/-- What code comes to that is gone through. -/
theorem runD_ok (hcf : CEOK P e F cf) : ∀ (c : Code) (x y : DS) (M : Lay) (a : Act) (w : World), runD P c x = some y → StOK e F M D x.s a w →
    c.wp P (fun en a' w' => en = .normal ∧ ∃ M', M.le M' ∧ StOK e F M' D y.s a' w') a w := by
  intro c
  induction c with
  | skip => intro x y M a w h ho; cases h; exact wp_skip ⟨rfl, M, M.le_refl, ho⟩
  | region id ops d =>
    intro x y M a w h ho
    cases d with
    | true => cases h
    | false =>
      simp only [runD] at h
      have g1 := (opsD_ok' (cf := cf) (ops := ops) ops.toList x y h)
      refine wp_region ?_
      have := regN_ok (P := P) (ops := ops) (Q := fun en a' w' => en = .normal ∧ ∃ M', M.le M' ∧ StOK e F M' D y.s a' w') hcf ops.toList 0 M x.s a w (only y.s) (fun _ _ => .bad 0 []) (fun j => by simp)
        (by rw [g1]; exact only_ok.2 rfl) ho (fun M' s' a' w' h1 h2 h3 => ⟨rfl, M', h1, by rw [← only_ok.1 h3]; exact h2⟩) (fun _ _ _ _ _ _ _ _ _ h => by cases h)
      rw [show List.range ops.size = List.range' 0 ops.size from List.range_eq_range' ..]
      simpa using this
  | seq c1 c2 ih1 ih2 =>
    intro x y M a w h ho
    simp only [runD] at h
    split at h
    · rename_i z hz
      refine wp_seq (wp_mono (ih1 x z M a w hz ho) ?_)
      rintro en a' w' ⟨rfl, M', hM, ho'⟩
      simp only [Exit.then]
      refine wp_mono (ih2 z y M' a' w' h ho') ?_
      rintro en a2 w2 ⟨rfl, M2, hM2, ho2⟩
      exact ⟨rfl, M2, Lay.le_trans hM hM2, ho2⟩
    · cases h
  | _ => intro x y M a w h; cases h

/-! ## Mixing -/

theorem sames_is {f : SV → SV → Bool} (ih : ∀ {a b : SV}, f a b = true → a = b) : ∀ {l r : List SV}, sames f l r = true → l = r := by
  intro l
  induction l with
  | nil => intro r h; cases r with
    | nil => rfl
    | cons y r => cases h
  | cons a l ihl => intro r h; cases r with
    | nil => cases h
    | cons b r =>
      simp only [sames, Bool.and_eq_true] at h
      rw [ih h.1, ihl h.2]

theorem same_is : ∀ (n : Nat) {a b : SV}, SV.same n a b = true → a = b := by
  intro n
  induction n with
  | zero => intro a b h; cases h
  | succ n ih =>
    intro a b h
    have hl := @sames_is (SV.same n) (fun {a b} => ih)
    unfold SV.same at h
    split at h
    · simp only [Bool.and_eq_true, decide_eq_true_eq] at h
      rw [h.1, T.same_eq h.2]
    · rw [T.same_eq h]
    · rw [seq_iff.1 h]
    · rfl
    · simp only [Bool.and_eq_true] at h
      rw [Nat.eq_of_beq_eq_true h.1, T.same_eq h.2]
    · rfl
    · simp only [Bool.and_eq_true] at h
      obtain ⟨⟨⟨⟨⟨e1, e2⟩, e3⟩, e4⟩, e5⟩, e6⟩ := h
      rw [Nat.eq_of_beq_eq_true e1, T.same_eq e2, T.same_eq e3, Nat.eq_of_beq_eq_true e4]
      split at e6
      · rfl
      · rw [T.same_eq e6]
      · cases e6
    · simp only [Bool.and_eq_true] at h
      obtain ⟨⟨⟨⟨⟨e1, e2⟩, e3⟩, e4⟩, e5⟩, e6⟩ := h
      rw [Nat.eq_of_beq_eq_true e1, T.same_eq e2, T.same_eq e3, T.same_eq e4, Nat.eq_of_beq_eq_true e5, T.same_eq e6]
    · rfl
    · rw [Nat.eq_of_beq_eq_true h]
    · simp only [Bool.and_eq_true] at h
      rw [Nat.eq_of_beq_eq_true h.1.1, hl h.1.2, hl h.2]
    · rfl
    · simp only [Bool.and_eq_true] at h
      rw [Nat.eq_of_beq_eq_true h.1, ih h.2]
    · rfl
    · rw [hl h]
    · rw [hl h]
    · cases h

theorem mix_ev {fs : Facts} (hf : fs.ok e) {c : T} {b : Bool} (hc : c.ev e = bint b) (p q : T) : (mix fs c p q).ev e = q.ev e + c.ev e * (p.ev e - q.ev e) := by
  unfold mix; rw [add_ev, mul_ev hf, sub_ev, bitT_ev hc]

/-- On which side one is. -/
def side (b : Bool) {α : Type} (x y : α) : α := bif b then x else y

theorem mix_side {fs : Facts} (hf : fs.ok e) {c p q : T} {b : Bool} (hc : c.ev e = bint b) : (mix fs c p q).ev e = side b (p.ev e) (q.ev e) := by
  rw [mix_ev hf hc, hc]
  cases b
  · simp [side, bint]
  · simp only [side, bint, cond_true]; omega

theorem mergeL_ok {f : SV → SV → Option SV} {b : Bool} (hf : ∀ x y v z, f x y = some v → VR e M (side b x y) z → VR e M v z) : ∀ (l r v : List SV) (zs : List Value), mergeL f l r = some v → VRs e M (side b l r) zs → VRs e M v zs := by
  intro l
  induction l with
  | nil =>
    intro r v zs h hz
    cases r with
    | nil => cases h; cases b <;> exact hz
    | cons y r => cases h
  | cons x l ih =>
    intro r v zs h hz
    cases r with
    | nil => cases h
    | cons y r =>
      simp only [mergeL] at h
      split at h
      · rename_i u hu
        split at h
        · rename_i us hus
          cases h
          have hz' : ∃ z zs', zs = z :: zs' ∧ VR e M (side b x y) z ∧ VRs e M (side b l r) zs' := by
            cases b <;> (simp only [side, cond_true, cond_false] at hz ⊢; cases hz with | cons _ z _ zs' h1 h2 => exact ⟨z, zs', rfl, h1, h2⟩)
          obtain ⟨z, zs', rfl, h1, h2⟩ := hz'
          exact .cons _ _ _ _ (hf x y u z hu h1) (ih r us zs' hus h2)
        · cases h
      · cases h

theorem mergeV_ok {fs : Facts} (hf : fs.ok e) {c : T} {b : Bool} (hc : c.ev e = bint b) : ∀ (n : Nat) (x y v : SV) (z : Value), mergeV fs c n x y = some v → VR e M (side b x y) z → VR e M v z := by
  intro n
  induction n with
  | zero => intro x y v z h; cases h
  | succ n ih =>
    intro x y v z h hz
    unfold mergeV at h
    split at h
    · rename_i k p k' q
      cases hfar : far p q with
      | true => rw [hfar] at h; cases h
      | false =>
      rw [hfar] at h; simp only [cond_false] at h
      split at h
      · rename_i hk
        subst hk
        cases h
        have hz' : z = .int k (side b (p.ev e) (q.ev e)) := by
          cases b <;> (simp only [side, cond_true, cond_false] at hz ⊢; cases hz; rfl)
        subst hz'
        rw [← mix_side hf hc]
        exact .int k _
      · cases h
    · rename_i p q
      cases h
      have hz' : ∃ d, z = .bool d ∧ side b (p.ev e) (q.ev e) = bint d := by
        cases b <;> (simp only [side, cond_true, cond_false] at hz ⊢; cases hz with | bool _ d hd => exact ⟨d, rfl, hd⟩)
      obtain ⟨d, rfl, hd⟩ := hz'
      exact .bool _ d (by rw [mix_side hf hc]; exact hd)
    · rename_i l r
      split at h
      · rename_i u hu
        cases h
        have hz' : ∃ zs : Array Value, z = .agg zs ∧ VRs e M (side b l r) zs.toList := by
          cases b <;> (simp only [side, cond_true, cond_false] at hz ⊢; cases hz with | agg _ zs hzs => exact ⟨zs, rfl, hzs⟩)
        obtain ⟨zs, rfl, hzs⟩ := hz'
        exact .agg _ _ (mergeL_ok (fun x y v z => ih x y v z) l r u _ hu hzs)
      · cases h
    · cases h; exact .junk z
    · cases h; exact .junk z
    · rename_i a a' _ _ _ _ _
      cases hs : SV.same 6 x y with
      | false => rw [hs] at h; cases h
      | true =>
        rw [hs] at h; cases h
        cases b with
        | true => exact hz
        | false => rw [same_is 6 hs]; exact hz

theorem mergeT_ok {fs : Facts} (hf : fs.ok e) {c : T} {b : Bool} (hc : c.ev e = bint b) {x y : Tr SV} {tmps : Array Value} (hz : TmOK e M (side b x y) tmps) :
    ∀ (l : List Nat) (m m' : Tr SV), mergeT fs c x y l m = some m' → (∀ t v, m.get t = some v → t ∉ l → ∃ z, tmps[t]? = some z ∧ VR e M v z) → (∀ t ∈ l, t < tmps.size) → (∀ t v, m'.get t = some v → ∃ z, tmps[t]? = some z ∧ VR e M v z) := by
  intro l
  induction l with
  | nil => intro m m' h hm _; cases h; intro t v hv; exact hm t v hv (by simp)
  | cons t l ih =>
    intro m m' h hm hlt
    simp only [mergeT] at h
    have hjunk : ∀ v', (∃ z, tmps[t]? = some z ∧ VR e M v' z) → ∀ u v, (m.set (some v') t).get u = some v → u ∉ l → ∃ z, tmps[u]? = some z ∧ VR e M v z := by
      intro v' hv' u v hu hul
      rw [Tr.get_set] at hu
      split at hu
      · rename_i he; subst he; cases hu; exact hv'
      · rename_i he
        exact hm u v hu (by simp only [List.mem_cons, not_or]; exact ⟨Ne.symm he, hul⟩)
    have hjk : ∃ z, tmps[t]? = some z ∧ VR e M .junk z := ⟨tmps[t]'(hlt t (by simp)), by simp [hlt t (by simp)], .junk _⟩
    have hlt' : ∀ t ∈ l, t < tmps.size := fun u hu => hlt u (by simp [hu])
    split at h
    · rename_i a b' ha hb
      split at h
      · rename_i v hv
        refine ih _ m' h (hjunk v ?_) hlt'
        have : ∃ u, (side b x y).get t = some u ∧ u = side b a b' := by cases b <;> simp [side, ha, hb]
        obtain ⟨u, hu1, rfl⟩ := this
        obtain ⟨z, g1, g2⟩ := hz t _ hu1
        exact ⟨z, g1, mergeV_ok hf hc 4 a b' v z hv g2⟩
      · cases h
    · exact ih _ m' h (hjunk .junk hjk) hlt'

/-- A row that says less. -/
def Less (e : Env) (x m : Tr SObj) : Prop := ∀ b o, m.get b = some o → x.get b = some o ∨ ∃ cs el l, o = .row l el true ∧ x.get b = some (.row cs el true) ∧ ∀ M pre, VRs e M cs pre → VRs e M l pre

theorem HeapOK.less {h m : Hs} (H : HeapOK e F M h w) (hl : Less e h.hp m.hp) (h1 : m.hn = h.hn) (h2 : m.fs.ok e) (h3 : m.n0 = h.n0) (h4 : m.ng = h.ng) : HeapOK e F M m w := by
  have back : ∀ b o, m.hp.get b = some o → ∃ o', h.hp.get b = some o' ∧ (o.live = true → o'.live = true) ∧ (o.wr = true → o'.wr = true) := by
    intro b o ho
    rcases hl b o ho with hx | ⟨cs, el, l, rfl, hx, _⟩
    · exact ⟨o, hx, id, id⟩
    · exact ⟨_, hx, fun _ => rfl, fun _ => rfl⟩
  refine ⟨?_, ?_, by rw [h1]; exact H.fresh, h2, H.old, by rw [h1]; exact H.n0, by rw [h3]; exact H.cn0, by rw [h4]; exact H.cng, H.ng, ?_, ?_, H.glob, H.frame⟩
  · intro i o hi hlv
    rcases hl i o hi with hx | ⟨cs, el, l, rfl, hx, hv⟩
    · exact H.live i o hx hlv
    · obtain ⟨r, n, x, g1, g2, g3⟩ := H.live i _ hx rfl
      refine ⟨r, n, x, g1, g2, ?_⟩
      cases g3 with
      | row _ _ _ c pre rest fr k1 k2 k3 => exact .row l el true c pre rest fr k1 (hv M pre k2) k3
  · intro i j oi oj ri rj ni nj hi hli hj hlj hwr
    obtain ⟨oi', a1, a2, a3⟩ := back i oi hi
    obtain ⟨oj', b1, b2, b3⟩ := back j oj hj
    exact H.inj i j oi' oj' ri rj ni nj a1 (a2 hli) b1 (b2 hlj) (hwr.imp a3 b3)
  · intro i o r n hi hli
    obtain ⟨o', a1, a2, _⟩ := back i o hi
    exact H.new i o' r n a1 (a2 hli)
  · intro i o hi hw
    obtain ⟨o', a1, _, a3⟩ := back i o hi
    exact H.wr i o' a1 (a3 hw)

theorem mergeW_ok {fs : Facts} (hf : fs.ok e) {c : T} {b : Bool} (hc : c.ev e = bint b) {x y : Tr SObj} : ∀ (l : List Nat) (m m' : Hs), mergeW fs c x y l m = some m' →
    (∀ i o, m.hp.get i = some o → i ∉ l → (side b x y).get i = some o ∨ ∃ cs el l, o = .row l el true ∧ (side b x y).get i = some (.row cs el true) ∧ ∀ M pre, VRs e M cs pre → VRs e M l pre) →
    Less e (side b x y) m'.hp ∧ m'.hn = m.hn ∧ m'.fs = m.fs ∧ m'.n0 = m.n0 ∧ m'.ng = m.ng := by
  intro l
  induction l with
  | nil => intro m m' h hm; cases h; exact ⟨fun i o hi => hm i o hi (by simp), rfl, rfl, rfl, rfl⟩
  | cons i l ih =>
    intro m m' h hm
    simp only [mergeW] at h
    split at h
    · rename_i cs el cs' el' h1 h2
      cases he : Nat.beq el el' with
      | false => rw [he] at h; cases h
      | true =>
        rw [he] at h; simp only [cond_true] at h
        have he' := Nat.eq_of_beq_eq_true he
        subst he'
        split at h
        · rename_i v hv
          obtain ⟨g1, g2, g3, g4, g5⟩ := ih _ m' h (by
            intro j o hj hjl
            simp only [Hs.upd] at hj
            rw [Tr.get_set] at hj
            split at hj
            · rename_i hij
              subst hij
              cases hj
              refine .inr ⟨side b cs cs', el, v, rfl, by cases b <;> simp [side, h1, h2], fun M pre hp => ?_⟩
              exact mergeL_ok (fun x y v z => mergeV_ok hf hc 4 x y v z) _ _ _ _ hv hp
            · rename_i hij
              exact hm j o hj (by simp only [List.mem_cons, not_or]; exact ⟨Ne.symm hij, hjl⟩))
          exact ⟨g1, g2, g3, g4, g5⟩
        · cases h
    · cases h

/-- Both sides of a fork are right. -/
theorem predX_ok (hcf : CEOK P e F cf) {c : T} {t f : Code} {s m : St} {a : Act} {b : Bool} (h : predX P c t f s = some m) (hs : StOK e F M D s a w) (hc : c.ev e = bint b) :
    (if b then t else f).wp P (fun en a' w' => en = .normal ∧ ∃ M', M.le M' ∧ StOK e F M' D m a' w') a w := by
  unfold predX at h
  split at h
  · rename_i ft ff hft hff
    split at h
    · rename_i x hx
      split at h
      · rename_i y hy
        split at h
        · rename_i tm htm
          split at h
          · rename_i hm hhm
            cases h
            have hfs := hs.heap.fact
            have sx := runD_same t _ x hx (s0 := { s with h := { s.h with fs := ft } }) ⟨fun _ _ => rfl, fun _ _ => rfl, rfl, rfl, rfl, rfl, rfl, rfl, fun _ h => by cases h⟩
            have sy := runD_same f _ y hy (s0 := { s with h := { s.h with fs := ff } }) ⟨fun _ _ => rfl, fun _ _ => rfl, rfl, rfl, rfl, rfl, rfl, rfl, fun _ h => by cases h⟩
            have key : ∀ (z : St), z = side b x.s y.s → ∀ (M' : Lay) (a' : Act) (w' : World), StOK e F M' D z a' w' → StOK e F M' D { s with tm := tm, h := hm } a' w' := by
              intro z hz M' a' w' ho
              have hnt : z.nt = s.nt := by subst hz; cases b; exact sy.nt; exact sx.nt
              have hds : z.ds = s.ds := by subst hz; cases b; exact sy.ds; exact sx.ds
              have htz : z.tm = side b x.s.tm y.s.tm := by subst hz; cases b <;> rfl
              have hhz : z.h.hp = side b x.s.h.hp y.s.h.hp := by subst hz; cases b <;> rfl
              have e1 : z.h.hn = s.h.hn := by subst hz; cases b; exact sy.hn; exact sx.hn
              have e2 : z.h.n0 = s.h.n0 := by subst hz; cases b; exact sy.n0; exact sx.n0
              have e3 : z.h.ng = s.h.ng := by subst hz; cases b; exact sy.ng; exact sx.ng
              have hunt : ∀ u, u ∉ x.T ++ y.T → (side b x.s.tm y.s.tm).get u = s.tm.get u := by
                intro u hu
                simp only [List.mem_append, not_or] at hu
                cases b
                · exact sy.tm u hu.2
                · exact sx.tm u hu.1
              have hunh : ∀ u, u ∉ x.W ++ y.W → (side b x.s.h.hp y.s.h.hp).get u = s.h.hp.get u := by
                intro u hu
                simp only [List.mem_append, not_or] at hu
                cases b
                · exact sy.hp u hu.2
                · exact sx.hp u hu.1
              obtain ⟨g1, g2, g3, g4, g5⟩ := mergeW_ok hfs hc _ _ _ hhm (fun i o hi hni => .inl (by rw [hunh i hni]; exact hi))
              have hsz : a'.tmps.size = s.nt := by rw [ho.nt, hnt]
              refine ⟨?_, hsz, ?_, by rw [← hds]; exact ho.defs⟩
              · refine mergeT_ok hfs hc (x := x.s.tm) (y := y.s.tm) (by rw [← htz]; exact ho.tm) _ _ _ htm (fun u v hu hnu => ?_) (fun u hu => ?_)
                · rw [← hunt u hnu, ← htz] at hu
                  exact ho.tm u v hu
                · rw [hsz]
                  rcases List.mem_append.1 hu with hu | hu
                  · exact sx.lt u hu
                  · exact sy.lt u hu
              · refine ho.heap.less (by rw [hhz]; exact g1) (by rw [g2, e1]) (by rw [g3]; exact hfs) (by rw [g4, e2]) (by rw [g5, e3])
            cases b with
            | true =>
              obtain ⟨fs', k1, k2⟩ := assume_ok hfs hc
              rw [hft] at k1; cases k1
              refine wp_mono (runD_ok hcf t _ x M a w hx (hs.facts k2)) ?_
              rintro en a' w' ⟨rfl, M', hM, ho⟩
              exact ⟨rfl, M', hM, key _ rfl M' a' w' ho⟩
            | false =>
              obtain ⟨fs', k1, k2⟩ := assume_ok hfs hc
              rw [hff] at k1; cases k1
              refine wp_mono (runD_ok hcf f _ y M a w hy (hs.facts k2)) ?_
              rintro en a' w' ⟨rfl, M', hM, ho⟩
              exact ⟨rfl, M', hM, key _ rfl M' a' w' ho⟩
          · cases h
        · cases h
      · cases h
    · cases h
  · cases h

end
end Go.Sx

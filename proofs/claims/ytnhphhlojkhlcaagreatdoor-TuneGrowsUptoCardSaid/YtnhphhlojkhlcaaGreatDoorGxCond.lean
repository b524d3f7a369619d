/- Tests on terms (0 or 1), and what is known once a test has been decided. -/
import Derived.Test.YtnhphhlojkhlcaaGreatDoorGxBits
namespace Go.Sx

def constOf : T → Int
  | .lit n => n
  | .term _ _ r => constOf r
  | _ => 0

theorem b1 (p : Prop) [Decidable p] (h : p) : (if p then (1 : Int) else 0) = 1 := if_pos h
theorem b0 (p : Prop) [Decidable p] (h : ¬p) : (if p then (1 : Int) else 0) = 0 := if_neg h

/-! ## Is it 0? -/

def eqAtom (p : T) : T := bif leadNeg p then T.atom (.op .eq0 (T.neg p) (.lit 0) 0) else T.atom (.op .eq0 p (.lit 0) 0)

theorem eqAtom_ev (e : Env) (p : T) : (eqAtom p).ev e = if p.ev e = 0 then 1 else 0 := by
  unfold eqAtom
  cases leadNeg p with
  | false => simp only [cond_false]; rw [atom_ev, ev_eq0]
  | true =>
    simp only [cond_true]; rw [atom_ev, ev_eq0, neg_ev]
    by_cases h : p.ev e = 0
    · rw [if_pos h, if_pos (by omega)]
    · rw [if_neg h, if_neg (by omega)]

def eqCore (fs : Facts) (p : T) : T := match rng fs p with
  | none => eqAtom p
  | some (x, y) =>
    if 0 < x ∨ y < 0 then .lit 0
    else if 0 ≤ x ∧ y ≤ 0 then .lit 1
    else if 0 ≤ x ∧ y ≤ 1 then T.not1 p
    else if -1 ≤ x ∧ y ≤ 0 then T.addc 1 p
    else if -1 ≤ x ∧ y ≤ 1 then T.not1 (T.mul fs p p)
    else eqAtom p

theorem eqCore_ev {e : Env} {fs : Facts} (hf : fs.ok e) (p : T) : (eqCore fs p).ev e = if p.ev e = 0 then 1 else 0 := by
  unfold eqCore
  split
  · exact eqAtom_ev e p
  · rename_i x y hr
    have h := rng_ok hf p x y hr
    split
    · rw [ev_lit, b0]; omega
    · split
      · rw [ev_lit, b1]; omega
      · split
        · rw [not1_ev]; split <;> omega
        · split
          · rw [addc_ev]; split <;> omega
          · split
            · rw [not1_ev, mul_ev hf]
              have : p.ev e = -1 ∨ p.ev e = 0 ∨ p.ev e = 1 := by omega
              rcases this with h1 | h1 | h1 <;> rw [h1] <;> decide
            · exact eqAtom_ev e p

def eq0B (fs : Facts) (p : T) : T :=
  match p with
  | .lit n => bif icmp n 0 == 1 then .lit 1 else .lit 0
  | p => match T.lead p 0 with
    | 0 => eqCore fs p
    | 1 => eqCore fs p
    | g => match splitK (g : Int) p with
      | (q, .lit m) => bif icmp m 0 == 1 then eqCore fs q else eqCore fs p
      | _ => eqCore fs p

theorem eq0B_ev {e : Env} {fs : Facts} (hf : fs.ok e) (p : T) : (eq0B fs p).ev e = if p.ev e = 0 then 1 else 0 := by
  unfold eq0B
  split
  · rename_i n
    cases h : (icmp n 0 == 1) with
    | true => have : n = 0 := icmp_eq (by simpa using h); subst this; rfl
    | false =>
      have hn : n ≠ 0 := by intro h0; subst h0; cases h
      show (0 : Int) = if n = 0 then 1 else 0
      rw [if_neg hn]
  · split
    · exact eqCore_ev hf p
    · exact eqCore_ev hf p
    · rename_i hg0 hg1
      generalize T.lead p 0 = g at *
      have hs := splitK_ev e (g : Int) p
      split
      · rename_i q m hq
        cases h : (icmp m 0 == 1) with
        | false => exact eqCore_ev hf p
        | true =>
          have hm : m = 0 := icmp_eq (by simpa using h)
          subst hm
          rw [hq] at hs
          simp only [cond_true, ev_lit, Int.add_zero] at hs ⊢
          rw [eqCore_ev hf, hs]
          have hgz : (g : Int) ≠ 0 := by
            intro hz
            have : g = 0 := by omega
            exact hg0 this
          by_cases h0 : q.ev e = 0
          · rw [if_pos h0, if_pos (by rw [h0]; simp)]
          · rw [if_neg h0, if_neg (by intro hz; rcases Int.mul_eq_zero.1 hz with h1 | h1; exact hgz h1; exact h0 h1)]
      · exact eqCore_ev hf p

/-! ## Is it at most 0? -/

/-- The power of two that is just not below a number, if it is near. -/
def nearPow (t : Nat) : Nat := match 2 ^ (Nat.log2 t + 1) with
  | K => bif pow2 t then t else bif Nat.ble (K - t) 2 then K else 0

def leAtom (fs : Facts) (p : T) : T :=
  match 1 - constOf p with
  | .ofNat (t + 1) => match nearPow (t + 1) with
    | 0 => T.atom (.op .le0 p (.lit 0) 0)
    | K + 1 => match T.addc (K : Int) p with
      | x => match rng fs x with
        | some (.ofNat _, y) => if y < 2 * ((K : Int) + 1) then T.not1 (T.div fs (K + 1) x) else T.atom (.op .le0 p (.lit 0) 0)
        | _ => T.atom (.op .le0 p (.lit 0) 0)
  | _ => T.atom (.op .le0 p (.lit 0) 0)

theorem leAtom_ev {e : Env} {fs : Facts} (hf : fs.ok e) (p : T) : (leAtom fs p).ev e = if p.ev e ≤ 0 then 1 else 0 := by
  have hb : (T.atom (.op .le0 p (.lit 0) 0)).ev e = if p.ev e ≤ 0 then 1 else 0 := by rw [atom_ev, ev_le0]
  unfold leAtom
  split
  · split
    · exact hb
    · rename_i K _
      simp only
      split
      · rename_i x0 y hr
        have h := rng_ok hf _ _ _ hr
        have hx0 : (0 : Int) ≤ Int.ofNat x0 := Int.natCast_nonneg x0
        split
        · rw [not1_ev, div_ev hf (by omega), addc_ev]
          rw [addc_ev] at h
          by_cases h1 : p.ev e ≤ 0
          · rw [if_pos h1, Int.ediv_eq_zero_of_lt (by omega) (by omega)]; rfl
          · rw [if_neg h1]
            have : ((K : Int) + p.ev e) / ((K + 1 : Nat) : Int) = 1 := by
              have : (K : Int) + p.ev e = (p.ev e - 1) + ((K + 1 : Nat) : Int) * 1 := by omega
              rw [this, Int.add_mul_ediv_left _ _ (by omega), Int.ediv_eq_zero_of_lt (by omega) (by omega)]; rfl
            omega
        · exact hb
      · exact hb
  · exact hb

def leCore (fs : Facts) (p : T) : T := match rng fs p with
  | none => bif leadNeg p then T.not1 (leAtom fs (T.not1 p)) else leAtom fs p
  | some (x, y) =>
    if y ≤ 0 then .lit 1
    else if 0 < x then .lit 0
    else if 0 ≤ x ∧ y ≤ 1 then T.not1 p
    else bif leadNeg p then T.not1 (leAtom fs (T.not1 p)) else leAtom fs p

theorem leFlip_ev {e : Env} {fs : Facts} (hf : fs.ok e) (p : T) : (bif leadNeg p then T.not1 (leAtom fs (T.not1 p)) else leAtom fs p).ev e = if p.ev e ≤ 0 then 1 else 0 := by
  cases leadNeg p with
  | false => exact leAtom_ev hf p
  | true =>
    simp only [cond_true]
    rw [not1_ev, leAtom_ev hf, not1_ev]
    split <;> split <;> omega

theorem leCore_ev {e : Env} {fs : Facts} (hf : fs.ok e) (p : T) : (leCore fs p).ev e = if p.ev e ≤ 0 then 1 else 0 := by
  unfold leCore
  split
  · exact leFlip_ev hf p
  · rename_i x y hr
    have h := rng_ok hf p x y hr
    split
    · rw [ev_lit, b1]; omega
    · split
      · rw [ev_lit, b0]; omega
      · split
        · rw [not1_ev]; split <;> omega
        · exact leFlip_ev hf p

def le0B (fs : Facts) (p : T) : T :=
  match p with
  | .lit n => if n ≤ 0 then .lit 1 else .lit 0
  | p => match T.lead p 0 with
    | 0 => leCore fs p
    | 1 => leCore fs p
    | g => match splitK (g : Int) p with
      | (q, .lit m) => bif icmp m 0 == 1 then leCore fs q else leCore fs (T.addc 1 q)
      | _ => leCore fs p

theorem le0B_ev {e : Env} {fs : Facts} (hf : fs.ok e) (p : T) : (le0B fs p).ev e = if p.ev e ≤ 0 then 1 else 0 := by
  unfold le0B
  split
  · rename_i n
    rw [ev_lit]
    split <;> rfl
  · split
    · exact leCore_ev hf p
    · exact leCore_ev hf p
    · rename_i hg0 hg1
      have hres : ∀ (n k : Int), 0 < k → splitK k (.lit n) = (.lit (n / k), .lit (n % k)) := fun _ _ _ => rfl
      generalize T.lead p 0 = g at *
      have hs := splitK_ev e (g : Int) p
      have hgz : 0 < (g : Int) := by
        have : g ≠ 0 := hg0
        omega
      split
      · rename_i q m hq
        have hm : 0 ≤ m ∧ m < (g : Int) ∨ m = 0 := by
          have : ∀ t : T, ∀ m, (splitK (g : Int) t).2 = .lit m → (0 ≤ m ∧ m < (g : Int)) ∨ m = 0 := by
            intro t
            induction t with
            | lit n => intro m h; simp only [splitK] at h; cases h; exact .inl ⟨Int.emod_nonneg _ (by omega), Int.emod_lt_of_pos _ hgz⟩
            | term c m' r ihm ihr =>
              intro m h
              simp only [splitK] at h
              cases hc : (icmp (c % (g : Int)) 0 == 1) with
              | true => rw [hc] at h; exact ihr m h
              | false => rw [hc] at h; simp only [cond_false] at h; split at h <;> cases h
            | one => intro m h; cases h
            | prod a m' => intro m h; cases h
            | var i lo hi => intro m h; cases h
            | op o a b k => intro m h; cases h
          exact this p m (by rw [hq])
        rw [hq] at hs
        simp only [ev_lit] at hs
        cases h : (icmp m 0 == 1) with
        | true =>
          have hm0 : m = 0 := icmp_eq (by simpa using h)
          simp only [cond_true]
          rw [leCore_ev hf, hs, hm0, Int.add_zero]
          by_cases h0 : q.ev e ≤ 0
          · rw [if_pos h0, if_pos (Int.mul_nonpos_of_nonneg_of_nonpos (by omega) h0)]
          · rw [if_neg h0, if_neg (by have := Int.mul_pos hgz (b := q.ev e) (by omega); omega)]
        | false =>
          have hm1 : m ≠ 0 := by intro hz; subst hz; cases h
          simp only [cond_false]
          rw [leCore_ev hf, addc_ev, hs]
          by_cases h0 : 1 + q.ev e ≤ 0
          · rw [if_pos h0, if_pos]
            have := Int.mul_le_mul_of_nonneg_left (a := q.ev e) (b := -1) (c := (g : Int)) (by omega) (by omega)
            omega
          · rw [if_neg h0, if_neg]
            have := Int.mul_nonneg (a := (g : Int)) (b := q.ev e) (by omega) (by omega)
            omega
      · exact leCore_ev hf p

/-! ## Both, by the bits in a sum -/

/-- A test of a sum, answered for each bit that stands in a product. -/
def byBits (f : Facts → T → T) : Nat → Facts → T → T
  | 0, fs, p => f fs p
  | n + 1, fs, p => match pickBit fs p p with
    | none => f fs p
    | some a => match assumeAtom a true fs, assumeAtom a false fs with
      | some f1, some f0 => (match byBits f n f1 (putA a true p), byBits f n f0 (putA a false p) with
        | x1, x0 => T.add x0 (T.mul fs (T.atom a) (T.sub x1 x0)))
      | some f1, none => byBits f n f1 (putA a true p)
      | none, some f0 => byBits f n f0 (putA a false p)
      | none, none => f fs p

theorem byBits_ev {e : Env} {f : Facts → T → T} {g : Int → Int} (hg : ∀ (fs : Facts), fs.ok e → ∀ p, (f fs p).ev e = g (p.ev e)) : ∀ (n : Nat) {fs : Facts}, fs.ok e → ∀ p, (byBits f n fs p).ev e = g (p.ev e) := by
  intro n
  induction n with
  | zero => intro fs hf p; exact hg fs hf p
  | succ n ih =>
    intro fs hf p
    simp only [byBits]
    split
    · exact hg fs hf p
    · rename_i a ha
      have h1 : ∀ f1, a.ev e = bint true → f1.ok e → (byBits f n f1 (putA a true p)).ev e = g (p.ev e) := fun f1 hv hf1 => by rw [ih hf1, putA_ev hv]
      have h0 : ∀ f0, a.ev e = bint false → f0.ok e → (byBits f n f0 (putA a false p)).ev e = g (p.ev e) := fun f0 hv hf0 => by rw [ih hf0, putA_ev hv]
      rcases isBit_ok hf (pickBit_ok ha) with hv | hv
      · obtain ⟨f0, g1, g2⟩ := assumeAtom_ok (b := false) hf hv
        rw [g1]
        split
        · rename_i e0
          cases e0
          rw [add_ev, mul_ev hf, sub_ev, h0 f0 hv g2, atom_ev, hv, Int.zero_mul, Int.add_zero]
        · rename_i e0; cases e0
        · rename_i e0; cases e0; exact h0 f0 hv g2
        · exact hg fs hf p
      · obtain ⟨f1, g1, g2⟩ := assumeAtom_ok (b := true) hf hv
        rw [g1]
        split
        · rename_i e1 _
          cases e1
          rw [add_ev, mul_ev hf, sub_ev, h1 f1 hv g2, atom_ev, hv, Int.one_mul]
          omega
        · rename_i e1 _; cases e1; exact h1 f1 hv g2
        · rename_i e1 _; cases e1
        · exact hg fs hf p

def T.eq0 (fs : Facts) (p : T) : T := byBits eq0B 0 fs p
theorem eq0_ev {e : Env} {fs : Facts} (hf : fs.ok e) (p : T) : (T.eq0 fs p).ev e = if p.ev e = 0 then 1 else 0 :=
  byBits_ev (g := fun x => if x = 0 then 1 else 0) (fun _ hf p => eq0B_ev hf p) 0 hf p
def T.le0 (fs : Facts) (p : T) : T := byBits le0B 0 fs p
theorem le0_ev {e : Env} {fs : Facts} (hf : fs.ok e) (p : T) : (T.le0 fs p).ev e = if p.ev e ≤ 0 then 1 else 0 :=
  byBits_ev (g := fun x => if x ≤ 0 then 1 else 0) (fun _ hf p => le0B_ev hf p) 0 hf p

/-! ## Tests that are decided -/

/-- A test (0 or 1) has been decided. none: that can't be. -/
def assume (c : T) (b : Bool) (fs : Facts) : Option Facts :=
  match c with
  | .term (.ofNat 1) (.prod a .one) (.lit (.ofNat 0)) => assumeAtom a b fs
  | .term (.negSucc 0) (.prod a .one) (.lit (.ofNat 1)) => assumeAtom a (!b) fs
  | .lit n => if n = bint b then some fs else none
  | c => addFact c (bint b) (bint b) fs

theorem assume_ok {e : Env} {fs : Facts} (hf : fs.ok e) {c : T} {b : Bool} (h : c.ev e = bint b) : ∃ fs', assume c b fs = some fs' ∧ fs'.ok e := by
  unfold assume
  split
  · rename_i a
    refine assumeAtom_ok hf ?_
    rw [← h]; simp [ev_term, ev_prod, ev_one, ev_lit]
  · rename_i a
    refine assumeAtom_ok hf ?_
    have : (T.term (Int.negSucc 0) (.prod a .one) (.lit (.ofNat 1))).ev e = -a.ev e + 1 := by
      simp [ev_term, ev_prod, ev_one, ev_lit]
    rw [this] at h
    cases b <;> simp [bint] at h ⊢ <;> omega
  · rename_i n
    rw [ev_lit] at h
    rw [if_pos h]
    exact ⟨_, rfl, hf⟩
  · exact addFact_ok hf (by omega) (by omega)

/-- Is a test decided already? -/
def known (fs : Facts) (c : T) : Option Bool :=
  match c with
  | .lit n => some (!(icmp n 0 == 1))
  | c => match look c fs with
    | some (x, y) => if 0 < x then some true else if y ≤ 0 then some false else none
    | none => match rng fs c with
      | some (x, y) => if 0 < x then some true else if y ≤ 0 then some false else none
      | none => none

theorem known_ne {e : Env} {fs : Facts} (hf : fs.ok e) {c : T} (h : known fs c = some true) : c.ev e ≠ 0 := by
  have key : ∀ x y : Int, x ≤ c.ev e → c.ev e ≤ y → (if 0 < x then some true else if y ≤ 0 then some false else none) = some true → c.ev e ≠ 0 := by
    intro x y h1 _ h3
    split at h3
    · omega
    · split at h3 <;> cases h3
  unfold known at h
  split at h
  · rename_i n
    rw [ev_lit]
    simp only [Option.some.injEq] at h
    intro hn
    subst hn
    cases h
  · split at h
    · rename_i x y hl
      exact key x y (look_ok hf hl).1 (look_ok hf hl).2 h
    · split at h
      · rename_i x y hr
        exact key x y (rng_ok hf _ _ _ hr).1 (rng_ok hf _ _ _ hr).2 h
      · cases h

theorem known_ok {e : Env} {fs : Facts} (hf : fs.ok e) {c : T} {b v : Bool} (hc : c.ev e = bint v) (h : known fs c = some b) : v = b := by
  have key : ∀ x y, x ≤ c.ev e → c.ev e ≤ y → (if 0 < x then some true else if y ≤ 0 then some false else none) = some b → v = b := by
    intro x y h1 h2 h3
    split at h3
    · cases h3
      cases v
      · simp [bint] at hc; omega
      · rfl
    · split at h3
      · cases h3
        cases v
        · rfl
        · simp [bint] at hc; omega
      · cases h3
  unfold known at h
  split at h
  · rename_i n
    rw [ev_lit] at hc
    simp only [Option.some.injEq] at h
    subst hc
    cases v
    · have : (icmp (bint false) 0 == 1) = true := rfl
      rw [this] at h; simpa using h
    · have : (icmp (bint true) 0 == 1) = false := rfl
      rw [this] at h; simpa using h
  · split at h
    · rename_i x y hl
      exact key x y (look_ok hf hl).1 (look_ok hf hl).2 h
    · split at h
      · rename_i x y hr
        exact key x y (rng_ok hf _ _ _ hr).1 (rng_ok hf _ _ _ hr).2 h
      · cases h

/-- The number that a term is, if what is known tells it. -/
def litOf (fs : Facts) (t : T) : Option Int :=
  match t with
  | .lit n => some n
  | t => match rng fs t with
    | some (x, y) => bif icmp x y == 1 then some x else none
    | none => none

theorem litOf_ok {e : Env} {fs : Facts} (hf : fs.ok e) {t : T} {n : Int} (h : litOf fs t = some n) : t.ev e = n := by
  unfold litOf at h
  split at h
  · cases h; rfl
  · split at h
    · rename_i x y hr
      have h1 := rng_ok hf _ _ _ hr
      cases hc : (icmp x y == 1) with
      | true =>
        rw [hc] at h; simp only [cond_true, Option.some.injEq] at h
        have : x = y := icmp_eq (by simpa using hc)
        omega
      | false => rw [hc] at h; cases h
    · cases h

end Go.Sx

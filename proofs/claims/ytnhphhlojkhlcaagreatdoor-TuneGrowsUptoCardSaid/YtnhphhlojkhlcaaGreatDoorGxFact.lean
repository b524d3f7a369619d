/- What is known once an atom has been decided; sums by a bit in them. -/
import Derived.Test.YtnhphhlojkhlcaaGreatDoorGxRing
namespace Go.Sx

/-! ## Numbers -/

theorem toNat_div (a : Int) (k : Nat) : (a / (k : Int)).toNat = a.toNat / k := by
  cases a with
  | ofNat n => rfl
  | negSucc n =>
    show (Int.negSucc n / (k : Int)).toNat = 0 / k
    rw [Nat.zero_div]
    rcases Nat.eq_zero_or_pos k with h | h
    · subst h; simp
    · have : Int.negSucc n / (k : Int) < 0 := Int.ediv_neg_of_neg_of_pos (by omega) (by omega)
      omega

theorem div_div (a : Int) (j k : Nat) : a / (j : Int) / (k : Int) = a / ((j * k : Nat) : Int) := by
  rw [Int.ediv_ediv, if_neg (by omega)]; simp

theorem mod_div (a : Int) (k t : Nat) (hk : 0 < k) (ht : 0 < t) : a % ((k * t : Nat) : Int) / (k : Int) = a / (k : Int) % (t : Int) := by
  have hkt : 0 < k * t := Nat.mul_pos hk ht
  have h0 := Int.emod_nonneg a (b := ((k * t : Nat) : Int)) (by omega)
  have h1 := Int.emod_lt_of_pos a (b := ((k * t : Nat) : Int)) (by omega)
  have h2 := Int.emod_add_mul_ediv a ((k * t : Nat) : Int)
  generalize a % ((k * t : Nat) : Int) = x at *
  generalize a / ((k * t : Nat) : Int) = y at *
  have h3 : a / (k : Int) = x / (k : Int) + (t : Int) * y := by
    rw [← h2]
    have : ((k * t : Nat) : Int) * y = (k : Int) * ((t : Int) * y) := by rw [Int.natCast_mul, Int.mul_assoc]
    rw [this, Int.add_mul_ediv_left _ _ (by omega)]
  rw [h3, Int.add_mul_emod_self_left, Int.emod_eq_of_lt (Int.ediv_nonneg h0 (by omega))]
  refine Int.ediv_lt_of_lt_mul (by omega) ?_
  rw [Int.natCast_mul, Int.mul_comm] at h1
  exact h1

theorem xor_and (x : Nat) : ∀ y : Nat, x ^^^ y = x + y - 2 * (x &&& y) ∧ 2 * (x &&& y) ≤ x + y := by
  induction x using Nat.strongRecOn with
  | _ x ih =>
    intro y
    by_cases hx : x = 0
    · subst hx; simp
    · have h := ih (x / 2) (by omega) (y / 2)
      have a1 := @Nat.and_div_two x y
      have b1 := @Nat.xor_div_two x y
      have a2 := @Nat.and_mod_two_eq_one x y
      have b2 := @Nat.xor_mod_two_eq_one x y
      rw [← a1, ← b1] at h
      generalize x &&& y = u at *
      generalize x ^^^ y = v at *
      by_cases p : x % 2 = 1 <;> by_cases q : y % 2 = 1 <;> simp only [p, q, iff_true, iff_false, and_self, and_true, and_false, not_true, not_false_eq_true] at a2 b2 <;> omega

theorem and_step (x m w : Nat) (h : m % 2 ^ w = 2 ^ w - 1) : x &&& m = x % 2 ^ w + 2 ^ w * ((x / 2 ^ w) &&& (m / 2 ^ w)) := by
  have h1 := @Nat.and_div_two_pow x m w
  have h2 := @Nat.and_mod_two_pow x m w
  rw [h, Nat.and_two_pow_sub_one_eq_mod, Nat.mod_mod] at h2
  rw [← h1, ← h2]
  exact (Nat.mod_add_div _ _).symm

theorem and_skip (x m w : Nat) (h : m % 2 ^ w = 0) : x &&& m = 2 ^ w * ((x / 2 ^ w) &&& (m / 2 ^ w)) := by
  have h1 := @Nat.and_div_two_pow x m w
  have h2 := @Nat.and_mod_two_pow x m w
  rw [h, Nat.and_zero] at h2
  rw [← h1]
  have := Nat.mod_add_div (x &&& m) (2 ^ w)
  omega

theorem and_apart (x y s : Nat) (hx : x < 2 ^ s) (hy : y % 2 ^ s = 0) : x &&& y = 0 := by
  have h1 := @Nat.and_div_two_pow x y s
  have h2 := @Nat.and_mod_two_pow x y s
  rw [hy, Nat.and_zero] at h2
  rw [Nat.div_eq_of_lt hx, Nat.zero_and] at h1
  have := Nat.mod_add_div (x &&& y) (2 ^ s)
  rw [h1, h2] at this
  omega


/-! ## What is known behind a test -/

/-- t lies between lo and hi: known from here on. none: that can't be. -/
def addFact (t : T) (lo hi : Int) (fs : Facts) : Option Facts :=
  match rng fs t with
  | none => some ((t, lo, hi) :: fs)
  | some (x, y) => if imax x lo ≤ imin y hi then some ((t, imax x lo, imin y hi) :: fs) else none

theorem addFact_ok {e : Env} {fs : Facts} (hf : fs.ok e) {t : T} {lo hi : Int} (h1 : lo ≤ t.ev e) (h2 : t.ev e ≤ hi) : ∃ fs', addFact t lo hi fs = some fs' ∧ fs'.ok e := by
  unfold addFact
  split
  · refine ⟨_, rfl, ?_⟩
    intro x hx
    cases hx with
    | head => exact ⟨h1, h2⟩
    | tail _ hx => exact hf x hx
  · rename_i x y hr
    have h := rng_ok hf t x y hr
    have hlo : imax x lo ≤ t.ev e := by unfold imax; split <;> omega
    have hhi : t.ev e ≤ imin y hi := by unfold imin; split <;> omega
    rw [if_pos (by omega)]
    refine ⟨_, rfl, ?_⟩
    intro z hz
    cases hz with
    | head => exact ⟨hlo, hhi⟩
    | tail _ hz => exact hf z hz

/-- t is at least lo. -/
def addLow (t : T) (lo : Int) (fs : Facts) : Option Facts :=
  match rng fs t with
  | none => some fs
  | some (_, y) => addFact t lo y fs
def addHigh (t : T) (hi : Int) (fs : Facts) : Option Facts :=
  match rng fs t with
  | none => some fs
  | some (x, _) => addFact t x hi fs

theorem addLow_ok {e : Env} {fs : Facts} (hf : fs.ok e) {t : T} {lo : Int} (h1 : lo ≤ t.ev e) : ∃ fs', addLow t lo fs = some fs' ∧ fs'.ok e := by
  unfold addLow
  split
  · exact ⟨_, rfl, hf⟩
  · rename_i x y hr; exact addFact_ok hf h1 (rng_ok hf t x y hr).2
theorem addHigh_ok {e : Env} {fs : Facts} (hf : fs.ok e) {t : T} {hi : Int} (h1 : t.ev e ≤ hi) : ∃ fs', addHigh t hi fs = some fs' ∧ fs'.ok e := by
  unfold addHigh
  split
  · exact ⟨_, rfl, hf⟩
  · rename_i x y hr; exact addFact_ok hf (rng_ok hf t x y hr).1 h1

/-- t is not n: where n is an end of t's range it goes. -/
def addNot (t : T) (n : Int) (fs : Facts) : Option Facts :=
  match rng fs t with
  | none => some fs
  | some (x, y) => if x = n then addFact t (n + 1) y fs else if y = n then addFact t x (n - 1) fs else some fs

theorem addNot_ok {e : Env} {fs : Facts} (hf : fs.ok e) {t : T} {n : Int} (h1 : t.ev e ≠ n) : ∃ fs', addNot t n fs = some fs' ∧ fs'.ok e := by
  unfold addNot
  split
  · exact ⟨_, rfl, hf⟩
  · rename_i x y hr
    have h := rng_ok hf t x y hr
    split
    · exact addFact_ok hf (by omega) h.2
    · split
      · exact addFact_ok hf h.1 (by omega)
      · exact ⟨_, rfl, hf⟩

def bint (b : Bool) : Int := bif b then 1 else 0

/-- What an atom's being 1 or 0 says. -/
def learn (a : T) (b : Bool) (fs : Facts) : Option Facts :=
  match a, b with
  | .op .eq0 (.term (.ofNat 1) (.prod x .one) (.lit n)) _ _, true => addFact x (-n) (-n) fs
  | .op .eq0 (.term (.ofNat 1) (.prod x .one) (.lit n)) _ _, false => addNot x (-n) fs
  | .op .le0 (.term (.ofNat 1) (.prod x .one) (.lit n)) _ _, true => addHigh x (-n) fs
  | .op .le0 (.term (.ofNat 1) (.prod x .one) (.lit n)) _ _, false => addLow x (1 - n) fs
  | .op .div (.term (.ofNat 1) (.prod x .one) (.lit n)) _ (k + 1), b => addFact x (((k + 1 : Nat) : Int) * bint b - n) (((k + 1 : Nat) : Int) * bint b + (k : Int) - n) fs
  | _, _ => some fs

theorem learn_ok {e : Env} {fs : Facts} (hf : fs.ok e) {a : T} {b : Bool} (h : a.ev e = if b then 1 else 0) : ∃ fs', learn a b fs = some fs' ∧ fs'.ok e := by
  have hx : ∀ (x : T) (n : Int), (T.term (.ofNat 1) (.prod x .one) (.lit n)).ev e = x.ev e + n := by
    intro x n; simp [ev_term, ev_prod, ev_one, ev_lit]
  unfold learn
  split
  · rename_i x n _ _
    rw [ev_eq0, hx] at h
    split at h
    · exact addFact_ok hf (by omega) (by omega)
    · simp at h
  · rename_i x n _ _
    rw [ev_eq0, hx] at h
    split at h
    · simp at h
    · exact addNot_ok hf (by omega)
  · rename_i x n _ _
    rw [ev_le0, hx] at h
    split at h
    · exact addHigh_ok hf (by omega)
    · simp at h
  · rename_i x n _ _
    rw [ev_le0, hx] at h
    split at h
    · simp at h
    · exact addLow_ok hf (by omega)
  · rename_i x n _ k
    rw [ev_div, hx] at h
    have h1 := Int.emod_add_mul_ediv (x.ev e + n) ((k + 1 : Nat) : Int)
    have h2 := Int.emod_nonneg (x.ev e + n) (b := ((k + 1 : Nat) : Int)) (by omega)
    have h3 := Int.emod_lt_of_pos (x.ev e + n) (b := ((k + 1 : Nat) : Int)) (by omega)
    have hb : bint b = if b then 1 else 0 := by cases b <;> rfl
    rw [h, ← hb] at h1
    exact addFact_ok hf (by omega) (by omega)
  · exact ⟨_, rfl, hf⟩


def assumeAtom (a : T) (b : Bool) (fs : Facts) : Option Facts :=
  match addFact a (bint b) (bint b) fs with
  | none => none
  | some fs => learn a b fs

theorem assumeAtom_ok {e : Env} {fs : Facts} (hf : fs.ok e) {a : T} {b : Bool} (h : a.ev e = bint b) : ∃ fs', assumeAtom a b fs = some fs' ∧ fs'.ok e := by
  obtain ⟨fs1, h1, hf1⟩ := addFact_ok (t := a) (lo := bint b) (hi := bint b) hf (by omega) (by omega)
  unfold assumeAtom
  rw [h1]
  exact learn_ok hf1 (by rw [h]; cases b <;> rfl)

/-! ## A bit in a product -/

/-- A bit among the factors of a product. -/
def bitIn (fs : Facts) : T → Option T
  | .prod a m => bif isBit fs a then some a else bitIn fs m
  | _ => none

/-- Does an atom stand in a product? -/
def inM (a : T) : T → Bool
  | .prod b m => T.same a b || inM a m
  | _ => false

/-- ... in a sum? -/
def inT (a : T) : T → Bool
  | .term _ m r => inM a m || inT a r
  | _ => false

/-- A bit that stands in a product of several factors, and in what is left too. -/
def pickBit (fs : Facts) (r : T) : T → Option T
  | .term _ m t => match m with
    | .prod _ (.prod _ _) => (match bitIn fs m with
      | some a => bif inT a r then some a else pickBit fs r t
      | none => pickBit fs r t)
    | _ => pickBit fs r t
  | _ => none

theorem bitIn_ok {fs : Facts} : ∀ {m a : T}, bitIn fs m = some a → isBit fs a = true := by
  intro m
  induction m with
  | prod b m ihb ihm =>
    intro a h
    simp only [bitIn] at h
    cases hb : isBit fs b with
    | true => rw [hb] at h; cases h; exact hb
    | false => rw [hb] at h; exact ihm h
  | _ => intro a h; cases h

theorem pickBit_ok {fs : Facts} {r : T} : ∀ {t a : T}, pickBit fs r t = some a → isBit fs a = true := by
  intro t
  induction t with
  | term c m t ihm iht =>
    intro a h
    simp only [pickBit] at h
    split at h
    · split at h
      · rename_i b hb
        cases hi : inT b r with
        | true => rw [hi] at h; cases h; exact bitIn_ok hb
        | false => rw [hi] at h; exact iht h
      · exact iht h
    · exact iht h
  | _ => intro a h; cases h

/-- A product without an atom that is 1. -/
def dropM (a : T) : T → T
  | .prod b m => bif T.same a b then dropM a m else .prod b (dropM a m)
  | m => m

/-- A sum where an atom is 1 (or 0). -/
def putA (a : T) (one : Bool) : T → T
  | .term c m r => bif inM a m then (bif one then (match dropM a m with
      | .one => T.addc c (putA a one r)
      | m => addTerm c m (putA a one r)) else putA a one r) else addTerm c m (putA a one r)
  | t => t

theorem dropM_ev {e : Env} {a : T} (h : a.ev e = 1) : ∀ m, (dropM a m).ev e = m.ev e := by
  intro m
  induction m with
  | prod b m ihb ihm =>
    simp only [dropM]
    cases hs : T.same a b with
    | true => simp only [cond_true]; rw [ihm, ev_prod, ← T.same_eq hs, h, Int.one_mul]
    | false => simp only [cond_false]; rw [ev_prod, ev_prod, ihm]
  | _ => rfl

theorem inM_ev {e : Env} {a : T} (h : a.ev e = 0) : ∀ m, inM a m = true → m.ev e = 0 := by
  intro m
  induction m with
  | prod b m ihb ihm =>
    intro hi
    simp only [inM, Bool.or_eq_true] at hi
    rw [ev_prod]
    rcases hi with hi | hi
    · rw [← T.same_eq hi, h, Int.zero_mul]
    · rw [ihm hi, Int.mul_zero]
  | _ => intro hi; cases hi

theorem putA_ev {e : Env} {a : T} {one : Bool} (h : a.ev e = bint one) : ∀ t, (putA a one t).ev e = t.ev e := by
  intro t
  induction t with
  | term c m r ihm ihr =>
    simp only [putA]
    cases hi : inM a m with
    | false => simp only [cond_false]; rw [addTerm_ev, ihr, ev_term]
    | true =>
      simp only [cond_true]
      cases one with
      | false => simp only [cond_false]; rw [ihr, ev_term, inM_ev h m hi]; simp
      | true =>
        simp only [cond_true]
        have hd := dropM_ev h m
        split
        · rename_i hm
          rw [hm] at hd
          rw [addc_ev, ihr, ev_term, ← hd, ev_one]; omega
        · rw [addTerm_ev, ihr, ev_term, hd]
  | _ => rfl

/-! ## Sums that are bitwise -/

/-- A sum that is bitwise: or, exclusive or, less what is common. -/
inductive BF where
  | or (a b : T) | xor (a b : T) | less (a b : T)

def BF.sem (e : Env) : BF → Int
  | .or a b => (((a.ev e).toNat ||| (b.ev e).toNat : Nat) : Int)
  | .xor a b => (((a.ev e).toNat ^^^ (b.ev e).toNat : Nat) : Int)
  | .less a b => (((a.ev e).toNat - ((a.ev e).toNat &&& (b.ev e).toNat) : Nat) : Int)

def bform (p : T) : T → Option BF
  | .term c (.prod (.op .band a b k) .one) r => match T.atom (.op .band a b k) with
    | x => match c with
      | .negSucc 0 => bif T.same p (T.sub (T.add a b) x) then some (.or a b) else bif T.same p (T.sub a x) then some (.less a b) else bif T.same p (T.sub b x) then some (.less b a) else bform p r
      | .negSucc 1 => bif T.same p (T.sub (T.add a b) (T.scale 2 x)) then some (.xor a b) else bform p r
      | _ => bform p r
  | .term _ _ r => bform p r
  | _ => none

def BF.args : BF → T × T
  | .or a b => (a, b)
  | .xor a b => (a, b)
  | .less a b => (a, b)

theorem nat_or (a b : Nat) : a ||| b = a + b - (a &&& b) ∧ (a &&& b) ≤ a + b := by
  have h1 : a ||| b = (a ^^^ b) ||| (a &&& b) := by
    refine Nat.eq_of_testBit_eq (fun i => ?_)
    simp only [Nat.testBit_or, Nat.testBit_xor, Nat.testBit_and]
    cases a.testBit i <;> cases b.testBit i <;> rfl
  have h2 : (a ^^^ b) &&& (a &&& b) = 0 := by
    refine Nat.eq_of_testBit_eq (fun i => ?_)
    simp only [Nat.testBit_xor, Nat.testBit_and, Nat.zero_testBit]
    cases a.testBit i <;> cases b.testBit i <;> rfl
  have h3 : (a ||| b) = (a ^^^ b) + (a &&& b) := by
    have hx := xor_and (a ^^^ b) (a &&& b)
    rw [h2] at hx
    have h4 : (a ^^^ b) ^^^ (a &&& b) = a ||| b := by
      refine Nat.eq_of_testBit_eq (fun i => ?_)
      simp only [Nat.testBit_or, Nat.testBit_xor, Nat.testBit_and]
      cases a.testBit i <;> cases b.testBit i <;> rfl
    rw [h4] at hx; omega
  have h5 := xor_and a b
  have h6 : a &&& b ≤ a := Nat.and_le_left
  omega

theorem bform_ok {e : Env} {p : T} : ∀ {t : T} {f : BF}, bform p t = some f → 0 ≤ f.args.1.ev e → 0 ≤ f.args.2.ev e → p.ev e = f.sem e := by
  intro t
  induction t with
  | term c m r ihm ihr =>
    intro f h ha hb
    unfold bform at h
    split at h
    · rename_i c' a b k r' heq
      cases heq
      have hx : (T.atom (.op .band a b k)).ev e = (((a.ev e).toNat &&& (b.ev e).toNat : Nat) : Int) := by rw [atom_ev, ev_band]
      simp only at h
      split at h
      · cases h1 : T.same p (T.sub (T.add a b) (T.atom (.op .band a b k))) with
        | true =>
          rw [h1] at h; cases h
          simp only [BF.args] at ha hb
          rw [T.same_eq h1, sub_ev, add_ev, hx, BF.sem]
          have := nat_or (a.ev e).toNat (b.ev e).toNat
          omega
        | false =>
          rw [h1] at h; simp only [cond_false] at h
          cases h2 : T.same p (T.sub a (T.atom (.op .band a b k))) with
          | true =>
            rw [h2] at h; cases h
            simp only [BF.args] at ha hb
            rw [T.same_eq h2, sub_ev, hx, BF.sem]
            have : (a.ev e).toNat &&& (b.ev e).toNat ≤ (a.ev e).toNat := Nat.and_le_left
            omega
          | false =>
            rw [h2] at h; simp only [cond_false] at h
            cases h3 : T.same p (T.sub b (T.atom (.op .band a b k))) with
            | true =>
              rw [h3] at h; cases h
              simp only [BF.args] at ha hb
              rw [T.same_eq h3, sub_ev, hx, BF.sem, Nat.and_comm]
              have : (b.ev e).toNat &&& (a.ev e).toNat ≤ (b.ev e).toNat := Nat.and_le_left
              omega
            | false => rw [h3] at h; exact ihr h ha hb
      · cases h1 : T.same p (T.sub (T.add a b) (T.scale 2 (T.atom (.op .band a b k)))) with
        | true =>
          rw [h1] at h; cases h
          simp only [BF.args] at ha hb
          rw [T.same_eq h1, sub_ev, add_ev, scale_ev, hx, BF.sem]
          have := xor_and (a.ev e).toNat (b.ev e).toNat
          omega
        | false => rw [h1] at h; exact ihr h ha hb
      · exact ihr h ha hb
    · rename_i heq; cases heq; exact ihr h ha hb
    · cases h
  | _ => intro f h _ _; cases h

/-! ## Wider looks at a range -/

def hull : Option (Int × Int) → Option (Int × Int) → Option (Int × Int)
  | some (a, b), some (c, d) => some (imin a c, imax b d)
  | _, _ => none

/-- Where a sum lies: by the bits in it, or as a bitwise sum. -/
def rng2 : Nat → Facts → T → Option (Int × Int)
  | 0, fs, p => rng fs p
  | n + 1, fs, p => match pickBit fs p p with
    | some a => (match assumeAtom a true fs, assumeAtom a false fs with
      | some f1, some f0 => hull (rng2 n f1 (putA a true p)) (rng2 n f0 (putA a false p))
      | some f1, none => rng2 n f1 (putA a true p)
      | none, some f0 => rng2 n f0 (putA a false p)
      | none, none => none)
    | none => match bform p p with
      | some f => (match rng fs f.args.1, rng fs f.args.2 with
        | some (.ofNat _, .ofNat y), some (.ofNat _, .ofNat v) => some (0, ((match f with
          | .less _ _ => y
          | _ => ones (max y v) : Nat) : Int))
        | _, _ => none)
      | none => rng fs p

theorem hull_ok {n : Int} {u v : Option (Int × Int)} (h : InR n u ∨ InR n v) : InR n (hull u v) := by
  intro x y hxy
  unfold hull at hxy
  split at hxy
  · rename_i a b c d
    cases hxy
    unfold imin imax
    rcases h with h | h
    · have := h a b rfl
      split <;> split <;> omega
    · have := h c d rfl
      split <;> split <;> omega
  · cases hxy

theorem or_le_ones {a b y v : Nat} (ha : a ≤ y) (hb : b ≤ v) : a ||| b ≤ ones (max y v) := by
  have h := lt_ones (max y v)
  have : a ||| b < 2 ^ (Nat.log2 (max y v) + 1) := Nat.or_lt_two_pow (by omega) (by omega)
  unfold ones; omega

theorem rng2_ok {e : Env} : ∀ (n : Nat) {fs : Facts}, fs.ok e → ∀ p : T, InR (p.ev e) (rng2 n fs p) := by
  intro n
  induction n with
  | zero => intro fs hf p; exact rng_ok hf p
  | succ n ih =>
    intro fs hf p
    simp only [rng2]
    split
    · rename_i a ha
      have h1 : ∀ f1, a.ev e = bint true → f1.ok e → InR (p.ev e) (rng2 n f1 (putA a true p)) := fun f1 hv hf1 => by have := ih hf1 (putA a true p); rw [putA_ev hv] at this; exact this
      have h0 : ∀ f0, a.ev e = bint false → f0.ok e → InR (p.ev e) (rng2 n f0 (putA a false p)) := fun f0 hv hf0 => by have := ih hf0 (putA a false p); rw [putA_ev hv] at this; exact this
      rcases isBit_ok hf (pickBit_ok ha) with hv | hv
      · obtain ⟨f0, g1, g2⟩ := assumeAtom_ok (b := false) hf hv
        rw [g1]
        split
        · rename_i e0; cases e0; exact hull_ok (.inr (h0 f0 hv g2))
        · rename_i e0; cases e0
        · rename_i e0; cases e0; exact h0 f0 hv g2
        · rename_i e0; cases e0
      · obtain ⟨f1, g1, g2⟩ := assumeAtom_ok (b := true) hf hv
        rw [g1]
        split
        · rename_i e1 _; cases e1; exact hull_ok (.inl (h1 f1 hv g2))
        · rename_i e1 _; cases e1; exact h1 f1 hv g2
        · rename_i e1 _; cases e1
        · rename_i e1 _; cases e1
    · split
      · rename_i f hb
        split
        · rename_i x y u v e1 e2
          intro lo hi h
          cases h
          have r1 := rng_ok hf _ _ _ e1
          have r2 := rng_ok hf _ _ _ e2
          have hx : (0 : Int) ≤ Int.ofNat x := Int.natCast_nonneg x
          have hu : (0 : Int) ≤ Int.ofNat u := Int.natCast_nonneg u
          have hy : f.args.1.ev e ≤ (y : Int) := r1.2
          have hv : f.args.2.ev e ≤ (v : Int) := r2.2
          rw [bform_ok hb (by omega) (by omega)]
          cases f with
          | or a b =>
            simp only [BF.args] at *
            simp only [BF.sem]
            have := or_le_ones (a := (a.ev e).toNat) (b := (b.ev e).toNat) (y := y) (v := v) (by omega) (by omega)
            omega
          | xor a b =>
            simp only [BF.args] at *
            simp only [BF.sem]
            have := xor_le_ones (a := (a.ev e).toNat) (b := (b.ev e).toNat) (y := y) (v := v) (by omega) (by omega)
            omega
          | less a b =>
            simp only [BF.args] at *
            simp only [BF.sem]
            omega
        · intro lo hi h; cases h
      · exact rng_ok hf p

def inRange (lo hi : Int) : Option (Int × Int) → Bool
  | some (x, y) => decide (lo ≤ x) && decide (y ≤ hi)
  | none => false

/-- Does a sum lie between two numbers? -/
def within (fs : Facts) (lo hi : Int) (p : T) : Bool := inRange lo hi (rng fs p) || inRange lo hi (rng2 3 fs p)

theorem within_ok {e : Env} {fs : Facts} (hf : fs.ok e) {lo hi : Int} {p : T} (h : within fs lo hi p = true) : lo ≤ p.ev e ∧ p.ev e ≤ hi := by
  have key : ∀ r, InR (p.ev e) r → inRange lo hi r = true → lo ≤ p.ev e ∧ p.ev e ≤ hi := by
    intro r hr hi
    unfold inRange at hi
    split at hi
    · rename_i x y
      have := hr x y rfl
      simp only [Bool.and_eq_true, decide_eq_true_eq] at hi
      omega
    · cases hi
  unfold within at h
  simp only [Bool.or_eq_true] at h
  rcases h with h | h
  · exact key _ (rng_ok hf p) h
  · exact key _ (rng2_ok 3 hf p) h

def nonneg (fs : Facts) (t : T) : Bool := match rng fs t with
  | some (.ofNat _, _) => true
  | _ => match rng2 3 fs t with
    | some (.ofNat _, _) => true
    | _ => false

theorem nonneg_ok {e : Env} {fs : Facts} (hf : fs.ok e) {t : T} (h : nonneg fs t = true) : 0 ≤ t.ev e := by
  unfold nonneg at h
  split at h
  · rename_i x y hr
    have := rng_ok hf t _ _ hr
    have hx : (0 : Int) ≤ Int.ofNat x := Int.natCast_nonneg x
    omega
  · split at h
    · rename_i x y hr
      have := rng2_ok 3 hf t _ _ hr
      have hx : (0 : Int) ≤ Int.ofNat x := Int.natCast_nonneg x
      omega
    · cases h

/-- The greatest factor that all of a sum's products have. -/
def T.lead : T → Nat → Nat
  | .term c _ r, g => T.lead r (Nat.gcd c.natAbs g)
  | _, g => g

end Go.Sx

/- Sums and products of terms, and their ranges under what is known. -/
import Derived.Test.YtnhphhlojkhlcaaGreatDoorGxTerm
namespace Go.Sx

/-! ## What is known -/

/-- Of some terms: between which numbers they lie. -/
abbrev Facts := List (T × Int × Int)
def Facts.ok (e : Env) (fs : Facts) : Prop := ∀ x ∈ fs, x.2.1 ≤ x.1.ev e ∧ x.1.ev e ≤ x.2.2

def look (t : T) : Facts → Option (Int × Int)
  | [] => none
  | x :: fs => bif T.same t x.1 then some x.2 else look t fs

theorem look_ok {e : Env} {t : T} {lo hi : Int} : ∀ {fs : Facts}, fs.ok e → look t fs = some (lo, hi) → lo ≤ t.ev e ∧ t.ev e ≤ hi := by
  intro fs
  induction fs with
  | nil => intro _ h; cases h
  | cons x fs ih =>
    intro hf h
    unfold look at h
    cases hs : T.same t x.1 with
    | true =>
      rw [hs] at h; simp only [cond_true, Option.some.injEq] at h
      have := hf x (List.mem_cons_self ..)
      rw [← T.same_eq hs, h] at this
      exact this
    | false =>
      rw [hs] at h; simp only [cond_false] at h
      exact ih (fun y hy => hf y (List.mem_cons_of_mem _ hy)) h

def imax (a b : Int) : Int := if a ≤ b then b else a
def imin (a b : Int) : Int := if a ≤ b then a else b

def narrow (fs : Facts) (t : T) (r : Option (Int × Int)) : Option (Int × Int) :=
  match look t fs with
  | none => r
  | some (lo, hi) => match r with
    | none => some (lo, hi)
    | some (x, y) => some (imax x lo, imin y hi)

def InR (n : Int) (r : Option (Int × Int)) : Prop := ∀ x y, r = some (x, y) → x ≤ n ∧ n ≤ y

theorem narrow_ok {e : Env} {fs : Facts} {t : T} {r : Option (Int × Int)} (hf : fs.ok e) (h : InR (t.ev e) r) : InR (t.ev e) (narrow fs t r) := by
  unfold narrow
  cases hl : look t fs with
  | none => exact h
  | some lh =>
    obtain ⟨lo, hi⟩ := lh
    have hlo := look_ok hf hl
    cases r with
    | none => intro x y hxy; cases hxy; exact hlo
    | some xy =>
      obtain ⟨x, y⟩ := xy
      have hx := h x y rfl
      intro x' y' hxy
      cases hxy
      unfold imax imin
      split <;> split <;> omega

/-- The least number all of whose binary digits are ones and that is not below n. -/
def ones (n : Nat) : Nat := 2 ^ (Nat.log2 n + 1) - 1

theorem lt_ones (n : Nat) : n < 2 ^ (Nat.log2 n + 1) := Nat.lt_log2_self

def T.isOne : T → Bool
  | .one => true
  | _ => false

def rng (fs : Facts) : T → Option (Int × Int)
  | .lit n => some (n, n)
  | .term c m r => match rng fs m with
    | none => none
    | some (a, b) => match rng fs r with
      | none => none
      | some (x, y) => if 0 ≤ c then some (c * a + x, c * b + y) else some (c * b + x, c * a + y)
  | .one => some (1, 1)
  | .prod a m => match rng fs a with
    | none => none
    | some (x, y) => match rng fs m with
        | none => none
        | some (u, v) => bif m.isOne then some (x, y) else if 0 ≤ x ∧ 0 ≤ u then some (x * u, y * v) else none
  | .var i lo hi => narrow fs (.var i lo hi) (if lo ≤ hi then some (lo, hi) else none)
  | .op o a b k => narrow fs (.op o a b k) (match o with
    | .div => match rng fs a with
      | none => none
      | some (x, y) => if k = 0 then none else some (x / (k : Int), y / (k : Int))
    | .mod => if k = 0 then none else some (0, (k : Int) - 1)
    | .eq0 => some (0, 1)
    | .le0 => some (0, 1)
    | .band => match rng fs a with
      | some (_, y) => match rng fs b with
        | some (_, v) => some (0, imax 0 (imin y v))
        | none => some (0, imax 0 y)
      | none => none
    | .bxor => match rng fs a with
      | some (_, y) => match rng fs b with
        | some (_, v) => some (0, (ones (max y.toNat v.toNat) : Nat))
        | none => none
      | none => none
    | .quo => match rng fs a with
      | some (x, y) => match rng fs b with
        | some (u, _) => if 0 ≤ x ∧ 1 ≤ u then some (0, y) else none
        | none => none
      | none => none
    | .rem => match rng fs a with
      | some (x, y) => match rng fs b with
        | some (u, v) => if 0 ≤ x ∧ 1 ≤ u then some (0, imin y (v - 1)) else none
        | none => none
      | none => none
    | .rd => some (0, 2 ^ k - 1)
    | .pow => match rng fs a with
      | some (_, y) => if y ≤ 64 then some (1, 2 ^ y.toNat) else none
      | none => none
    | _ => none)

theorem xor_le_ones {a b y v : Nat} (ha : a ≤ y) (hb : b ≤ v) : a ^^^ b ≤ ones (max y v) := by
  have h := lt_ones (max y v)
  have : a ^^^ b < 2 ^ (Nat.log2 (max y v) + 1) := Nat.xor_lt_two_pow (by omega) (by omega)
  unfold ones; omega

theorem rng_ok {e : Env} {fs : Facts} (hf : fs.ok e) : ∀ (t : T), InR (t.ev e) (rng fs t) := by
  intro t
  induction t with
  | lit n => intro x y h; cases h; exact ⟨Int.le_refl _, Int.le_refl _⟩
  | one => intro x y h; cases h; exact ⟨Int.le_refl _, Int.le_refl _⟩
  | term c m r ihm ihr =>
    intro x y h
    simp only [rng] at h
    cases hm : rng fs m with
    | none => rw [hm] at h; cases h
    | some ab =>
      obtain ⟨a, b⟩ := ab
      rw [hm] at h; simp only at h
      cases hr : rng fs r with
      | none => rw [hr] at h; cases h
      | some xy =>
        obtain ⟨u, v⟩ := xy
        rw [hr] at h; simp only at h
        have h1 := ihm a b hm
        have h2 := ihr u v hr
        rw [ev_term]
        split at h
        · rename_i hc
          cases h
          exact ⟨by have := Int.mul_le_mul_of_nonneg_left h1.1 hc; omega, by have := Int.mul_le_mul_of_nonneg_left h1.2 hc; omega⟩
        · rename_i hc
          cases h
          exact ⟨by have := Int.mul_le_mul_of_nonpos_left (a := c) (by omega) h1.2; omega, by have := Int.mul_le_mul_of_nonpos_left (a := c) (by omega) h1.1; omega⟩
  | prod a m iha ihm =>
    intro x y h
    simp only [rng] at h
    cases ha : rng fs a with
    | none => rw [ha] at h; cases h
    | some ab =>
      obtain ⟨p, q⟩ := ab
      rw [ha] at h; simp only at h
      have h1 := iha p q ha
      cases hm : rng fs m with
      | none => rw [hm] at h; cases h
      | some uv =>
        obtain ⟨u, v⟩ := uv
        rw [hm] at h; simp only at h
        have h2 := ihm u v hm
        cases ho : m.isOne with
        | true =>
          rw [ho] at h; simp only [cond_true] at h
          cases m <;> first | cases ho | skip
          cases h
          rw [ev_prod, ev_one, Int.mul_one]; exact h1
        | false =>
          rw [ho] at h; simp only [cond_false] at h
          split at h
          · rename_i hc
            cases h
            rw [ev_prod]
            exact ⟨Int.mul_le_mul h1.1 h2.1 hc.2 (by omega), Int.mul_le_mul h1.2 h2.2 (by omega) (by omega)⟩
          · cases h
  | var i lo hi =>
    simp only [rng]
    refine narrow_ok hf ?_
    intro x y h
    split at h
    · rename_i hle; cases h; exact ⟨clamp_ge hle, clamp_le hle⟩
    · cases h
  | op o a b k iha ihb =>
    simp only [rng]
    refine narrow_ok hf ?_
    intro x y h
    cases o <;> simp only at h
    case div =>
      cases ha : rng fs a with
      | none => rw [ha] at h; cases h
      | some ab =>
        obtain ⟨p, q⟩ := ab
        rw [ha] at h; simp only at h
        have h1 := iha p q ha
        split at h
        · cases h
        · cases h
          rw [ev_div]
          exact ⟨Int.ediv_le_ediv (by omega) h1.1, Int.ediv_le_ediv (by omega) h1.2⟩
    case mod =>
      split at h
      · cases h
      · cases h
        rw [ev_mod]
        have := Int.emod_nonneg (a.ev e) (b := (k : Int)) (by omega)
        have := Int.emod_lt_of_pos (a.ev e) (b := (k : Int)) (by omega)
        omega
    case eq0 => cases h; rw [ev_eq0]; split <;> omega
    case le0 => cases h; rw [ev_le0]; split <;> omega
    case band =>
      cases ha : rng fs a with
      | none => rw [ha] at h; cases h
      | some ab =>
        obtain ⟨p, q⟩ := ab
        rw [ha] at h; simp only at h
        have h1 := iha p q ha
        have ha1 : (a.ev e).toNat &&& (b.ev e).toNat ≤ (a.ev e).toNat := Nat.and_le_left
        have ha2 : (a.ev e).toNat &&& (b.ev e).toNat ≤ (b.ev e).toNat := Nat.and_le_right
        rw [ev_band]
        cases hb : rng fs b with
        | none =>
          rw [hb] at h; simp only at h; cases h
          unfold imax; split <;> omega
        | some uv =>
          obtain ⟨u, v⟩ := uv
          rw [hb] at h; simp only at h; cases h
          have h2 := ihb u v hb
          unfold imax imin; split <;> split <;> omega
    case bxor =>
      cases ha : rng fs a with
      | none => rw [ha] at h; cases h
      | some ab =>
        obtain ⟨p, q⟩ := ab
        rw [ha] at h; simp only at h
        have h1 := iha p q ha
        cases hb : rng fs b with
        | none => rw [hb] at h; cases h
        | some uv =>
          obtain ⟨u, v⟩ := uv
          rw [hb] at h; simp only at h
          have h2 := ihb u v hb
          cases h
          rw [ev_bxor]
          have := xor_le_ones (a := (a.ev e).toNat) (b := (b.ev e).toNat) (y := q.toNat) (v := v.toNat) (by omega) (by omega)
          omega
    case quo =>
      cases ha : rng fs a with
      | none => rw [ha] at h; cases h
      | some ab =>
        obtain ⟨p, q⟩ := ab
        rw [ha] at h; simp only at h
        have h1 := iha p q ha
        cases hb : rng fs b with
        | none => rw [hb] at h; cases h
        | some uv =>
          obtain ⟨u, v⟩ := uv
          rw [hb] at h; simp only at h
          have h2 := ihb u v hb
          split at h
          · rename_i hc
            cases h
            rw [ev_quo, Int.tdiv_eq_ediv_of_nonneg (by omega)]
            exact ⟨Int.ediv_nonneg (by omega) (by omega), Int.le_trans (Int.ediv_le_self _ (by omega)) h1.2⟩
          · cases h
    case rem =>
      cases ha : rng fs a with
      | none => rw [ha] at h; cases h
      | some ab =>
        obtain ⟨p, q⟩ := ab
        rw [ha] at h; simp only at h
        have h1 := iha p q ha
        cases hb : rng fs b with
        | none => rw [hb] at h; cases h
        | some uv =>
          obtain ⟨u, v⟩ := uv
          rw [hb] at h; simp only at h
          have h2 := ihb u v hb
          split at h
          · rename_i hc
            cases h
            rw [ev_rem, Int.tmod_eq_emod_of_nonneg (by omega)]
            have g1 := Int.emod_nonneg (a.ev e) (b := b.ev e) (by omega)
            have g2 := Int.emod_lt_of_pos (a.ev e) (b := b.ev e) (by omega)
            have g3 : a.ev e % b.ev e ≤ a.ev e := by
              have := Int.emod_add_mul_ediv (a.ev e) (b.ev e)
              have := Int.ediv_nonneg (a := a.ev e) (b := b.ev e) (by omega) (by omega)
              have := Int.mul_nonneg (a := b.ev e) (b := a.ev e / b.ev e) (by omega) (by omega)
              omega
            unfold imin; split <;> omega
          · cases h
    case pow =>
      cases ha : rng fs a with
      | none => rw [ha] at h; cases h
      | some ab =>
        obtain ⟨p, q⟩ := ab
        rw [ha] at h; simp only at h
        have h1 := iha p q ha
        split at h
        · cases h
          rw [ev_pow]
          have h2 : 2 ^ (a.ev e).toNat ≤ 2 ^ q.toNat := Nat.pow_le_pow_right (by omega) (by omega)
          have h3 : 0 < 2 ^ (a.ev e).toNat := Nat.pow_pos (by omega)
          have e1 : ((2 ^ (a.ev e).toNat : Nat) : Int) = 2 ^ (a.ev e).toNat := by simp
          have e2 : ((2 ^ q.toNat : Nat) : Int) = 2 ^ q.toNat := by simp
          omega
        · cases h
    case rd =>
      cases h
      exact ⟨clamp_ge (by have : (0 : Int) < 2 ^ k := Int.pow_pos (by omega); omega), clamp_le (by have : (0 : Int) < 2 ^ k := Int.pow_pos (by omega); omega)⟩
    all_goals cases h

/-! ## Sums -/

/-- c times the product m, added. -/
def addTerm (c : Int) (m : T) : T → T
  | .lit n => bif icmp c 0 == 1 then .lit n else .term c m (.lit n)
  | .term c' m' r => match T.cmp m m' with
    | 1 => match c + c' with
      | .ofNat 0 => r
      | s => .term s m' r
    | 0 => .term c m (.term c' m' r)
    | _ => .term c' m' (addTerm c m r)
  | t => .term c m t

theorem addTerm_ev (e : Env) (c : Int) (m : T) : ∀ t : T, (addTerm c m t).ev e = c * m.ev e + t.ev e := by
  intro t
  induction t with
  | lit n =>
    simp only [addTerm]
    cases h : (icmp c 0 == 1) with
    | true =>
      have hc : c = 0 := icmp_eq (by simpa using h)
      simp [hc, ev_lit]
    | false => rfl
  | term c' m' r ihm ihr =>
    simp only [addTerm]
    split
    · rename_i h
      have hm := T.cmp_eq h
      split
      · rename_i hs
        rw [ev_term, ← hm]
        have : c + c' = 0 := hs
        have h2 : c * m.ev e + (c' * m.ev e + r.ev e) = (c + c') * m.ev e + r.ev e := by rw [Int.add_mul]; omega
        rw [h2, this]; simp
      · rw [ev_term, ev_term, ← hm, Int.add_mul]; omega
    · rfl
    · rw [ev_term, ihr, ev_term]; omega
  | one => rfl
  | prod a m' => rfl
  | var i lo hi => rfl
  | op o a b k => rfl

/-- A number more. -/
def T.addc (n : Int) : T → T
  | .lit m => .lit (n + m)
  | .term c m r => .term c m (T.addc n r)
  | u => match n with
    | .ofNat 0 => u
    | n => .term 1 u (.lit n)

theorem addc_ev (e : Env) (n : Int) : ∀ u : T, (T.addc n u).ev e = n + u.ev e := by
  have hz : ∀ u : T, (match n with | .ofNat 0 => u | n => T.term 1 u (.lit n)).ev e = n + u.ev e := by
    intro u
    split
    · simp
    · rw [ev_term, ev_lit]; omega
  intro u
  induction u with
  | lit m => rfl
  | term c m r ihm ihr => simp only [T.addc, ev_term, ihr]; omega
  | one => exact hz .one
  | prod a m => exact hz (.prod a m)
  | var i lo hi => exact hz (.var i lo hi)
  | op o a b k => exact hz (.op o a b k)

def T.add : T → T → T
  | .lit n, u => T.addc n u
  | .term c m r, u => addTerm c m (T.add r u)
  | t, u => .term 1 t u

theorem add_ev (e : Env) : ∀ t u : T, (T.add t u).ev e = t.ev e + u.ev e := by
  intro t
  induction t with
  | lit n => intro u; exact addc_ev e n u
  | term c m r ihm ihr => intro u; simp only [T.add, addTerm_ev, ihr, ev_term]; omega
  | one => intro u; show (T.term 1 .one u).ev e = _; rw [ev_term]; omega
  | prod a m => intro u; show (T.term 1 (.prod a m) u).ev e = _; rw [ev_term]; omega
  | var i lo hi => intro u; show (T.term 1 (.var i lo hi) u).ev e = _; rw [ev_term]; omega
  | op o a b k => intro u; show (T.term 1 (.op o a b k) u).ev e = _; rw [ev_term]; omega

/-- c times a sum (c is not 0). -/
def T.scale (c : Int) : T → T
  | .lit n => .lit (c * n)
  | .term c' m r => .term (c * c') m (T.scale c r)
  | t => .term c t (.lit 0)

theorem scale_ev (e : Env) (c : Int) : ∀ t : T, (T.scale c t).ev e = c * t.ev e := by
  intro t
  induction t with
  | lit n => rfl
  | term c' m r ihm ihr => simp only [T.scale, ev_term, ihr, Int.mul_add, Int.mul_assoc]
  | one => simp [T.scale, ev_term, ev_lit]
  | prod a m => simp [T.scale, ev_term, ev_lit]
  | var i lo hi => simp [T.scale, ev_term, ev_lit]
  | op o a b k => simp [T.scale, ev_term, ev_lit]

def T.neg (t : T) : T := T.scale (-1) t
def T.sub (t u : T) : T := T.add t (T.neg u)
def T.atom (a : T) : T := .term 1 (.prod a .one) (.lit 0)
/-- 1 less t. -/
def T.not1 (t : T) : T := T.addc 1 (T.neg t)

theorem neg_ev (e : Env) (t : T) : (T.neg t).ev e = -t.ev e := by unfold T.neg; rw [scale_ev]; omega
theorem sub_ev (e : Env) (t u : T) : (T.sub t u).ev e = t.ev e - u.ev e := by unfold T.sub; rw [add_ev, neg_ev]; omega
theorem atom_ev (e : Env) (a : T) : (T.atom a).ev e = a.ev e := by simp [T.atom, ev_term, ev_prod, ev_one, ev_lit]
theorem not1_ev (e : Env) (t : T) : (T.not1 t).ev e = 1 - t.ev e := by unfold T.not1; rw [addc_ev, neg_ev]; omega

/-! ## Products -/

def isBit (fs : Facts) (t : T) : Bool := match rng fs t with
  | some (x, y) => decide (0 ≤ x) && decide (y ≤ 1)
  | none => false

theorem isBit_ok {e : Env} {fs : Facts} (hf : fs.ok e) {t : T} (h : isBit fs t = true) : t.ev e = 0 ∨ t.ev e = 1 := by
  unfold isBit at h
  cases hr : rng fs t with
  | none => rw [hr] at h; cases h
  | some xy =>
    obtain ⟨x, y⟩ := xy
    rw [hr] at h
    simp only [Bool.and_eq_true, decide_eq_true_eq] at h
    have := rng_ok hf t x y hr
    omega

/-- An atom more in a product. -/
def mulAtom (fs : Facts) (a : T) : T → T
  | .prod b m => match T.cmp a b with
    | 1 => bif isBit fs a then .prod b m else .prod a (.prod b m)
    | 0 => .prod a (.prod b m)
    | _ => .prod b (mulAtom fs a m)
  | m => .prod a m

theorem mulAtom_ev {e : Env} {fs : Facts} (hf : fs.ok e) (a : T) : ∀ m : T, (mulAtom fs a m).ev e = a.ev e * m.ev e := by
  intro m
  induction m with
  | prod b m ihb ihm =>
    simp only [mulAtom]
    split
    · rename_i h
      have hab := T.cmp_eq h
      cases hb : isBit fs a with
      | true =>
        simp only [cond_true]
        rw [ev_prod, ← hab, ← Int.mul_assoc]
        rcases isBit_ok hf hb with h | h <;> simp [h]
      | false => rfl
    · rfl
    · rw [ev_prod, ihm, ev_prod, ← Int.mul_assoc, ← Int.mul_assoc, Int.mul_comm (b.ev e)]
  | lit n => rfl
  | term c m r => rfl
  | one => rfl
  | var i lo hi => rfl
  | op o a b k => rfl

def mulMono (fs : Facts) : T → T → T
  | .prod a m, u => mulAtom fs a (mulMono fs m u)
  | .one, u => u
  | t, u => .prod t u

theorem mulMono_ev {e : Env} {fs : Facts} (hf : fs.ok e) (u : T) : ∀ t : T, (mulMono fs t u).ev e = t.ev e * u.ev e := by
  intro t
  induction t with
  | prod a m iha ihm => simp only [mulMono, mulAtom_ev hf, ihm, ev_prod, Int.mul_assoc]
  | one => simp [mulMono, ev_one]
  | lit n => rfl
  | term c m r => rfl
  | var i lo hi => rfl
  | op o a b k => rfl

/-- c times the product m times a sum. -/
def mulBy (fs : Facts) (c : Int) (m : T) : T → T
  | .lit n => match c * n with
    | .ofNat 0 => .lit 0
    | s => .term s m (.lit 0)
  | .term c' m' r => addTerm (c * c') (mulMono fs m m') (mulBy fs c m r)
  | t => .term c (.prod m (.prod t .one)) (.lit 0)

theorem mulBy_ev {e : Env} {fs : Facts} (hf : fs.ok e) (c : Int) (m : T) : ∀ t : T, (mulBy fs c m t).ev e = c * m.ev e * t.ev e := by
  intro t
  induction t with
  | lit n =>
    simp only [mulBy]
    split
    · rename_i h
      have h0 : c * n = 0 := h
      rw [ev_lit, ev_lit, Int.mul_assoc, Int.mul_comm (m.ev e), ← Int.mul_assoc, h0]; simp
    · simp only [ev_term, ev_lit, Int.add_zero]
      rw [Int.mul_assoc, Int.mul_assoc, Int.mul_comm (m.ev e)]
  | term c' m' r ihm ihr =>
    simp only [mulBy, addTerm_ev, mulMono_ev hf, ihr, ev_term, Int.mul_add]
    congr 1
    rw [Int.mul_assoc, Int.mul_assoc]
    congr 1
    rw [← Int.mul_assoc, ← Int.mul_assoc, Int.mul_comm c']
  | one => show (T.term c (.prod m (.prod .one .one)) (.lit 0)).ev e = _; simp [ev_term, ev_prod, ev_one, ev_lit]
  | prod a m' => show (T.term c (.prod m (.prod (.prod a m') .one)) (.lit 0)).ev e = _; simp [ev_term, ev_prod, ev_one, ev_lit, Int.mul_assoc]
  | var i lo hi => show (T.term c (.prod m (.prod (.var i lo hi) .one)) (.lit 0)).ev e = _; simp [ev_term, ev_prod, ev_one, ev_lit, Int.mul_assoc]
  | op o a b k => show (T.term c (.prod m (.prod (.op o a b k) .one)) (.lit 0)).ev e = _; simp [ev_term, ev_prod, ev_one, ev_lit, Int.mul_assoc]

def T.mul (fs : Facts) : T → T → T
  | .lit n, u => match n with
    | .ofNat 0 => .lit 0
    | n => T.scale n u
  | .term c m r, u => T.add (mulBy fs c m u) (T.mul fs r u)
  | t, u => mulBy fs 1 (.prod t .one) u

theorem mul_ev {e : Env} {fs : Facts} (hf : fs.ok e) (u : T) : ∀ t : T, (T.mul fs t u).ev e = t.ev e * u.ev e := by
  intro t
  induction t with
  | lit n =>
    simp only [T.mul]
    split
    · simp [ev_lit]
    · rw [scale_ev, ev_lit]
  | term c m r ihm ihr => simp only [T.mul, add_ev, mulBy_ev hf, ihr, ev_term, Int.add_mul]
  | one => show (mulBy fs 1 (.prod .one .one) u).ev e = _; rw [mulBy_ev hf, ev_prod, ev_one]; simp
  | prod a m => show (mulBy fs 1 (.prod (.prod a m) .one) u).ev e = _; rw [mulBy_ev hf, ev_prod _ (T.prod a m), ev_one]; simp
  | var i lo hi => show (mulBy fs 1 (.prod (.var i lo hi) .one) u).ev e = _; rw [mulBy_ev hf, ev_prod, ev_one]; simp
  | op o a b k => show (mulBy fs 1 (.prod (.op o a b k) .one) u).ev e = _; rw [mulBy_ev hf, ev_prod, ev_one]; simp

end Go.Sx

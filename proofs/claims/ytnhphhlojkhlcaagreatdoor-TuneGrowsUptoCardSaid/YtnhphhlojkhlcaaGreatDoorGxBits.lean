/- Quotients, rests, and the bitwise operations on terms. -/
import Derived.Test.YtnhphhlojkhlcaaGreatDoorGxFact
namespace Go.Sx

/-! ## What is asked -/

inductive Rq where
  | div (k : Nat) | mod (k : Nat) | band | bxor

def Rq.sem : Rq → Int → Int → Int
  | .div k, a, _ => a / (k : Int)
  | .mod k, a, _ => a % (k : Int)
  | .band, a, b => ((a.toNat &&& b.toNat : Nat) : Int)
  | .bxor, a, b => ((a.toNat ^^^ b.toNat : Nat) : Int)

def Rq.atom : Rq → T → T → T
  | .div k, p, _ => T.atom (.op .div p (.lit 0) k)
  | .mod k, p, _ => T.atom (.op .mod p (.lit 0) k)
  | .band, p, q => match T.cmp p q with
    | 2 => T.atom (.op .band q p 0)
    | _ => T.atom (.op .band p q 0)
  | .bxor, p, q => match T.cmp p q with
    | 2 => T.atom (.op .bxor q p 0)
    | _ => T.atom (.op .bxor p q 0)

theorem Rq.atom_ev (e : Env) (rq : Rq) (p q : T) : (rq.atom p q).ev e = rq.sem (p.ev e) (q.ev e) := by
  cases rq with
  | div k => simp [Rq.atom, Rq.sem, Go.Sx.atom_ev, ev_div]
  | mod k => simp [Rq.atom, Rq.sem, Go.Sx.atom_ev, ev_mod]
  | band => simp only [Rq.atom, Rq.sem]; split <;> rw [Go.Sx.atom_ev, ev_band]; rw [Nat.and_comm]
  | bxor => simp only [Rq.atom, Rq.sem]; split <;> rw [Go.Sx.atom_ev, ev_bxor]; rw [Nat.xor_comm]

/-- A sum as k times a sum, and what is left. -/
def splitK (k : Int) : T → T × T
  | .lit n => (.lit (n / k), .lit (n % k))
  | .term c m r => match splitK k r with
    | (q, s) => bif icmp (c % k) 0 == 1 then (.term (c / k) m q, s) else match (c + k / 2) / k with
      | .ofNat 0 => (q, .term c m s)
      | .ofNat 1 => (q, .term c m s)
      | .negSucc 0 => (q, .term c m s)
      | d => (.term d m q, .term (c - k * d) m s)
  | t => (.lit 0, t)

theorem splitK_ev (e : Env) (k : Int) : ∀ t : T, t.ev e = k * (splitK k t).1.ev e + (splitK k t).2.ev e := by
  intro t
  induction t with
  | lit n => simp only [splitK, ev_lit]; have := Int.emod_add_mul_ediv n k; omega
  | term c m r ihm ihr =>
    simp only [splitK]
    cases h : (icmp (c % k) 0 == 1) with
    | true =>
      have h0 : c % k = 0 := icmp_eq (by simpa using h)
      have h1 := Int.emod_add_mul_ediv c k
      rw [h0] at h1
      simp only [cond_true, ev_term, ihr]
      rw [Int.mul_add, ← Int.mul_assoc, show k * (c / k) = c by omega]; omega
    | false =>
      simp only [cond_false]
      split
      · simp only [ev_term, ihr]; omega
      · simp only [ev_term, ihr]; omega
      · simp only [ev_term, ihr]; omega
      · simp only [ev_term, ihr]
        generalize (c + k / 2) / k = d
        rw [Int.mul_add, Int.sub_mul, ← Int.mul_assoc]; omega
  | one => show _ = k * (0 : Int) + _; simp [splitK]
  | prod a m => show _ = k * (0 : Int) + _; simp [splitK]
  | var i lo hi => show _ = k * (0 : Int) + _; simp [splitK]
  | op o a b j => show _ = k * (0 : Int) + _; simp [splitK]

def leadNeg : T → Bool
  | .term (.negSucc _) _ _ => true
  | _ => false

/-- The one atom that a sum is. -/
def asAtom : T → Option T
  | .term (.ofNat 1) (.prod a .one) (.lit (.ofNat 0)) => some a
  | _ => none

theorem asAtom_ev (e : Env) {t a : T} (h : asAtom t = some a) : t.ev e = a.ev e := by
  unfold asAtom at h
  split at h
  · cases h; simp [ev_term, ev_prod, ev_one, ev_lit]
  · cases h

def pow2 (k : Nat) : Bool := Nat.beq (2 ^ Nat.log2 k) k

theorem pow2_eq {k : Nat} (h : pow2 k = true) : ∃ s, k = 2 ^ s := ⟨_, (Nat.eq_of_beq_eq_true h).symm⟩

/-- Do all lie in one piece of length k? Which one. -/
def piece (fs : Facts) (k : Nat) (t : T) : Option Int := match rng fs t with
  | some (x, y) => bif icmp (x / (k : Int)) (y / (k : Int)) == 1 then some (x / (k : Int)) else none
  | none => none

theorem piece_ok {e : Env} {fs : Facts} (hf : fs.ok e) {t : T} {k : Nat} {q : Int} (hk : 0 < k) (h : piece fs k t = some q) : t.ev e / (k : Int) = q := by
  unfold piece at h
  split at h
  · rename_i x y hr
    have := rng_ok hf t _ _ hr
    cases hc : (icmp (x / (k : Int)) (y / (k : Int)) == 1) with
    | true =>
      rw [hc] at h; simp only [cond_true, Option.some.injEq] at h
      have he : x / (k : Int) = y / (k : Int) := icmp_eq (by simpa using hc)
      have h1 := Int.ediv_le_ediv (c := (k : Int)) (by omega) this.1
      have h2 := Int.ediv_le_ediv (c := (k : Int)) (by omega) this.2
      omega
    | false => rw [hc] at h; cases h
  · cases h

abbrev Rec := Rq → T → T → T
def Rq.pos : Rq → Prop
  | .div k => 0 < k
  | .mod k => 0 < k
  | _ => True
def Rec.ok (e : Env) (r : Rec) : Prop := ∀ rq p q, rq.pos → (r rq p q).ev e = rq.sem (p.ev e) (q.ev e)

/-! ## By a bit: both ways -/

/-- Requests under what is known. -/
abbrev RecF := Facts → Rec
def RecF.ok (e : Env) (r : RecF) : Prop := ∀ fs : Facts, fs.ok e → Rec.ok e (r fs)

/-- A request, answered for a bit being 1 and being 0. -/
def shan (r : RecF) (fs : Facts) (rq : Rq) (a p q : T) : T :=
  match assumeAtom a true fs, assumeAtom a false fs with
  | some f1, some f0 => match r f1 rq (putA a true p) (putA a true q), r f0 rq (putA a false p) (putA a false q) with
    | x1, x0 => T.add x0 (T.mul fs (T.atom a) (T.sub x1 x0))
  | some f1, none => r f1 rq (putA a true p) (putA a true q)
  | none, some f0 => r f0 rq (putA a false p) (putA a false q)
  | none, none => .lit 0

theorem shan_ev {e : Env} {fs : Facts} (hf : fs.ok e) {r : RecF} (hr : r.ok e) {rq : Rq} (hp : rq.pos) {a : T} (hb : isBit fs a = true) (p q : T) : (shan r fs rq a p q).ev e = rq.sem (p.ev e) (q.ev e) := by
  have h1 : ∀ f1, a.ev e = bint true → f1.ok e → (r f1 rq (putA a true p) (putA a true q)).ev e = rq.sem (p.ev e) (q.ev e) := fun f1 ha hf1 => by rw [hr f1 hf1 _ _ _ hp, putA_ev ha, putA_ev ha]
  have h0 : ∀ f0, a.ev e = bint false → f0.ok e → (r f0 rq (putA a false p) (putA a false q)).ev e = rq.sem (p.ev e) (q.ev e) := fun f0 ha hf0 => by rw [hr f0 hf0 _ _ _ hp, putA_ev ha, putA_ev ha]
  unfold shan
  rcases isBit_ok hf hb with ha | ha
  · obtain ⟨f0, g1, g2⟩ := assumeAtom_ok (b := false) hf ha
    rw [g1]
    split
    · rename_i f1 f0' _ e0
      cases e0
      simp only
      rw [add_ev, mul_ev hf, sub_ev, h0 f0 ha g2, atom_ev, ha, Int.zero_mul, Int.add_zero]
    · rename_i e0; cases e0
    · rename_i f0' _ e0; cases e0; exact h0 f0 ha g2
    · rename_i e0; cases e0
  · obtain ⟨f1, g1, g2⟩ := assumeAtom_ok (b := true) hf ha
    rw [g1]
    split
    · rename_i f1' f0 e1 _
      cases e1
      simp only
      rw [add_ev, mul_ev hf, sub_ev, h1 f1 ha g2, atom_ev, ha, Int.one_mul]
      omega
    · rename_i f1' e1 _; cases e1; exact h1 f1 ha g2
    · rename_i e1 _; cases e1
    · rename_i e1 _; cases e1

/-! ## Sums that are bitwise: their quotients and rests -/

/-- A bitwise sum of two terms again. -/
def BF.mk (rec : Rec) (f : BF) (a b : T) : T := match f with
  | .or _ _ => T.sub (T.add a b) (rec .band a b)
  | .xor _ _ => rec .bxor a b
  | .less _ _ => T.sub a (rec .band a b)

/-- The quotient or the rest of a bitwise sum. -/
def bfGo (rec : Rec) (fs : Facts) (rq : Rq) (k : Nat) (p : T) : Option T :=
  match bform p p with
  | some f => bif pow2 k && nonneg fs f.args.1 && nonneg fs f.args.2 then some (f.mk rec (rec rq f.args.1 f.args.1) (rec rq f.args.2 f.args.2)) else none
  | none => none

theorem less_div (x y s : Nat) : (x - (x &&& y)) / 2 ^ s = x / 2 ^ s - (x / 2 ^ s &&& y / 2 ^ s) ∧ (x - (x &&& y)) % 2 ^ s = x % 2 ^ s - (x % 2 ^ s &&& y % 2 ^ s) := by
  have key : ∀ a b : Nat, a - (a &&& b) = a ^^^ (a &&& b) := by
    intro a b
    have h := xor_and a (a &&& b)
    have h3 : a &&& (a &&& b) = a &&& b := by rw [← Nat.and_assoc, Nat.and_self]
    rw [h3] at h
    have : a &&& b ≤ a := Nat.and_le_left
    omega
  rw [key, key, key, Nat.xor_div_two_pow, Nat.and_div_two_pow, Nat.xor_mod_two_pow, Nat.and_mod_two_pow]
  exact ⟨rfl, rfl⟩

theorem toNat_mod (a : Int) (k : Nat) (h : 0 ≤ a) (hk : 0 < k) : (a % (k : Int)).toNat = a.toNat % k := by
  rw [Int.toNat_emod h (by omega), Int.toNat_natCast]

theorem BF.mk_ev {e : Env} {rec : Rec} (hr : rec.ok e) (f : BF) {a b : T} (ha : 0 ≤ a.ev e) (hb : 0 ≤ b.ev e) : (f.mk rec a b).ev e = (match f with
    | .or _ _ => (((a.ev e).toNat ||| (b.ev e).toNat : Nat) : Int)
    | .xor _ _ => (((a.ev e).toNat ^^^ (b.ev e).toNat : Nat) : Int)
    | .less _ _ => (((a.ev e).toNat - ((a.ev e).toNat &&& (b.ev e).toNat) : Nat) : Int)) := by
  cases f with
  | or x y =>
    simp only [BF.mk]
    rw [sub_ev, add_ev, hr .band _ _ trivial]
    simp only [Rq.sem]
    have := nat_or (a.ev e).toNat (b.ev e).toNat
    omega
  | xor x y => exact hr .bxor _ _ trivial
  | less x y =>
    simp only [BF.mk]
    rw [sub_ev, hr .band _ _ trivial]
    simp only [Rq.sem]
    have : (a.ev e).toNat &&& (b.ev e).toNat ≤ (a.ev e).toNat := Nat.and_le_left
    omega

theorem bfGo_div {e : Env} {rec : Rec} {fs : Facts} (hf : fs.ok e) (hr : rec.ok e) {k : Nat} (hk : 0 < k) {p r : T} (h : bfGo rec fs (.div k) k p = some r) : r.ev e = p.ev e / (k : Int) := by
  unfold bfGo at h
  split at h
  · rename_i f hbf
    cases hc : (pow2 k && nonneg fs f.args.1 && nonneg fs f.args.2) with
    | false => rw [hc] at h; cases h
    | true =>
      rw [hc] at h; cases h
      simp only [Bool.and_eq_true] at hc
      obtain ⟨s, rfl⟩ := pow2_eq hc.1.1
      have n1 := nonneg_ok hf hc.1.2
      have n2 := nonneg_ok hf hc.2
      have d1 : (rec (.div (2 ^ s)) f.args.1 f.args.1).ev e = f.args.1.ev e / ((2 ^ s : Nat) : Int) := hr _ _ _ hk
      have d2 : (rec (.div (2 ^ s)) f.args.2 f.args.2).ev e = f.args.2.ev e / ((2 ^ s : Nat) : Int) := hr _ _ _ hk
      rw [BF.mk_ev hr f (by rw [d1]; exact Int.ediv_nonneg n1 (by omega)) (by rw [d2]; exact Int.ediv_nonneg n2 (by omega)), d1, d2, toNat_div, toNat_div, bform_ok hbf n1 n2]
      cases f with
      | or a b => simp only [BF.args, BF.sem]; rw [← Nat.or_div_two_pow]; rfl
      | xor a b => simp only [BF.args, BF.sem]; rw [← Nat.xor_div_two_pow]; rfl
      | less a b => simp only [BF.args, BF.sem]; rw [← (less_div _ _ s).1]; rfl
  · cases h

theorem bfGo_mod {e : Env} {rec : Rec} {fs : Facts} (hf : fs.ok e) (hr : rec.ok e) {k : Nat} (hk : 0 < k) {p r : T} (h : bfGo rec fs (.mod k) k p = some r) : r.ev e = p.ev e % (k : Int) := by
  unfold bfGo at h
  split at h
  · rename_i f hbf
    cases hc : (pow2 k && nonneg fs f.args.1 && nonneg fs f.args.2) with
    | false => rw [hc] at h; cases h
    | true =>
      rw [hc] at h; cases h
      simp only [Bool.and_eq_true] at hc
      obtain ⟨s, rfl⟩ := pow2_eq hc.1.1
      have n1 := nonneg_ok hf hc.1.2
      have n2 := nonneg_ok hf hc.2
      have d1 : (rec (.mod (2 ^ s)) f.args.1 f.args.1).ev e = f.args.1.ev e % ((2 ^ s : Nat) : Int) := hr _ _ _ hk
      have d2 : (rec (.mod (2 ^ s)) f.args.2 f.args.2).ev e = f.args.2.ev e % ((2 ^ s : Nat) : Int) := hr _ _ _ hk
      rw [BF.mk_ev hr f (by rw [d1]; exact Int.emod_nonneg _ (by omega)) (by rw [d2]; exact Int.emod_nonneg _ (by omega)), d1, d2, toNat_mod _ _ n1 hk, toNat_mod _ _ n2 hk, bform_ok hbf n1 n2]
      cases f with
      | or a b => simp only [BF.args, BF.sem]; rw [← Nat.or_mod_two_pow]; rfl
      | xor a b => simp only [BF.args, BF.sem]; rw [← Nat.xor_mod_two_pow]; rfl
      | less a b => simp only [BF.args, BF.sem]; rw [← (less_div _ _ s).2]; rfl
  · cases h

/-! ## The quotient -/

/-- A quotient and a number. -/
def asDiv : T → Option (T × Nat × Int)
  | .term (.ofNat 1) (.prod (.op .div a _ (j + 1)) .one) (.lit c) => some (a, j + 1, c)
  | _ => none

theorem asDiv_ev (e : Env) {t a : T} {j : Nat} {c : Int} (h : asDiv t = some (a, j, c)) : 0 < j ∧ t.ev e = a.ev e / (j : Int) + c := by
  unfold asDiv at h
  split at h
  · rename_i a' b' j' c'
    cases h
    refine ⟨by omega, ?_⟩
    rw [ev_term, ev_prod, ev_div, ev_one, ev_lit]
    show 1 * (a.ev e / ((j' + 1 : Nat) : Int) * 1) + c = _
    omega
  · cases h

def divAtom (rec : Rec) (r : T) (k : Nat) : T :=
  match asDiv r with
  | some (a, j, c) => rec (.div (j * k)) (T.addc (c * (j : Int)) a) a
  | none => match asAtom r with
  | some (.op .band a b _) => bif pow2 k then rec .band (rec (.div k) a a) (rec (.div k) b b) else T.atom (.op .div r (.lit 0) k)
  | some (.op .bxor a b _) => bif pow2 k then rec .bxor (rec (.div k) a a) (rec (.div k) b b) else T.atom (.op .div r (.lit 0) k)
  | some (.op .div a _ (j + 1)) => rec (.div ((j + 1) * k)) a a
  | some (.op .mod a _ (j + 1)) => bif Nat.beq ((j + 1) % k) 0 then rec (.mod ((j + 1) / k)) (rec (.div k) a a) a else T.atom (.op .div r (.lit 0) k)
  | _ => T.atom (.op .div r (.lit 0) k)

theorem divAtom_ev {e : Env} {rec : Rec} (hr : rec.ok e) (r : T) (k : Nat) (hk : 0 < k) : (divAtom rec r k).ev e = r.ev e / (k : Int) := by
  have hb : (T.atom (.op .div r (.lit 0) k)).ev e = r.ev e / (k : Int) := by rw [atom_ev, ev_div]
  unfold divAtom
  split
  · rename_i a j c h
    obtain ⟨hj, hv⟩ := asDiv_ev e h
    rw [hr (.div _) _ _ (Nat.mul_pos hj hk), hv]
    simp only [Rq.sem]
    rw [addc_ev, ← div_div]
    congr 1
    rw [Int.add_comm, Int.mul_comm, Int.add_mul_ediv_left _ _ (by omega)]
  split
  · rename_i a b j h
    cases hp : pow2 k with
    | false => exact hb
    | true =>
      obtain ⟨s, rfl⟩ := pow2_eq hp
      simp only [cond_true]
      rw [hr .band _ _ trivial, hr (.div _) _ _ hk, hr (.div _) _ _ hk, asAtom_ev e h, ev_band]
      simp only [Rq.sem, toNat_div]
      rw [← Nat.and_div_two_pow]; rfl
  · rename_i a b j h
    cases hp : pow2 k with
    | false => exact hb
    | true =>
      obtain ⟨s, rfl⟩ := pow2_eq hp
      simp only [cond_true]
      rw [hr .bxor _ _ trivial, hr (.div _) _ _ hk, hr (.div _) _ _ hk, asAtom_ev e h, ev_bxor]
      simp only [Rq.sem, toNat_div]
      rw [← Nat.xor_div_two_pow]; rfl
  · rename_i a b j h
    rw [hr (.div _) _ _ (Nat.mul_pos (by omega) hk), asAtom_ev e h, ev_div]
    simp only [Rq.sem]
    rw [div_div]
  · rename_i a b j h
    cases hp : Nat.beq ((j + 1) % k) 0 with
    | false => exact hb
    | true =>
      simp only [cond_true]
      have h0 := Nat.eq_of_beq_eq_true hp
      have hkt : k * ((j + 1) / k) = j + 1 := by have := Nat.mod_add_div (j + 1) k; omega
      have ht : 0 < (j + 1) / k := Nat.pos_of_ne_zero (fun hz => by rw [hz] at hkt; simp at hkt)
      rw [hr (.mod _) _ _ ht, hr (.div _) _ _ hk, asAtom_ev e h, ev_mod]
      simp only [Rq.sem]
      rw [← mod_div _ _ _ hk ht, hkt]
  · exact hb

/-- A factor of k that a factor in a sum has too: the least. -/
def gcdK (k : Nat) : T → Nat → Nat
  | .term c _ r, g => match Nat.gcd c.natAbs k with
    | x => gcdK k r (bif Nat.blt 1 x && (Nat.beq g 0 || Nat.blt x g) then x else g)
  | _, g => g

def divRest (rec : Rec) (r : T) (k : Nat) : T :=
  match gcdK k r 0 with
  | 0 => divAtom rec r k
  | g => bif Nat.beq (k % g) 0 && Nat.blt g k && Nat.blt 1 g then rec (.div (k / g)) (rec (.div g) r r) r else divAtom rec r k

theorem divRest_ev {e : Env} {rec : Rec} (hr : rec.ok e) (r : T) (k : Nat) (hk : 0 < k) : (divRest rec r k).ev e = r.ev e / (k : Int) := by
  unfold divRest
  split
  · exact divAtom_ev hr r k hk
  · generalize gcdK k r 0 = g
    cases hc : (Nat.beq (k % g) 0 && Nat.blt g k && Nat.blt 1 g) with
    | false => exact divAtom_ev hr r k hk
    | true =>
      simp only [Bool.and_eq_true] at hc
      have h0 := Nat.eq_of_beq_eq_true hc.1.1
      have h1 : 1 < g := by simpa [Nat.blt_eq] using hc.2
      have hkg : g * (k / g) = k := by have := Nat.mod_add_div k g; omega
      have hpos : 0 < k / g := Nat.pos_of_ne_zero (fun hz => by rw [hz] at hkg; simp at hkg; omega)
      simp only [cond_true]
      rw [hr (.div _) _ _ hpos, show ∀ a b, Rq.sem (.div (k / g)) a b = a / ((k / g : Nat) : Int) from fun _ _ => rfl, hr (.div g) _ _ (show 0 < g by omega), show ∀ a b, Rq.sem (.div g) a b = a / (g : Int) from fun _ _ => rfl, div_div, hkg]

def divStep (recF : RecF) (fs : Facts) (k : Nat) (p : T) : T :=
  match splitK (k : Int) p with
  | (q, r) => match piece fs k r with
    | some x => T.addc x q
    | none => match pickBit fs r p with
      | some a => shan recF fs (.div k) a p p
      | none => match bfGo (recF fs) fs (.div k) k p with
        | some y => y
        | none => bif leadNeg r then T.sub q (divRest (recF fs) (T.sub (.lit ((k : Int) - 1)) r) k) else T.add q (divRest (recF fs) r k)

theorem divStep_ev {e : Env} {recF : RecF} {fs : Facts} (hf : fs.ok e) (hrF : recF.ok e) (k : Nat) (hk : 0 < k) (p : T) : (divStep recF fs k p).ev e = p.ev e / (k : Int) := by
  have hr := hrF fs hf
  unfold divStep
  have hs := splitK_ev e (k : Int) p
  generalize splitK (k : Int) p = qr at *
  obtain ⟨q, r⟩ := qr
  simp only at hs ⊢
  have hq : p.ev e / (k : Int) = r.ev e / (k : Int) + q.ev e := by
    rw [hs, Int.add_comm, Int.add_mul_ediv_left _ _ (by omega)]
  split
  · rename_i x hx
    rw [hq, addc_ev, piece_ok hf hk hx]
  · split
    · rename_i a ha
      exact shan_ev hf hrF (rq := .div k) hk (pickBit_ok ha) p p
    · split
      · rename_i y hy
        exact bfGo_div hf hr hk hy
      · rw [hq]
        cases leadNeg r with
        | false => simp only [cond_false]; rw [add_ev, divRest_ev hr _ _ hk]; omega
        | true =>
          simp only [cond_true]
          rw [sub_ev, divRest_ev hr _ _ hk, sub_ev, ev_lit]
          have hx : (k : Int) - 1 - r.ev e = (k : Int) - 1 - r.ev e % (k : Int) + (k : Int) * (-(r.ev e / (k : Int))) := by
            have := Int.emod_add_mul_ediv (r.ev e) (k : Int)
            have : (k : Int) * (-(r.ev e / (k : Int))) = -((k : Int) * (r.ev e / (k : Int))) := Int.mul_neg _ _
            omega
          have g1 := Int.emod_nonneg (r.ev e) (b := (k : Int)) (by omega)
          have g2 := Int.emod_lt_of_pos (r.ev e) (b := (k : Int)) (by omega)
          rw [hx, Int.add_mul_ediv_left _ _ (by omega), Int.ediv_eq_zero_of_lt (by omega) (by omega)]
          omega

/-! ## The rest -/

/-- The rest that is nearest to 0. -/
def near (c k : Int) : Int := match c % k with
  | d => if 2 * d ≤ k then d else d - k

theorem near_eq (c k : Int) : ∃ y, c = near c k + k * y := by
  unfold near
  simp only
  have := Int.emod_add_mul_ediv c k
  split
  · exact ⟨c / k, this.symm⟩
  · refine ⟨c / k + 1, ?_⟩
    rw [Int.mul_add, Int.mul_one]; omega

/-- The factors reduced; rests of rests taken away. -/
def reduceK (k : Int) : T → T
  | .lit n => .lit (n % k)
  | .term c m r => match m with
    | .prod (.op .mod a _ (j + 1)) .one => bif icmp (c * ((j + 1 : Nat) : Int) % k) 0 == 1 then (match near c k with | .ofNat 0 => reduceK k r | d => T.add (T.scale d a) (reduceK k r)) else (match near c k with | .ofNat 0 => reduceK k r | d => addTerm d m (reduceK k r))
    | _ => match near c k with
      | .ofNat 0 => reduceK k r
      | d => addTerm d m (reduceK k r)
  | t => t

theorem mod_same {a b k : Int} (h : ∃ t, a = b + k * t) : a % k = b % k := by
  obtain ⟨t, rfl⟩ := h
  exact Int.add_mul_emod_self_left b k t

theorem reduceK_ev (e : Env) (k : Int) : ∀ t : T, ∃ x, (reduceK k t).ev e = t.ev e + k * x := by
  intro t
  induction t with
  | lit n => exact ⟨-(n / k), by simp only [reduceK, ev_lit]; have := Int.emod_add_mul_ediv n k; rw [Int.mul_neg]; omega⟩
  | term c m r ihm ihr =>
    obtain ⟨x, hx⟩ := ihr
    have hc : ∃ y, c = near c k + k * y := near_eq c k
    obtain ⟨y, hy⟩ := hc
    have hz : ∃ z, (match near c k with | .ofNat 0 => reduceK k r | d => addTerm d m (reduceK k r)).ev e = (T.term c m r).ev e + k * z := by
      refine ⟨x - y * m.ev e, ?_⟩
      rw [Int.mul_sub, ev_term]
      have h2 : c * m.ev e = near c k * m.ev e + k * (y * m.ev e) := by
        rw [← Int.mul_assoc, ← Int.add_mul, ← hy]
      split
      · rename_i h
        have h0 : near c k = 0 := h
        rw [h0] at h2
        rw [hx]; omega
      · rw [addTerm_ev, hx]; omega
    simp only [reduceK]
    split
    · rename_i a b j
      cases hcase : (icmp (c * ((j + 1 : Nat) : Int) % k) 0 == 1) with
      | false => exact hz
      | true =>
        simp only [cond_true]
        have h0 : c * ((j + 1 : Nat) : Int) % k = 0 := icmp_eq (by simpa using hcase)
        obtain ⟨u, hu⟩ : ∃ u, c * ((j + 1 : Nat) : Int) = k * u := ⟨c * ((j + 1 : Nat) : Int) / k, by have := Int.emod_add_mul_ediv (c * ((j + 1 : Nat) : Int)) k; rw [h0] at this; omega⟩
        refine ⟨x - y * a.ev e + u * (a.ev e / ((j + 1 : Nat) : Int)), ?_⟩
        have hm : (match near c k with | .ofNat 0 => reduceK k r | d => T.add (T.scale d a) (reduceK k r)).ev e = near c k * a.ev e + (reduceK k r).ev e := by
          split
          · rename_i h
            have h0 : near c k = 0 := h
            rw [h0]; simp
          · rw [add_ev, scale_ev]
        rw [hm, hx, ev_term, ev_prod, ev_mod, ev_one, Int.mul_one, Int.mul_add, Int.mul_sub]
        have h1 := Int.emod_add_mul_ediv (a.ev e) ((j + 1 : Nat) : Int)
        generalize a.ev e % ((j + 1 : Nat) : Int) = p at *
        generalize a.ev e / ((j + 1 : Nat) : Int) = q at *
        have h2 : c * a.ev e = near c k * a.ev e + k * (y * a.ev e) := by rw [← Int.mul_assoc, ← Int.add_mul, ← hy]
        have h3 : c * a.ev e = c * p + k * (u * q) := by rw [← h1, Int.mul_add, ← Int.mul_assoc, hu, Int.mul_assoc]
        omega
    · exact hz
  | one => exact ⟨0, by simp [reduceK]⟩
  | prod a m => exact ⟨0, by simp [reduceK]⟩
  | var i lo hi => exact ⟨0, by simp [reduceK]⟩
  | op o a b j => exact ⟨0, by simp [reduceK]⟩


def modAtom (rec : Rec) (fs : Facts) (r : T) (k : Nat) : T :=
  match asAtom r with
  | some (.op .band a b _) => bif pow2 k && nonneg fs a && nonneg fs b then rec .band (rec (.mod k) a a) (rec (.mod k) b b) else T.atom (.op .mod r (.lit 0) k)
  | some (.op .bxor a b _) => bif pow2 k && nonneg fs a && nonneg fs b then rec .bxor (rec (.mod k) a a) (rec (.mod k) b b) else T.atom (.op .mod r (.lit 0) k)
  | _ => T.atom (.op .mod r (.lit 0) k)

theorem modAtom_ev {e : Env} {rec : Rec} {fs : Facts} (hf : fs.ok e) (hr : rec.ok e) (r : T) (k : Nat) (hk : 0 < k) : (modAtom rec fs r k).ev e = r.ev e % (k : Int) := by
  have hb : (T.atom (.op .mod r (.lit 0) k)).ev e = r.ev e % (k : Int) := by rw [atom_ev, ev_mod]
  unfold modAtom
  split
  · rename_i a b j h
    cases hp : (pow2 k && nonneg fs a && nonneg fs b) with
    | false => exact hb
    | true =>
      simp only [Bool.and_eq_true] at hp
      obtain ⟨⟨hp, ha⟩, hb'⟩ := hp
      obtain ⟨s, rfl⟩ := pow2_eq hp
      simp only [cond_true]
      rw [hr .band _ _ trivial, hr (.mod _) _ _ hk, hr (.mod _) _ _ hk, asAtom_ev e h, ev_band]
      simp only [Rq.sem]
      rw [Int.toNat_emod (nonneg_ok hf ha) (by omega), Int.toNat_emod (nonneg_ok hf hb') (by omega), Int.toNat_natCast, ← Nat.and_mod_two_pow]; rfl
  · rename_i a b j h
    cases hp : (pow2 k && nonneg fs a && nonneg fs b) with
    | false => exact hb
    | true =>
      simp only [Bool.and_eq_true] at hp
      obtain ⟨⟨hp, ha⟩, hb'⟩ := hp
      obtain ⟨s, rfl⟩ := pow2_eq hp
      simp only [cond_true]
      rw [hr .bxor _ _ trivial, hr (.mod _) _ _ hk, hr (.mod _) _ _ hk, asAtom_ev e h, ev_bxor]
      simp only [Rq.sem]
      rw [Int.toNat_emod (nonneg_ok hf ha) (by omega), Int.toNat_emod (nonneg_ok hf hb') (by omega), Int.toNat_natCast, ← Nat.xor_mod_two_pow]; rfl
  · exact hb

/-- A rest of something that is one of two numbers, of which the greater is a multiple. -/
def mod2 (fs : Facts) (k : Nat) (r : T) : Option T := match rng fs r with
  | some (x, y) => bif icmp y (x + 1) == 1 && icmp (y % (k : Int)) 0 == 1 then some (T.scale ((k : Int) - 1) (T.sub (.lit y) r)) else none
  | none => none

theorem mod2_ok {e : Env} {fs : Facts} (hf : fs.ok e) {k : Nat} (hk : 0 < k) {r u : T} (h : mod2 fs k r = some u) : u.ev e = r.ev e % (k : Int) := by
  unfold mod2 at h
  split at h
  · rename_i x y hr
    have hb := rng_ok hf _ _ _ hr
    cases hc : (icmp y (x + 1) == 1 && icmp (y % (k : Int)) 0 == 1) with
    | false => rw [hc] at h; cases h
    | true =>
      rw [hc] at h; cases h
      simp only [Bool.and_eq_true, beq_iff_eq] at hc
      have h1 := icmp_eq hc.1
      have h2 := icmp_eq hc.2
      have h3 := Int.emod_add_mul_ediv y (k : Int)
      rw [h2] at h3
      rw [scale_ev, sub_ev, ev_lit]
      have : r.ev e = y ∨ r.ev e = y - 1 := by omega
      rcases this with hy | hy <;> rw [hy]
      · rw [h2]; simp
      · have : y - 1 = (k : Int) - 1 + (k : Int) * (y / (k : Int) - 1) := by rw [Int.mul_sub]; omega
        rw [show y - (y - 1) = 1 by omega, Int.mul_one, this, Int.add_mul_emod_self_left, Int.emod_eq_of_lt (by omega) (by omega)]
  · cases h

/-- A factor that all have, the divisor too. -/
def modGcd (rec : Rec) (k : Nat) (r : T) : Option T :=
  match Nat.gcd (T.lead r 0) k with
  | g => bif Nat.blt 1 g && Nat.blt g k then (match splitK (g : Int) r with
    | (q, .lit (.ofNat m)) => bif Nat.blt m g then some (T.addc (m : Int) (T.scale (g : Int) (rec (.mod (k / g)) q q))) else none
    | _ => none) else none

theorem mod_split {g t : Nat} {q : Int} {m : Nat} (hg : m < g) (ht : 0 < t) : ((g : Int) * q + (m : Int)) % ((g : Int) * (t : Int)) = (g : Int) * (q % (t : Int)) + (m : Int) := by
  have h1 : (g : Int) * q + (m : Int) = ((g : Int) * (q % (t : Int)) + (m : Int)) + (g : Int) * (t : Int) * (q / (t : Int)) := by
    have := Int.emod_add_mul_ediv q (t : Int)
    have h2 : (g : Int) * q = (g : Int) * (q % (t : Int)) + (g : Int) * (t : Int) * (q / (t : Int)) := by
      rw [Int.mul_assoc, ← Int.mul_add, this]
    omega
  rw [h1, Int.add_mul_emod_self_left]
  have h0 : 0 ≤ q % (t : Int) := Int.emod_nonneg _ (by omega)
  have hlt : q % (t : Int) < (t : Int) := Int.emod_lt_of_pos _ (by omega)
  have h3 : (0 : Int) ≤ (g : Int) * (q % (t : Int)) := Int.mul_nonneg (by omega) h0
  have h4 : (g : Int) * (q % (t : Int)) ≤ (g : Int) * ((t : Int) - 1) := Int.mul_le_mul_of_nonneg_left (by omega) (by omega)
  rw [Int.mul_sub, Int.mul_one] at h4
  exact Int.emod_eq_of_lt (by omega) (by omega)

theorem modGcd_ok {e : Env} {rec : Rec} (hr : rec.ok e) {k : Nat} {r u : T} (h : modGcd rec k r = some u) : u.ev e = r.ev e % (k : Int) := by
  unfold modGcd at h
  have hd : Nat.gcd (T.lead r 0) k ∣ k := Nat.gcd_dvd_right _ _
  generalize Nat.gcd (T.lead r 0) k = g at *
  simp only at h
  cases hc : (Nat.blt 1 g && Nat.blt g k) with
  | false => rw [hc] at h; cases h
  | true =>
    rw [hc] at h; simp only [cond_true] at h
    simp only [Bool.and_eq_true, Nat.blt_eq] at hc
    have hs := splitK_ev e (g : Int) r
    split at h
    · rename_i q m hq
      rw [hq] at hs
      cases hm : (Nat.blt m g) with
      | false => rw [hm] at h; cases h
      | true =>
        rw [hm] at h; cases h
        have hmg : m < g := by simpa [Nat.blt_eq] using hm
        simp only [ev_lit] at hs
        obtain ⟨t, rfl⟩ := hd
        have ht : 0 < t := Nat.pos_of_ne_zero (fun hz => by subst hz; simp at hc)
        have hdiv : g * t / g = t := Nat.mul_div_cancel_left t (by omega)
        rw [addc_ev, scale_ev, hdiv, hr (.mod t) _ _ ht, hs]
        simp only [Rq.sem]
        rw [Int.natCast_mul]
        have := mod_split (q := q.ev e) hmg ht
        simp only [Int.ofNat_eq_natCast]
        omega
    · cases h

/-- The factors reduced: those only that are too large. -/
def trimK (k : Int) : T → T
  | .term c m r => bif icmp (c % k) 0 == 1 then trimK k r else if -k < c ∧ c < k then addTerm c m (trimK k r) else addTerm (near c k) m (trimK k r)
  | t => t

theorem trimK_ev (e : Env) (k : Int) : ∀ t : T, ∃ x, (trimK k t).ev e = t.ev e + k * x := by
  intro t
  induction t with
  | term c m r ihm ihr =>
    obtain ⟨x, hx⟩ := ihr
    simp only [trimK]
    cases h : (icmp (c % k) 0 == 1) with
    | true =>
      have h0 : c % k = 0 := icmp_eq (by simpa using h)
      have h1 := Int.emod_add_mul_ediv c k
      rw [h0] at h1
      refine ⟨x - c / k * m.ev e, ?_⟩
      simp only [cond_true]
      have h2 : c * m.ev e = k * (c / k * m.ev e) := by rw [← Int.mul_assoc, show k * (c / k) = c by omega]
      rw [hx, ev_term, Int.mul_sub]; omega
    | false =>
      simp only [cond_false]
      split
      · exact ⟨x, by rw [addTerm_ev, hx, ev_term]; omega⟩
      · obtain ⟨y, hy⟩ := near_eq c k
        refine ⟨x - y * m.ev e, ?_⟩
        have h2 : c * m.ev e = near c k * m.ev e + k * (y * m.ev e) := by rw [← Int.mul_assoc, ← Int.add_mul, ← hy]
        rw [addTerm_ev, hx, ev_term, Int.mul_sub]; omega
  | _ => exact ⟨0, by simp [trimK]⟩

def modStep (recF : RecF) (fs : Facts) (k : Nat) (p : T) : T :=
  match piece fs k p with
  | some x => T.addc (-((k : Int) * x)) p
  | none => match trimK (k : Int) p with
    | r0 => match piece fs k r0 with
      | some x => T.addc (-((k : Int) * x)) r0
      | none => match reduceK (k : Int) (reduceK (k : Int) (reduceK (k : Int) p)) with
        | r => match piece fs k r with
          | some x => T.addc (-((k : Int) * x)) r
          | none => match pickBit fs r0 p with
            | some a => shan recF fs (.mod k) a p p
            | none => match mod2 fs k r with
              | some y => y
              | none => match modGcd (recF fs) k r with
                | some y => y
                | none => match bfGo (recF fs) fs (.mod k) k p with
                  | some y => y
                  | none => modAtom (recF fs) fs r k

theorem piece_mod {e : Env} {fs : Facts} (hf : fs.ok e) {t : T} {k : Nat} {q : Int} (hk : 0 < k) (h : piece fs k t = some q) : -((k : Int) * q) + t.ev e = t.ev e % (k : Int) := by
  have h1 := piece_ok hf hk h
  have h2 := Int.emod_add_mul_ediv (t.ev e) (k : Int)
  rw [h1] at h2; omega

theorem modStep_ev {e : Env} {recF : RecF} {fs : Facts} (hf : fs.ok e) (hrF : recF.ok e) (k : Nat) (hk : 0 < k) (p : T) : (modStep recF fs k p).ev e = p.ev e % (k : Int) := by
  have hr := hrF fs hf
  unfold modStep
  split
  · rename_i x hx
    rw [addc_ev, piece_mod hf hk hx]
  · have hred : (reduceK (k : Int) (reduceK (k : Int) (reduceK (k : Int) p))).ev e % (k : Int) = p.ev e % (k : Int) :=
      (mod_same (reduceK_ev e (k : Int) _)).trans ((mod_same (reduceK_ev e (k : Int) _)).trans (mod_same (reduceK_ev e (k : Int) p)))
    have htrim : (trimK (k : Int) p).ev e % (k : Int) = p.ev e % (k : Int) := mod_same (trimK_ev e (k : Int) p)
    simp only
    split
    · rename_i x hx
      rw [addc_ev, piece_mod hf hk hx, htrim]
    · split
      · rename_i x hx
        rw [addc_ev, piece_mod hf hk hx, hred]
      · split
        · rename_i a ha
          exact shan_ev hf hrF (rq := .mod k) hk (pickBit_ok ha) p p
        · split
          · rename_i y hy
            rw [mod2_ok hf hk hy, hred]
          · split
            · rename_i y hy
              rw [modGcd_ok hr hy, hred]
            · split
              · rename_i y hy
                exact bfGo_mod hf hr hk hy
              · rw [modAtom_ev hf hr _ _ hk, hred]

/-! ## And, exclusive or -/

/-- The bits of p where m has them. -/
def mask (rec : Rec) : Nat → T → Nat → T
  | 0, p, m => T.atom (.op .band p (.lit m) 0)
  | n + 1, p, m => bif Nat.beq m 0 then .lit 0 else
    match Nat.log2 (m ^^^ (m + 1)) with
    | 0 => match Nat.log2 (m ^^^ (m - 1)) with
      | z => bif Nat.beq (m % 2 ^ z) 0 then T.scale ((2 ^ z : Nat) : Int) (mask rec n (rec (.div (2 ^ z)) p p) (m / 2 ^ z)) else T.atom (.op .band p (.lit m) 0)
    | w => bif Nat.beq (m % 2 ^ w) (2 ^ w - 1) then T.add (rec (.mod (2 ^ w)) p p) (T.scale ((2 ^ w : Nat) : Int) (mask rec n (rec (.div (2 ^ w)) p p) (m / 2 ^ w))) else T.atom (.op .band p (.lit m) 0)

theorem mask_ev {e : Env} {rec : Rec} (hr : rec.ok e) : ∀ (n : Nat) (p : T) (m : Nat), 0 ≤ p.ev e → (mask rec n p m).ev e = (((p.ev e).toNat &&& m : Nat) : Int) := by
  intro n
  induction n with
  | zero => intro p m _; simp [mask, atom_ev, ev_band, ev_lit]
  | succ n ih =>
    intro p m hp
    have hb : (T.atom (.op .band p (.lit m) 0)).ev e = (((p.ev e).toNat &&& m : Nat) : Int) := by simp [atom_ev, ev_band, ev_lit]
    simp only [mask]
    cases h0 : Nat.beq m 0 with
    | true => simp [Nat.eq_of_beq_eq_true h0, ev_lit]
    | false =>
      simp only [cond_false]
      split
      · generalize Nat.log2 (m ^^^ (m - 1)) = z
        cases hz : Nat.beq (m % 2 ^ z) 0 with
        | false => exact hb
        | true =>
          have hpos : 0 < 2 ^ z := Nat.pow_pos (by omega)
          simp only [cond_true]
          have hd : (rec (.div (2 ^ z)) p p).ev e = p.ev e / ((2 ^ z : Nat) : Int) := hr (.div (2 ^ z)) p p hpos
          rw [scale_ev, ih _ _ (by rw [hd]; exact Int.ediv_nonneg hp (by omega)), hd, toNat_div, and_skip _ m z (Nat.eq_of_beq_eq_true hz), Int.natCast_mul]
      · generalize Nat.log2 (m ^^^ (m + 1)) = w
        cases hw : Nat.beq (m % 2 ^ w) (2 ^ w - 1) with
        | false => exact hb
        | true =>
          have hpos : 0 < 2 ^ w := Nat.pow_pos (by omega)
          simp only [cond_true]
          have hd : (rec (.div (2 ^ w)) p p).ev e = p.ev e / ((2 ^ w : Nat) : Int) := hr (.div (2 ^ w)) p p hpos
          have hm : (rec (.mod (2 ^ w)) p p).ev e = p.ev e % ((2 ^ w : Nat) : Int) := hr (.mod (2 ^ w)) p p hpos
          rw [add_ev, scale_ev, ih _ _ (by rw [hd]; exact Int.ediv_nonneg hp (by omega)), hd, hm, toNat_div, and_step _ m w (Nat.eq_of_beq_eq_true hw), Int.natCast_add, Int.natCast_mul]
          have : ((p.ev e).toNat : Int) = p.ev e := Int.toNat_of_nonneg hp
          rw [Int.natCast_emod, this]

/-- Is p below a power of two of which q is a multiple? -/
def apart (fs : Facts) (p q : T) : Bool := match rng fs p with
  | some (.ofNat _, .ofNat y) => match splitK ((2 ^ (Nat.log2 y + 1) : Nat) : Int) q with
    | (_, .lit (.ofNat 0)) => nonneg fs q
    | _ => false
  | _ => false

theorem apart_ok {e : Env} {fs : Facts} (hf : fs.ok e) {p q : T} (h : apart fs p q = true) : 0 ≤ p.ev e ∧ 0 ≤ q.ev e ∧ (p.ev e).toNat &&& (q.ev e).toNat = 0 := by
  unfold apart at h
  split at h
  · rename_i x y hr
    have h1 := rng_ok hf p _ _ hr
    have hx : (0 : Int) ≤ Int.ofNat x := Int.natCast_nonneg x
    have h2 := lt_ones y
    split at h
    · rename_i u hs
      have hq := splitK_ev e ((2 ^ (Nat.log2 y + 1) : Nat) : Int) q
      rw [hs] at hq
      have hq0 := nonneg_ok hf h
      generalize Nat.log2 y + 1 = s at *
      have hpy : p.ev e ≤ (y : Int) := h1.2
      refine ⟨by omega, hq0, and_apart _ _ s (by omega) ?_⟩
      have h0 : (T.lit (.ofNat 0)).ev e = 0 := rfl
      simp only [h0, Int.add_zero] at hq
      have : q.ev e % ((2 ^ s : Nat) : Int) = 0 := by rw [hq]; exact Int.mul_emod_right ..
      have h3 := Int.toNat_emod hq0 (y := ((2 ^ s : Nat) : Int)) (by omega)
      rw [this, Int.toNat_natCast] at h3
      exact h3.symm
    · cases h
  · cases h

/-- Is p what is left of something without q's bits? -/
def freeOf (fs : Facts) (p q : T) : Bool := match bform p p with
  | some (.less a b) => T.same b q && nonneg fs a && nonneg fs b
  | _ => false

theorem freeOf_ok {e : Env} {fs : Facts} (hf : fs.ok e) {p q : T} (h : freeOf fs p q = true) : 0 ≤ p.ev e ∧ 0 ≤ q.ev e ∧ (p.ev e).toNat &&& (q.ev e).toNat = 0 := by
  unfold freeOf at h
  split at h
  · rename_i a b hb
    simp only [Bool.and_eq_true] at h
    have n1 := nonneg_ok hf h.1.2
    have n2 := nonneg_ok hf h.2
    have hp := bform_ok (e := e) hb n1 n2
    rw [← T.same_eq h.1.1, hp]
    simp only [BF.sem]
    refine ⟨by omega, n2, ?_⟩
    rw [Int.toNat_natCast]
    have key : (a.ev e).toNat - ((a.ev e).toNat &&& (b.ev e).toNat) = (a.ev e).toNat ^^^ ((a.ev e).toNat &&& (b.ev e).toNat) := by
      have h := xor_and (a.ev e).toNat ((a.ev e).toNat &&& (b.ev e).toNat)
      have h3 : (a.ev e).toNat &&& ((a.ev e).toNat &&& (b.ev e).toNat) = (a.ev e).toNat &&& (b.ev e).toNat := by rw [← Nat.and_assoc, Nat.and_self]
      rw [h3] at h
      have : (a.ev e).toNat &&& (b.ev e).toNat ≤ (a.ev e).toNat := Nat.and_le_left
      omega
    rw [key]
    refine Nat.eq_of_testBit_eq (fun i => ?_)
    simp only [Nat.testBit_xor, Nat.testBit_and, Nat.zero_testBit]
    cases (a.ev e).toNat.testBit i <;> cases (b.ev e).toNat.testBit i <;> rfl
  · cases h

/-- What two bitwise operands have in common, where it is to be told. -/
def common (rec : Rec) (fs : Facts) (p q : T) : Option T :=
  match p, q with
  | .lit (.ofNat a), .lit (.ofNat b) => some (.lit (.ofNat (a &&& b)))
  | p, .lit (.ofNat m) => bif nonneg fs p then some (mask rec 64 p m) else none
  | .lit (.ofNat m), q => bif nonneg fs q then some (mask rec 64 q m) else none
  | p, q => bif isBit fs p && isBit fs q then some (T.mul fs p q)
    else bif apart fs p q || apart fs q p then some (.lit 0)
    else bif T.same p q && nonneg fs p then some p
    else bif freeOf fs p q || freeOf fs q p then some (.lit 0)
    else none

theorem common_ok {e : Env} {rec : Rec} {fs : Facts} (hf : fs.ok e) (hr : rec.ok e) {p q r : T} (h : common rec fs p q = some r) :
    0 ≤ p.ev e ∧ 0 ≤ q.ev e ∧ r.ev e = (((p.ev e).toNat &&& (q.ev e).toNat : Nat) : Int) := by
  have hlit : ∀ n : Nat, (T.lit (.ofNat n)).ev e = (n : Int) := fun _ => rfl
  unfold common at h
  split at h
  · cases h
    simp only [hlit, Int.toNat_natCast]
    exact ⟨by omega, by omega, trivial⟩
  · rename_i m _
    cases hn : nonneg fs p with
    | false => rw [hn] at h; cases h
    | true =>
      rw [hn] at h; simp only [cond_true, Option.some.injEq] at h
      rw [← h, mask_ev hr _ _ _ (nonneg_ok hf hn)]
      simp only [hlit, Int.toNat_natCast]
      exact ⟨nonneg_ok hf hn, by omega, trivial⟩
  · rename_i m _
    cases hn : nonneg fs q with
    | false => rw [hn] at h; cases h
    | true =>
      rw [hn] at h; simp only [cond_true, Option.some.injEq] at h
      rw [← h, mask_ev hr _ _ _ (nonneg_ok hf hn)]
      simp only [hlit, Int.toNat_natCast]
      exact ⟨by omega, nonneg_ok hf hn, by rw [Nat.and_comm]⟩
  · cases hb : (isBit fs p && isBit fs q) with
    | true =>
      rw [hb] at h; simp only [cond_true, Option.some.injEq] at h
      simp only [Bool.and_eq_true] at hb
      rw [← h, mul_ev hf]
      rcases isBit_ok hf hb.1 with h1 | h1 <;> rcases isBit_ok hf hb.2 with h2 | h2 <;> rw [h1, h2] <;> decide
    | false =>
      rw [hb] at h; simp only [cond_false] at h
      cases ha : (apart fs p q || apart fs q p) with
      | true =>
        rw [ha] at h; simp only [cond_true, Option.some.injEq] at h
        rw [← h, ev_lit]
        simp only [Bool.or_eq_true] at ha
        rcases ha with ha | ha
        · have := apart_ok hf ha; exact ⟨this.1, this.2.1, by rw [this.2.2]; rfl⟩
        · have := apart_ok hf ha; exact ⟨this.2.1, this.1, by rw [Nat.and_comm, this.2.2]; rfl⟩
      | false =>
        rw [ha] at h; simp only [cond_false] at h
        cases hs : (T.same p q && nonneg fs p) with
        | false =>
          rw [hs] at h; simp only [cond_false] at h
          cases hfr : (freeOf fs p q || freeOf fs q p) with
          | false => rw [hfr] at h; cases h
          | true =>
            rw [hfr] at h; simp only [cond_true, Option.some.injEq] at h
            rw [← h, ev_lit]
            simp only [Bool.or_eq_true] at hfr
            rcases hfr with ha | ha
            · have := freeOf_ok hf ha; exact ⟨this.1, this.2.1, by rw [this.2.2]; rfl⟩
            · have := freeOf_ok hf ha; exact ⟨this.2.1, this.1, by rw [Nat.and_comm, this.2.2]; rfl⟩
        | true =>
          rw [hs] at h; simp only [cond_true, Option.some.injEq] at h
          simp only [Bool.and_eq_true] at hs
          have hn := nonneg_ok hf hs.2
          rw [← T.same_eq hs.1, ← h, Nat.and_self]
          exact ⟨hn, hn, by omega⟩

/-- q as all ones less something, all ones reaching as far as p: what p has in common with that something is taken away. -/
def lessOnes (rec : Rec) (fs : Facts) (p q : T) : Option T :=
  bif leadNeg q then
    match rng fs p, rng fs q with
    | some (.ofNat _, .ofNat y), some (.ofNat _, .ofNat v) =>
      match T.sub (.lit ((ones (max y v) : Nat) : Int)) q with
      | q' => match T.sub p (rec .band p q') with
        | r => bif nonneg fs r then some r else none
    | _, _ => none
  else none

theorem and_compl (x q n : Nat) (hx : x < 2 ^ n) (hq : q < 2 ^ n) : x &&& (2 ^ n - 1 - q) = x - (x &&& q) ∧ x &&& q ≤ x := by
  refine ⟨?_, Nat.and_le_left⟩
  have h0 : 2 ^ n - 1 - q = (2 ^ n - 1) ^^^ q := by
    have := (xor_and (2 ^ n - 1) q).1
    have h1 : (2 ^ n - 1) &&& q = q := by rw [Nat.and_comm, Nat.and_two_pow_sub_one_eq_mod, Nat.mod_eq_of_lt hq]
    rw [h1] at this
    omega
  have h2 : x &&& (2 ^ n - 1 - q) = x ^^^ (x &&& q) := by
    rw [h0]
    refine Nat.eq_of_testBit_eq (fun i => ?_)
    simp only [Nat.testBit_and, Nat.testBit_xor, Nat.testBit_two_pow_sub_one]
    by_cases hi : i < n
    · simp [hi]; cases x.testBit i <;> simp
    · have : x.testBit i = false := Nat.testBit_lt_two_pow (Nat.lt_of_lt_of_le hx (Nat.pow_le_pow_right (by omega) (by omega)))
      simp [this]
  rw [h2, (xor_and x (x &&& q)).1]
  have h3 : x &&& (x &&& q) = x &&& q := by rw [← Nat.and_assoc, Nat.and_self]
  rw [h3]
  have : x &&& q ≤ x := Nat.and_le_left
  omega

theorem lessOnes_ok {e : Env} {rec : Rec} {fs : Facts} (hf : fs.ok e) (hr : rec.ok e) {p q r : T} (h : lessOnes rec fs p q = some r) :
    0 ≤ p.ev e ∧ 0 ≤ q.ev e ∧ r.ev e = (((p.ev e).toNat &&& (q.ev e).toNat : Nat) : Int) := by
  unfold lessOnes at h
  cases hl : leadNeg q with
  | false => rw [hl] at h; cases h
  | true =>
    rw [hl] at h; simp only [cond_true] at h
    split at h
    · rename_i x y u v hp hq
      cases hnn : nonneg fs (T.sub p (rec .band p (T.sub (.lit ((ones (max y v) : Nat) : Int)) q))) with
      | false => rw [hnn] at h; cases h
      | true =>
      rw [hnn] at h
      cases h
      have h1 := rng_ok hf p _ _ hp
      have h2 := rng_ok hf q _ _ hq
      have hx : (0 : Int) ≤ Int.ofNat x := Int.natCast_nonneg x
      have hu : (0 : Int) ≤ Int.ofNat u := Int.natCast_nonneg u
      have h1' : p.ev e ≤ (y : Int) := h1.2
      have h2' : q.ev e ≤ (v : Int) := h2.2
      have hlt := lt_ones (max y v)
      rw [sub_ev, hr .band _ _ trivial, sub_ev, ev_lit]
      simp only [Rq.sem]
      unfold ones
      generalize Nat.log2 (max y v) + 1 = n at *
      have hc := and_compl (p.ev e).toNat (2 ^ n - 1 - (q.ev e).toNat) n (by omega) (by omega)
      have e1 : 2 ^ n - 1 - (2 ^ n - 1 - (q.ev e).toNat) = (q.ev e).toNat := by omega
      rw [e1] at hc
      have e2 : (((2 ^ n - 1 : Nat) : Int) - q.ev e).toNat = 2 ^ n - 1 - (q.ev e).toNat := by omega
      rw [e2, hc.1]
      refine ⟨by omega, by omega, ?_⟩
      have := hc.2
      omega
    · cases h

/-- What two bitwise operands have in common. -/
def common2 (rec : Rec) (fs : Facts) (p q : T) : Option T :=
  match common rec fs p q with
  | some r => some r
  | none => match lessOnes rec fs p q with
    | some r => some r
    | none => lessOnes rec fs q p

theorem common2_ok {e : Env} {rec : Rec} {fs : Facts} (hf : fs.ok e) (hr : rec.ok e) {p q r : T} (h : common2 rec fs p q = some r) :
    0 ≤ p.ev e ∧ 0 ≤ q.ev e ∧ r.ev e = (((p.ev e).toNat &&& (q.ev e).toNat : Nat) : Int) := by
  unfold common2 at h
  split at h
  · rename_i r' h'; cases h; exact common_ok hf hr h'
  · split at h
    · rename_i r' h'; cases h; exact lessOnes_ok hf hr h'
    · have := lessOnes_ok hf hr h
      rw [Nat.and_comm]; exact ⟨this.2.1, this.1, this.2.2⟩

/-- A bit by which a bitwise operation is parted. -/
def pickB (fs : Facts) (p q : T) : Option T := match pickBit fs p p with
  | some a => some a
  | none => pickBit fs q q

def bitStep (recF : RecF) (fs : Facts) (rq : Rq) (p q : T) : T :=
  match rq with
  | .div k => divStep recF fs k p
  | .mod k => modStep recF fs k p
  | .band => match common2 (recF fs) fs p q with
    | some r => r
    | none => match pickB fs p q with
      | some a => shan recF fs .band a p q
      | none => rq.atom p q
  | .bxor => match common (recF fs) fs p q with
    | some r => T.add p (T.sub q (T.scale 2 r))
    | none => match pickB fs p q with
      | some a => shan recF fs .bxor a p q
      | none => rq.atom p q

theorem pickB_ok {fs : Facts} {p q a : T} (h : pickB fs p q = some a) : isBit fs a = true := by
  unfold pickB at h
  split at h
  · rename_i b hb; cases h; exact pickBit_ok hb
  · exact pickBit_ok h

theorem bitStep_ev {e : Env} {recF : RecF} {fs : Facts} (hf : fs.ok e) (hrF : recF.ok e) : Rec.ok e (bitStep recF fs) := by
  intro rq p q hp
  have hr := hrF fs hf
  cases rq with
  | div k => exact divStep_ev hf hrF k hp p
  | mod k => exact modStep_ev hf hrF k hp p
  | band =>
    simp only [bitStep]
    split
    · rename_i r h; exact (common2_ok hf hr h).2.2
    · split
      · rename_i a ha; exact shan_ev hf hrF (rq := .band) trivial (pickB_ok ha) p q
      · exact Rq.atom_ev e _ p q
  | bxor =>
    simp only [bitStep]
    split
    · rename_i r h
      obtain ⟨h1, h2, h3⟩ := common_ok hf hr h
      rw [add_ev, sub_ev, scale_ev, h3]
      simp only [Rq.sem]
      have := xor_and (p.ev e).toNat (q.ev e).toNat
      omega
    · split
      · rename_i a ha; exact shan_ev hf hrF (rq := .bxor) trivial (pickB_ok ha) p q
      · exact Rq.atom_ev e _ p q

/-- n rounds deep. -/
def bits : Nat → Facts → Rq → T → T → T
  | 0, _, rq, p, q => rq.atom p q
  | n + 1, fs, rq, p, q => bitStep (fun fs' => bits n fs') fs rq p q

theorem bits_ev {e : Env} : ∀ (n : Nat) {fs : Facts}, fs.ok e → Rec.ok e (bits n fs) := by
  intro n
  induction n with
  | zero => intro fs _ rq p q _; exact Rq.atom_ev e rq p q
  | succ n ih => intro fs hf; exact bitStep_ev hf (fun fs' hf' => ih hf')

/-- How deep. -/
abbrev deep : Nat := 12

def T.div (fs : Facts) (k : Nat) (p : T) : T := bits deep fs (.div k) p p
def T.mod (fs : Facts) (k : Nat) (p : T) : T := bits deep fs (.mod k) p p
def T.band (fs : Facts) (p q : T) : T := bits deep fs .band p q
def T.bxor (fs : Facts) (p q : T) : T := bits deep fs .bxor p q

theorem div_ev {e : Env} {fs : Facts} (hf : fs.ok e) {k : Nat} (hk : 0 < k) (p : T) : (T.div fs k p).ev e = p.ev e / (k : Int) := bits_ev deep hf (.div k) p p hk
theorem mod_ev {e : Env} {fs : Facts} (hf : fs.ok e) {k : Nat} (hk : 0 < k) (p : T) : (T.mod fs k p).ev e = p.ev e % (k : Int) := bits_ev deep hf (.mod k) p p hk
theorem band_ev {e : Env} {fs : Facts} (hf : fs.ok e) (p q : T) : (T.band fs p q).ev e = (((p.ev e).toNat &&& (q.ev e).toNat : Nat) : Int) := bits_ev deep hf .band p q trivial
theorem bxor_ev {e : Env} {fs : Facts} (hf : fs.ok e) (p q : T) : (T.bxor fs p q).ev e = (((p.ev e).toNat ^^^ (q.ev e).toNat : Nat) : Int) := bits_ev deep hf .bxor p q trivial

end Go.Sx

/- The whole-number operations of the model, on terms. -/
import Derived.Test.YtnhphhlojkhlcaaGreatDoorGxState
import Derived.Laws.Sem
namespace Go.Sx
open Go

/-- How many numbers a kind has; the least one, the greatest one. -/
def kmod (k : IntKind) : Nat := 2 ^ k.bits
def khalf (k : IntKind) : Nat := 2 ^ (k.bits - 1)
def klo (k : IntKind) : Int := bif k.signed then -((khalf k : Nat) : Int) else 0
def khi (k : IntKind) : Int := bif k.signed then ((khalf k - 1 : Nat) : Int) else ((kmod k - 1 : Nat) : Int)

theorem wrap_def (k : IntKind) (n : Int) : k.wrap n = if k.signed = true ∧ (khalf k : Int) ≤ n % (kmod k : Int) then n % (kmod k : Int) - (kmod k : Int) else n % (kmod k : Int) := by
  cases k <;> simp [IntKind.wrap, IntKind.signed, IntKind.bits, khalf, kmod]

theorem wrap_id {k : IntKind} {n : Int} (h1 : klo k ≤ n) (h2 : n ≤ khi k) : k.wrap n = n := by
  cases k <;> simp only [IntKind.wrap, IntKind.signed, IntKind.bits, klo, khi, khalf, kmod, cond_true, cond_false] at h1 h2 ⊢ <;> simp at h1 h2 ⊢ <;> omega

/-- 1 where p is at least n. -/
def T.ge (fs : Facts) (p : T) (n : Int) : T := T.not1 (T.le0 fs (T.addc (1 - n) p))
theorem ge_ev {e : Env} {fs : Facts} (hf : fs.ok e) (p : T) (n : Int) : (T.ge fs p n).ev e = if n ≤ p.ev e then 1 else 0 := by
  unfold T.ge
  rw [not1_ev, le0_ev hf, addc_ev]
  split <;> split <;> omega

/-- A term brought into a kind. -/
def wrapT (fs : Facts) (k : IntKind) (p : T) : T :=
  bif within fs (klo k) (khi k) p then p
  else match T.mod fs (kmod k) p with
    | q => bif k.signed then T.sub q (T.scale ((kmod k : Nat) : Int) (T.ge fs q ((khalf k : Nat) : Int))) else q

theorem kmod_pos (k : IntKind) : 0 < kmod k := Nat.pow_pos (by omega)

theorem wrapT_ev {e : Env} {fs : Facts} (hf : fs.ok e) (k : IntKind) (p : T) : (wrapT fs k p).ev e = k.wrap (p.ev e) := by
  unfold wrapT
  cases hw : within fs (klo k) (khi k) p with
  | true =>
    have := within_ok hf hw
    simp only [cond_true]
    rw [wrap_id this.1 this.2]
  | false =>
    simp only [cond_false]
    rw [wrap_def]
    cases hs : k.signed with
    | false =>
      simp only [cond_false]
      rw [mod_ev hf (kmod_pos k)]; simp
    | true =>
      simp only [cond_true]
      rw [sub_ev, scale_ev, ge_ev hf, mod_ev hf (kmod_pos k)]
      simp only [true_and]
      split <;> omega

/-! ## Binary operations -/

def litNat (fs : Facts) (q : T) : Option Nat := match litOf fs q with
  | some (.ofNat n) => some n
  | _ => none

theorem litNat_ok {e : Env} {fs : Facts} (hf : fs.ok e) {q : T} {n : Nat} (h : litNat fs q = some n) : q.ev e = (n : Int) := by
  unfold litNat at h
  split at h
  · rename_i m hm; cases h; exact litOf_ok hf hm
  · cases h

/-- 2 to the q. -/
def T.pow (q : T) : T := T.atom (.op .pow q (.lit 0) 0)

def addS (fs : Facts) (k : IntKind) (p q : T) : T := wrapT fs k (T.add p q)

/-- p without q's bits. -/
def lessT (fs : Facts) (p q : T) : T :=
  match q with
  | .lit (.ofNat m) => match rng fs p with
    | some (.ofNat _, .ofNat y) => T.band fs p (.lit ((ones (max y m) - m : Nat) : Int))
    | _ => T.sub p (T.band fs p q)
  | q => T.sub p (T.band fs p q)

/-- p's bits and q's. -/
def orT (fs : Facts) (p q : T) : T :=
  match q with
  | .lit n => T.addc n (lessT fs p (.lit n))
  | q => match p with
    | .lit n => T.addc n (lessT fs q (.lit n))
    | p => T.sub (T.add p q) (T.band fs p q)

theorem lessT_ev {e : Env} {fs : Facts} (hf : fs.ok e) {p q : T} (hp : 0 ≤ p.ev e) (hq : 0 ≤ q.ev e) : (lessT fs p q).ev e = p.ev e - (((p.ev e).toNat &&& (q.ev e).toNat : Nat) : Int) := by
  unfold lessT
  split
  · rename_i m
    split
    · rename_i x y hr
      have h1 := rng_ok hf _ _ _ hr
      have hy : p.ev e ≤ (y : Int) := h1.2
      have hlt := lt_ones (max y m)
      rw [band_ev hf, ev_lit]
      have hm : (T.lit (.ofNat m)).ev e = (m : Int) := rfl
      rw [hm, Int.toNat_natCast, Int.toNat_natCast]
      unfold ones
      generalize Nat.log2 (max y m) + 1 = n at *
      have hc := and_compl (p.ev e).toNat m n (by omega) (by omega)
      rw [hc.1]
      have := hc.2
      omega
    · rw [sub_ev, band_ev hf]
  · rw [sub_ev, band_ev hf]

theorem orT_ev {e : Env} {fs : Facts} (hf : fs.ok e) {p q : T} (hp : 0 ≤ p.ev e) (hq : 0 ≤ q.ev e) : (orT fs p q).ev e = p.ev e + q.ev e - (((p.ev e).toNat &&& (q.ev e).toNat : Nat) : Int) := by
  unfold orT
  split
  · rename_i n
    rw [addc_ev, lessT_ev hf hp hq, ev_lit]; omega
  · split
    · rename_i n _
      rw [addc_ev, lessT_ev hf hq hp, Nat.and_comm, ev_lit]; omega
    · rw [sub_ev, add_ev, band_ev hf]

/-- Is a sum of several products? -/
def severalT : T → Bool
  | .term _ _ (.term _ _ _) => true
  | _ => false
/-- Is a sum nought? What is known to be one number is put in first. -/
def eqSum (fs : Facts) (p : T) : T := bif severalT p then T.eq0 fs (substF fs p) else T.eq0 fs p
theorem eqSum_ev {e : Env} {fs : Facts} (hf : fs.ok e) (p : T) : (eqSum fs p).ev e = if p.ev e = 0 then 1 else 0 := by
  unfold eqSum
  cases severalT p with
  | true => rw [cond_true, eq0_ev hf, substF_ev hf]
  | false => rw [cond_false, eq0_ev hf]

/-- Numbers of one kind. -/
def intBin (fs : Facts) (op : BinOp) (k : IntKind) (p q : T) : Option SV :=
  match op with
  | .add => some (.int k (wrapT fs k (T.add p q)))
  | .sub => some (.int k (wrapT fs k (T.sub p q)))
  | .mul => some (.int k (wrapT fs k (T.mul fs p q)))
  | .and => bif within fs 0 (khi k) p && within fs 0 (khi k) q then some (.int k (T.band fs p q)) else none
  | .or => bif within fs 0 (khi k) p && within fs 0 (khi k) q then some (.int k (orT fs p q)) else none
  | .xor => bif within fs 0 (khi k) p && within fs 0 (khi k) q then some (.int k (T.bxor fs p q)) else none
  | .andNot => bif within fs 0 (khi k) p && within fs 0 (khi k) q then some (.int k (lessT fs p q)) else none
  | .quo => match litNat fs q with
    | some (n + 1) => bif within fs 0 (khi k) p then some (.int k (T.div fs (n + 1) p)) else none
    | some 0 => none
    | none => bif within fs 0 (khi k) p && within fs 1 (khi k) q then some (.int k (T.atom (.op .quo p q 0))) else none
  | .rem => match litNat fs q with
    | some (n + 1) => bif nonneg fs p then some (.int k (T.mod fs (n + 1) p)) else none
    | some 0 => none
    | none => bif nonneg fs p && within fs 1 (khi k) q then some (.int k (T.atom (.op .rem p q 0))) else none
  | .eql => some (.bool (eqSum fs (T.sub p q)))
  | .neq => some (.bool (T.not1 (eqSum fs (T.sub p q))))
  | .lss => some (.bool (T.not1 (T.le0 fs (T.sub q p))))
  | .leq => some (.bool (T.le0 fs (T.sub p q)))
  | .gtr => some (.bool (T.not1 (T.le0 fs (T.sub p q))))
  | .geq => some (.bool (T.le0 fs (T.sub q p)))
  | _ => none

/-- A shift. -/
def intShift (fs : Facts) (op : BinOp) (k : IntKind) (p q : T) : Option SV :=
  match op with
  | .shl => match litNat fs q with
    | some n => some (.int k (wrapT fs k (T.scale ((2 ^ min n k.bits : Nat) : Int) p)))
    | none => bif within fs 0 (k.bits : Int) q then some (.int k (wrapT fs k (T.mul fs p (T.pow q)))) else none
  | .shr => match litNat fs q with
    | some n => some (.int k (T.div fs (2 ^ min n k.bits) p))
    | none => none
  | _ => none

section
variable {e : Env} {M : Lay}

theorem bool_ok {c : T} {p : Prop} [Decidable p] (h : c.ev e = if p then 1 else 0) : VR e M (.bool c) (.bool (decide p)) := by
  refine .bool c _ ?_
  rw [h]
  by_cases hp : p
  · rw [if_pos hp, decide_eq_true hp]; rfl
  · rw [if_neg hp, decide_eq_false hp]; rfl

theorem khi_lt (k : IntKind) : khi k < (kmod k : Int) := by cases k <;> decide

theorem bv_toNat {k : IntKind} {n : Int} (h1 : 0 ≤ n) (h2 : n ≤ khi k) : (BitVec.ofInt k.bits n).toNat = n.toNat := by
  rw [BitVec.toNat_ofInt]
  have := khi_lt k
  unfold kmod at this
  rw [Int.emod_eq_of_lt h1 (by omega)]

theorem or_eq (a b : Nat) : a ||| b = a + b - (a &&& b) ∧ (a &&& b) ≤ a + b := by
  have h1 : a ||| b = (a ^^^ b) ||| (a &&& b) := by
    refine Nat.eq_of_testBit_eq (fun i => ?_)
    simp only [Nat.testBit_or, Nat.testBit_xor, Nat.testBit_and]
    cases a.testBit i <;> cases b.testBit i <;> rfl
  have h2 : (a ^^^ b) &&& (a &&& b) = 0 := by
    refine Nat.eq_of_testBit_eq (fun i => ?_)
    simp only [Nat.testBit_xor, Nat.testBit_and, Nat.zero_testBit]
    cases a.testBit i <;> cases b.testBit i <;> rfl
  have h3 : (a ||| b) = (a ^^^ b) + (a &&& b) := by
    have hx := xor_and (a ^^^ b) (a &&& b)
    rw [h2] at hx
    have h4 : (a ^^^ b) ^^^ (a &&& b) = a ||| b := by
      refine Nat.eq_of_testBit_eq (fun i => ?_)
      simp only [Nat.testBit_or, Nat.testBit_xor, Nat.testBit_and]
      cases a.testBit i <;> cases b.testBit i <;> rfl
    rw [h4] at hx; omega
  have h5 := xor_and a b
  have h6 : a &&& b ≤ a := Nat.and_le_left
  omega

theorem andNot_eq {n : Nat} (a b : BitVec n) : (a &&& ~~~b).toNat = a.toNat - (a.toNat &&& b.toNat) ∧ (a.toNat &&& b.toNat) ≤ a.toNat := by
  have h1 : (a &&& ~~~b) = a ^^^ (a &&& b) := by
    refine BitVec.eq_of_getElem_eq (fun i hi => ?_)
    simp only [BitVec.getElem_and, BitVec.getElem_not, BitVec.getElem_xor]
    cases a[i] <;> cases b[i] <;> rfl
  rw [h1, BitVec.toNat_xor, BitVec.toNat_and]
  have h2 := xor_and a.toNat (a.toNat &&& b.toNat)
  have h3 : a.toNat &&& (a.toNat &&& b.toNat) = a.toNat &&& b.toNat := by rw [← Nat.and_assoc, Nat.and_self]
  rw [h3] at h2
  have h4 : a.toNat &&& b.toNat ≤ a.toNat := Nat.and_le_left
  omega

theorem klo_le (k : IntKind) : klo k ≤ 0 := by cases k <;> decide
theorem khi_pow (k : IntKind) : ∃ n, khi k = ((2 ^ n - 1 : Nat) : Int) ∧ n ≤ k.bits := by
  cases k <;> first | exact ⟨7, by decide, by decide⟩ | exact ⟨15, by decide, by decide⟩ | exact ⟨31, by decide, by decide⟩ | exact ⟨63, by decide, by decide⟩ | exact ⟨8, by decide, by decide⟩ | exact ⟨16, by decide, by decide⟩ | exact ⟨32, by decide, by decide⟩ | exact ⟨64, by decide, by decide⟩

theorem or_le {k : IntKind} {a b : Nat} (ha : (a : Int) ≤ khi k) (hb : (b : Int) ≤ khi k) : ((a ||| b : Nat) : Int) ≤ khi k := by
  obtain ⟨n, hn, _⟩ := khi_pow k
  have hp : 0 < 2 ^ n := Nat.pow_pos (by omega)
  have : a ||| b < 2 ^ n := Nat.or_lt_two_pow (by omega) (by omega)
  omega
theorem xor_le {k : IntKind} {a b : Nat} (ha : (a : Int) ≤ khi k) (hb : (b : Int) ≤ khi k) : ((a ^^^ b : Nat) : Int) ≤ khi k := by
  obtain ⟨n, hn, _⟩ := khi_pow k
  have hp : 0 < 2 ^ n := Nat.pow_pos (by omega)
  have : a ^^^ b < 2 ^ n := Nat.xor_lt_two_pow (by omega) (by omega)
  omega

/-- What the operation of the model comes to. -/
theorem intBin_ok {fs : Facts} (hf : fs.ok e) {op : BinOp} {k : IntKind} {p q : T} {v : SV} (h : intBin fs op k p q = some v) (t : TypeId) (P : Program) (w : World) :
    ∃ x, (binOp op t (.int k (p.ev e)) (.int k (q.ev e))).run P w = .ok x w ∧ VR e M v x := by
  have cmp : ∀ {c : T} {pr : Prop} [Decidable pr] {b : Bool} {s : Sem Value}, c.ev e = (if pr then 1 else 0) → s.run P w = .ok (.bool b) w → b = decide pr → v = .bool c → ∃ x, s.run P w = .ok x w ∧ VR e M v x := by
    intro c pr _ b s hc hs hb hv; subst hv; subst hb; exact ⟨_, hs, bool_ok hc⟩
  cases op <;> simp only [intBin] at h
  case add => cases h; exact ⟨.int k (k.wrap (p.ev e + q.ev e)), by simp [binOp, Op.intArith], by rw [← add_ev, ← wrapT_ev hf]; exact .int _ _⟩
  case sub => cases h; exact ⟨.int k (k.wrap (p.ev e - q.ev e)), by simp [binOp, Op.intArith], by rw [← sub_ev, ← wrapT_ev hf]; exact .int _ _⟩
  case mul => cases h; exact ⟨.int k (k.wrap (p.ev e * q.ev e)), by simp [binOp, Op.intArith], by rw [← mul_ev hf, ← wrapT_ev hf]; exact .int _ _⟩
  case and =>
    cases hb : (within fs 0 (khi k) p && within fs 0 (khi k) q) with
    | false => rw [hb] at h; cases h
    | true =>
      rw [hb] at h; cases h
      simp only [Bool.and_eq_true] at hb
      have h1 := within_ok hf hb.1
      have h2 := within_ok hf hb.2
      refine ⟨.int k ((T.band fs p q).ev e), ?_, .int _ _⟩
      simp only [binOp, Op.intBits, ne_eq, not_true_eq_false, if_false, Sem.run_pure, BitVec.toNat_and, bv_toNat h1.1 h1.2, bv_toNat h2.1 h2.2]
      have hle : (p.ev e).toNat &&& (q.ev e).toNat ≤ (p.ev e).toNat := Nat.and_le_left
      rw [band_ev hf, wrap_id (by have := klo_le k; omega) (by omega)]
  case or =>
    cases hb : (within fs 0 (khi k) p && within fs 0 (khi k) q) with
    | false => rw [hb] at h; cases h
    | true =>
      rw [hb] at h; cases h
      simp only [Bool.and_eq_true] at hb
      have h1 := within_ok hf hb.1
      have h2 := within_ok hf hb.2
      refine ⟨.int k ((orT fs p q).ev e), ?_, .int _ _⟩
      simp only [binOp, Op.intBits, ne_eq, not_true_eq_false, if_false, Sem.run_pure, BitVec.toNat_or, bv_toNat h1.1 h1.2, bv_toNat h2.1 h2.2]
      have ho := or_eq (p.ev e).toNat (q.ev e).toNat
      have hle := or_le (k := k) (a := (p.ev e).toNat) (b := (q.ev e).toNat) (by omega) (by omega)
      rw [wrap_id (by have := klo_le k; omega) hle, orT_ev hf (by omega) (by omega)]
      congr 2
      omega
  case xor =>
    cases hb : (within fs 0 (khi k) p && within fs 0 (khi k) q) with
    | false => rw [hb] at h; cases h
    | true =>
      rw [hb] at h; cases h
      simp only [Bool.and_eq_true] at hb
      have h1 := within_ok hf hb.1
      have h2 := within_ok hf hb.2
      refine ⟨.int k ((T.bxor fs p q).ev e), ?_, .int _ _⟩
      simp only [binOp, Op.intBits, ne_eq, not_true_eq_false, if_false, Sem.run_pure, BitVec.toNat_xor, bv_toNat h1.1 h1.2, bv_toNat h2.1 h2.2]
      have hle := xor_le (k := k) (a := (p.ev e).toNat) (b := (q.ev e).toNat) (by omega) (by omega)
      rw [wrap_id (by have := klo_le k; omega) hle, bxor_ev hf]
  case andNot =>
    cases hb : (within fs 0 (khi k) p && within fs 0 (khi k) q) with
    | false => rw [hb] at h; cases h
    | true =>
      rw [hb] at h; cases h
      simp only [Bool.and_eq_true] at hb
      have h1 := within_ok hf hb.1
      have h2 := within_ok hf hb.2
      refine ⟨.int k ((lessT fs p q).ev e), ?_, .int _ _⟩
      have hn := andNot_eq (BitVec.ofInt k.bits (p.ev e)) (BitVec.ofInt k.bits (q.ev e))
      rw [bv_toNat h1.1 h1.2, bv_toNat h2.1 h2.2] at hn
      simp only [binOp, Op.intBits, ne_eq, not_true_eq_false, if_false, Sem.run_pure, hn.1]
      have := hn.2
      rw [wrap_id (by have := klo_le k; omega) (by omega), lessT_ev hf (by omega) (by omega)]
      congr 2
      omega
  case quo =>
    split at h
    · rename_i n hn
      have hq := litNat_ok hf hn
      cases hb : within fs 0 (khi k) p with
      | false => rw [hb] at h; cases h
      | true =>
        rw [hb] at h; cases h
        have h1 := within_ok hf hb
        refine ⟨.int k ((T.div fs (n + 1) p).ev e), ?_, .int _ _⟩
        have hne : ¬ q.ev e = 0 := by omega
        simp only [binOp, Op.intDiv, ne_eq, not_true_eq_false, if_false, hne, Sem.run_pure]
        rw [div_ev hf (by omega), hq, Int.tdiv_eq_ediv_of_nonneg h1.1]
        have h2 := Int.ediv_le_self (b := ((n + 1 : Nat) : Int)) h1.1
        have h3 := Int.ediv_nonneg h1.1 (show (0 : Int) ≤ ((n + 1 : Nat) : Int) by omega)
        have h4 := klo_le k
        show Result.ok (Value.int k (k.wrap (p.ev e / ((n + 1 : Nat) : Int)))) w = _
        rw [wrap_id (by omega) (by omega)]
    · cases h
    · cases hb : (within fs 0 (khi k) p && within fs 1 (khi k) q) with
      | false => rw [hb] at h; cases h
      | true =>
        rw [hb] at h; cases h
        simp only [Bool.and_eq_true] at hb
        have h1 := within_ok hf hb.1
        have h2 := within_ok hf hb.2
        refine ⟨.int k ((T.atom (.op .quo p q 0)).ev e), ?_, .int _ _⟩
        have hne : ¬ q.ev e = 0 := by omega
        simp only [binOp, Op.intDiv, ne_eq, not_true_eq_false, if_false, hne, Sem.run_pure]
        rw [atom_ev, ev_quo]
        have h3 : (p.ev e).tdiv (q.ev e) = p.ev e / q.ev e := Int.tdiv_eq_ediv_of_nonneg h1.1
        have h4 := Int.ediv_le_self (b := q.ev e) h1.1
        have h5 := Int.ediv_nonneg h1.1 (show (0 : Int) ≤ q.ev e by omega)
        rw [wrap_id (by have := klo_le k; omega) (by omega)]
  case rem =>
    split at h
    · rename_i n hn
      have hq := litNat_ok hf hn
      cases hb : nonneg fs p with
      | false => rw [hb] at h; cases h
      | true =>
        rw [hb] at h; cases h
        refine ⟨.int k ((T.mod fs (n + 1) p).ev e), ?_, .int _ _⟩
        have hne : ¬ q.ev e = 0 := by omega
        simp only [binOp, Op.intDiv, ne_eq, not_true_eq_false, if_false, hne, Sem.run_pure]
        rw [mod_ev hf (by omega), hq, Int.tmod_eq_emod_of_nonneg (nonneg_ok hf hb)]
    · cases h
    · cases hb : (nonneg fs p && within fs 1 (khi k) q) with
      | false => rw [hb] at h; cases h
      | true =>
        rw [hb] at h; cases h
        simp only [Bool.and_eq_true] at hb
        have h2 := within_ok hf hb.2
        refine ⟨.int k ((T.atom (.op .rem p q 0)).ev e), ?_, .int _ _⟩
        have hne : ¬ q.ev e = 0 := by omega
        simp only [binOp, Op.intDiv, ne_eq, not_true_eq_false, if_false, hne, Sem.run_pure]
        rw [atom_ev, ev_rem]
  case eql =>
    cases h
    refine cmp (c := eqSum fs (T.sub p q)) (pr := p.ev e = q.ev e) (b := (p.ev e == q.ev e)) ?_ (by simp [binOp, Op.intCmp]) (by simp [BEq.beq]) rfl
    rw [eqSum_ev hf, sub_ev]; split <;> split <;> omega
  case neq =>
    cases h
    refine cmp (c := T.not1 (eqSum fs (T.sub p q))) (pr := ¬ p.ev e = q.ev e) (b := (p.ev e != q.ev e)) ?_ (by simp [binOp, Op.intCmp]) (by simp [bne]; rfl) rfl
    rw [not1_ev, eqSum_ev hf, sub_ev]; split <;> split <;> omega
  case lss =>
    cases h
    refine cmp (c := T.not1 (T.le0 fs (T.sub q p))) (pr := p.ev e < q.ev e) (b := decide (p.ev e < q.ev e)) ?_ (by simp [binOp, Op.intCmp]) rfl rfl
    rw [not1_ev, le0_ev hf, sub_ev]; split <;> split <;> omega
  case leq =>
    cases h
    refine cmp (c := T.le0 fs (T.sub p q)) (pr := p.ev e ≤ q.ev e) (b := decide (p.ev e ≤ q.ev e)) ?_ (by simp [binOp, Op.intCmp]) rfl rfl
    rw [le0_ev hf, sub_ev]; split <;> split <;> omega
  case gtr =>
    cases h
    refine cmp (c := T.not1 (T.le0 fs (T.sub p q))) (pr := q.ev e < p.ev e) (b := decide (q.ev e < p.ev e)) ?_ (by simp [binOp, Op.intCmp]) rfl rfl
    rw [not1_ev, le0_ev hf, sub_ev]; split <;> split <;> omega
  case geq =>
    cases h
    refine cmp (c := T.le0 fs (T.sub q p)) (pr := q.ev e ≤ p.ev e) (b := decide (q.ev e ≤ p.ev e)) ?_ (by simp [binOp, Op.intCmp]) rfl rfl
    rw [le0_ev hf, sub_ev]; split <;> split <;> omega
  all_goals cases h


theorem kbits_pos (k : IntKind) : 0 < k.bits := by cases k <;> decide

theorem intShift_ok {fs : Facts} (hf : fs.ok e) {op : BinOp} {k k' : IntKind} {p q : T} {v : SV} (h : intShift fs op k p q = some v) (t : TypeId) (P : Program) (w : World) :
    ∃ x, (binOp op t (.int k (p.ev e)) (.int k' (q.ev e))).run P w = .ok x w ∧ VR e M v x := by
  cases op <;> simp only [intShift] at h
  case shl =>
    split at h
    · rename_i n hn
      cases h
      have hq := litNat_ok hf hn
      refine ⟨.int k (k.wrap (p.ev e * 2 ^ min n k.bits)), ?_, ?_⟩
      · simp only [binOp, Op.shift, hq]
        rw [if_neg (by omega)]
        simp
      · have := wrapT_ev hf k (T.scale ((2 ^ min n k.bits : Nat) : Int) p)
        rw [scale_ev, Int.mul_comm, Int.natCast_pow] at this
        have h2 : ((2 : Nat) : Int) = 2 := rfl
        rw [h2] at this
        rw [← this]
        exact .int _ _
    · rename_i hn
      cases hb : within fs 0 (k.bits : Int) q with
      | false => rw [hb] at h; cases h
      | true =>
        rw [hb] at h; cases h
        have h1 := within_ok hf hb
        refine ⟨.int k (k.wrap (p.ev e * 2 ^ (q.ev e).toNat)), ?_, ?_⟩
        · simp only [binOp, Op.shift]
          rw [if_neg (by omega), Nat.min_eq_left (by omega)]
          simp
        · have := wrapT_ev hf k (T.mul fs p (T.pow q))
          rw [mul_ev hf] at this
          unfold T.pow at this
          rw [atom_ev, ev_pow] at this
          rw [← this]
          exact .int _ _
  case shr =>
    split at h
    · rename_i n hn
      cases h
      have hq := litNat_ok hf hn
      have hpos : 0 < 2 ^ min n k.bits := Nat.pow_pos (by omega)
      refine ⟨.int k ((T.div fs (2 ^ min n k.bits) p).ev e), ?_, .int _ _⟩
      simp only [binOp, Op.shift, hq]
      rw [if_neg (by omega), div_ev hf hpos]
      have : (((2 ^ min n k.bits : Nat)) : Int) = 2 ^ min n k.bits := by simp
      rw [this]
      simp only [Int.toNat_natCast, Sem.run_pure]
      rw [Int.fdiv_eq_ediv_of_nonneg _ (by rw [← this]; omega)]
    · cases h
  all_goals cases h

/-- One operand. -/
def unS (fs : Facts) (op : UnOp) (v : SV) : Option SV :=
  match op, v with
  | .neg, .int k p => some (.int k (wrapT fs k (T.neg p)))
  | .xor, .int k p => bif k.signed then none else bif within fs 0 (khi k) p then some (.int k (T.sub (.lit (khi k)) p)) else none
  | .not, .bool p => some (.bool (T.not1 p))
  | _, _ => none

theorem unS_ok {fs : Facts} (hf : fs.ok e) {op : UnOp} {v u : SV} {a : Value} (h : unS fs op v = some u) (ha : VR e M v a) (P : Program) (w : World) :
    ∃ x, (Op.unary op a).run P w = .ok x w ∧ VR e M u x := by
  unfold unS at h
  split at h
  · rename_i k p
    cases h; cases ha
    refine ⟨.int k (k.wrap (0 - p.ev e)), by simp [Op.unary, Op.intArith], ?_⟩
    have := wrapT_ev hf k (T.neg p)
    rw [neg_ev] at this
    rw [show 0 - p.ev e = -p.ev e by omega, ← this]
    exact .int _ _
  · rename_i k p
    cases ha
    cases hs : k.signed with
    | true => rw [hs] at h; cases h
    | false =>
      rw [hs] at h; simp only [cond_false] at h
      cases hb : within fs 0 (khi k) p with
      | false => rw [hb] at h; cases h
      | true =>
        rw [hb] at h; cases h
        have h1 := within_ok hf hb
        refine ⟨.int k ((T.sub (.lit (khi k)) p).ev e), ?_, .int _ _⟩
        have hmax : k.max = khi k := by cases k <;> first | rfl | cases hs
        have h0 : 0 ≤ khi k := by omega
        simp only [Op.unary, hs, Bool.false_eq_true, if_false, hmax, Op.intBits, Sem.run_pure, BitVec.toNat_xor]
        rw [bv_toNat h0 (Int.le_refl _), bv_toNat h1.1 h1.2]
        have hx : ∃ n, (khi k).toNat = 2 ^ n - 1 := by
          obtain ⟨n, hn, _⟩ := khi_pow k
          exact ⟨n, by omega⟩
        obtain ⟨n, hn⟩ := hx
        have hp : 0 < 2 ^ n := Nat.pow_pos (by omega)
        have ha := (xor_and (khi k).toNat (p.ev e).toNat).1
        rw [hn, Nat.and_comm, Nat.and_two_pow_sub_one_eq_mod, Nat.mod_eq_of_lt (by omega)] at ha
        rw [hn, ha, wrap_id (by have := klo_le k; omega) (by omega), sub_ev, ev_lit]
        congr 2
        omega
  · cases h; cases ha with
    | bool p b hp =>
      refine ⟨.bool (!b), by simp [Op.unary], ?_⟩
      refine .bool _ _ ?_
      rw [not1_ev, hp]
      cases b <;> rfl
  · cases h

end
end Go.Sx

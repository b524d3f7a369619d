/- Whole-number terms in a normal form: sums of products of atoms, with their meaning, their ranges, and what is known of them. No program in sight. -/
import Derived.KernelRfl
namespace Go.Sx

/-- What an atom that is no variable does. -/
inductive TO where
  | div | mod | eq0 | le0 | band | bxor | quo | rem | lvar | rd | len | ltake | lset | pair | app | pow | lrep | lpair | lmix | lmem | lputs | lapp | ltab
  deriving DecidableEq, Repr, Inhabited

def TO.num : TO → Nat
  | .div => 0 | .mod => 1 | .eq0 => 2 | .le0 => 3 | .band => 4 | .bxor => 5 | .quo => 6 | .rem => 7 | .lvar => 8 | .rd => 9 | .len => 10 | .ltake => 11 | .lset => 12 | .pair => 13 | .app => 14 | .pow => 15 | .lrep => 16 | .lpair => 17 | .lmix => 18 | .lmem => 19 | .lputs => 20 | .lapp => 21 | .ltab => 22

/-- A term. A sum: 'term c m r' is c times m, and r; 'lit n' ends it. A product: 'prod a m', 'one' ends it. Atoms: variables (which lie between two numbers), operations. -/
inductive T where
  | lit (n : Int)
  | term (c : Int) (m r : T)
  | one
  | prod (a m : T)
  | var (i : Nat) (lo hi : Int)
  | op (o : TO) (a b : T) (k : Nat)
  deriving Repr, Inhabited

def clamp (lo hi x : Int) : Int := if x < lo then lo else if hi < x then hi else x

theorem clamp_ge {lo hi x : Int} (h : lo ≤ hi) : lo ≤ clamp lo hi x := by unfold clamp; split <;> (try split) <;> omega
theorem clamp_le {lo hi x : Int} (h : lo ≤ hi) : clamp lo hi x ≤ hi := by unfold clamp; split <;> (try split) <;> omega
theorem clamp_id {lo hi x : Int} (h : lo ≤ x) (h' : x ≤ hi) : clamp lo hi x = x := by unfold clamp; rw [if_neg (by omega), if_neg (by omega)]

/-- The values of the variables: of numbers, of lists; the functions that stand behind 'app'. -/
structure Env where
  ρ : Nat → Int
  l : Nat → List Int
  f : Nat → Int → Int → Int

/-- Z with the first i places taken from A. -/
def mixL (A Z : List Int) (i : Nat) : List Int := (List.range Z.length).map fun j => if j < i then A.getD j 0 else Z.getD j 0
/-- Z with the first i places laid by their number. -/
def memL (y : Int) (Z : List Int) (i : Nat) : List Int := (List.range Z.length).map fun j => if j < i then ((j : Int) % 256 * y) % 256 else Z.getD j 0
/-- L with i cells put into it: each two numbers, a place and what stands there. -/
def putsL (L C : List Int) : Nat → List Int
  | 0 => L
  | i + 1 => (putsL L C i).set (C.getD (2 * i) 0).toNat (C.getD (2 * i + 1) 0)

theorem mixL_length (A Z : List Int) (i : Nat) : (mixL A Z i).length = Z.length := by simp [mixL]
theorem memL_length (y : Int) (Z : List Int) (i : Nat) : (memL y Z i).length = Z.length := by simp [memL]
theorem putsL_length (L C : List Int) : ∀ i, (putsL L C i).length = L.length
  | 0 => rfl
  | i + 1 => by simp only [putsL, List.length_set]; exact putsL_length L C i
theorem mixL_zero (A Z : List Int) : mixL A Z 0 = Z := by
  apply List.ext_getElem
  · simp [mixL]
  · intro j h1 h2; simp [mixL, h2]
theorem memL_zero (y : Int) (Z : List Int) : memL y Z 0 = Z := by
  apply List.ext_getElem
  · simp [memL]
  · intro j h1 h2; simp [memL, h2]
theorem mixL_succ (A Z : List Int) (i : Nat) : (mixL A Z i).set i (A.getD i 0) = mixL A Z (i + 1) := by
  apply List.ext_getElem
  · simp [mixL]
  · intro j h1 h2
    simp only [mixL, List.getElem_set, List.getElem_map, List.getElem_range]
    by_cases hj : i = j
    · subst hj; simp
    · rw [if_neg hj]
      by_cases h : j < i
      · rw [if_pos h, if_pos (by omega)]
      · rw [if_neg h, if_neg (by omega)]
theorem memL_succ (y : Int) (Z : List Int) (i : Nat) : (memL y Z i).set i (((i : Int) % 256 * y) % 256) = memL y Z (i + 1) := by
  apply List.ext_getElem
  · simp [memL]
  · intro j h1 h2
    simp only [memL, List.getElem_set, List.getElem_map, List.getElem_range]
    by_cases hj : i = j
    · subst hj; simp
    · rw [if_neg hj]
      by_cases h : j < i
      · rw [if_pos h, if_pos (by omega)]
      · rw [if_neg h, if_neg (by omega)]
theorem mixL_getD (A Z : List Int) (i j : Nat) (h : j < Z.length) : (mixL A Z i).getD j 0 = if j < i then A.getD j 0 else Z.getD j 0 := by
  rw [List.getD_eq_getElem?_getD, List.getElem?_eq_getElem (by simpa [mixL] using h)]
  simp only [mixL, List.getElem_map, List.getElem_range, Option.getD_some]

/-- The meaning of an operation: a number, and (for those that are lists) a list. -/
def TO.den (e : Env) (k : Nat) (a b : Int × List Int) : TO → Int × List Int
  | .div => (a.1 / (k : Int), [])
  | .mod => (a.1 % (k : Int), [])
  | .eq0 => (if a.1 = 0 then 1 else 0, [])
  | .le0 => (if a.1 ≤ 0 then 1 else 0, [])
  | .band => (((a.1.toNat &&& b.1.toNat : Nat) : Int), [])
  | .bxor => (((a.1.toNat ^^^ b.1.toNat : Nat) : Int), [])
  | .quo => (a.1.tdiv b.1, [])
  | .rem => (a.1.tmod b.1, [])
  | .lvar => (0, e.l k)
  | .rd => (clamp 0 (2 ^ k - 1) (a.2.getD b.1.toNat 0), [])
  | .len => ((a.2.length : Int), [])
  | .ltake => (0, a.2.take b.1.toNat)
  | .lset => (0, match b.2 with | [] => a.2 | x :: _ => a.2.set b.1.toNat x)
  | .pair => (a.1, [b.1])
  | .app => (e.f k a.1 b.1, [])
  | .pow => (2 ^ a.1.toNat, [])
  | .lrep => (0, List.replicate b.1.toNat a.1)
  | .lpair => (b.1, a.2)
  | .lmix => (0, mixL a.2 b.2 b.1.toNat)
  | .lmem => (0, memL a.1 b.2 b.1.toNat)
  | .lputs => (0, putsL a.2 b.2 b.1.toNat)
  | .lapp => (0, a.2 ++ b.2)
  | .ltab => (0, (List.range b.1.toNat).map fun (i : Nat) => e.f k a.1 (i : Int))

def T.den (e : Env) : T → Int × List Int
  | .lit n => (n, [])
  | .term c m r => (c * (T.den e m).1 + (T.den e r).1, [])
  | .one => (1, [])
  | .prod a m => ((T.den e a).1 * (T.den e m).1, [])
  | .var i lo hi => (clamp lo hi (e.ρ i), [])
  | .op o a b k => o.den e k (T.den e a) (T.den e b)

/-- A term's number. -/
def T.ev (e : Env) (t : T) : Int := (t.den e).1

theorem ev_lit (e : Env) (n : Int) : (T.lit n).ev e = n := rfl
theorem ev_term (e : Env) (c : Int) (m r : T) : (T.term c m r).ev e = c * m.ev e + r.ev e := rfl
theorem ev_one (e : Env) : T.one.ev e = 1 := rfl
theorem ev_prod (e : Env) (a m : T) : (T.prod a m).ev e = a.ev e * m.ev e := rfl
theorem ev_div (e : Env) (a b : T) (k : Nat) : (T.op .div a b k).ev e = a.ev e / (k : Int) := rfl
theorem ev_mod (e : Env) (a b : T) (k : Nat) : (T.op .mod a b k).ev e = a.ev e % (k : Int) := rfl
theorem ev_eq0 (e : Env) (a b : T) (k : Nat) : (T.op .eq0 a b k).ev e = if a.ev e = 0 then 1 else 0 := rfl
theorem ev_le0 (e : Env) (a b : T) (k : Nat) : (T.op .le0 a b k).ev e = if a.ev e ≤ 0 then 1 else 0 := rfl
theorem ev_band (e : Env) (a b : T) (k : Nat) : (T.op .band a b k).ev e = (((a.ev e).toNat &&& (b.ev e).toNat : Nat) : Int) := rfl
theorem ev_bxor (e : Env) (a b : T) (k : Nat) : (T.op .bxor a b k).ev e = (((a.ev e).toNat ^^^ (b.ev e).toNat : Nat) : Int) := rfl
theorem ev_quo (e : Env) (a b : T) (k : Nat) : (T.op .quo a b k).ev e = (a.ev e).tdiv (b.ev e) := rfl
theorem ev_pow (e : Env) (a b : T) (k : Nat) : (T.op .pow a b k).ev e = 2 ^ (a.ev e).toNat := rfl
theorem ev_rem (e : Env) (a b : T) (k : Nat) : (T.op .rem a b k).ev e = (a.ev e).tmod (b.ev e) := rfl

/-! ## Another value of one variable -/

def Env.put (e : Env) (n : Nat) (x : Int) : Env := { e with ρ := fun i => if i = n then x else e.ρ i }

/-- The same but for the variables that loops take. -/
def Env.near (e0 e : Env) : Prop := e.l = e0.l ∧ e.f = e0.f ∧ ∀ i, i < 9000 → e.ρ i = e0.ρ i
theorem Env.near_refl (e : Env) : e.near e := ⟨rfl, rfl, fun _ _ => rfl⟩
theorem Env.near_put {e0 e : Env} (h : e0.near e) {n : Nat} (hn : 9000 ≤ n) (x : Int) : e0.near (e.put n x) :=
  ⟨h.1, h.2.1, fun i hi => by show (if i = n then x else e.ρ i) = _; rw [if_neg (by omega)]; exact h.2.2 i hi⟩

/-- Does a variable not stand in a term? -/
def T.free (n : Nat) : T → Bool
  | .lit _ => true
  | .term _ m r => T.free n m && T.free n r
  | .one => true
  | .prod a m => T.free n a && T.free n m
  | .var i _ _ => !(Nat.beq i n)
  | .op _ a b _ => T.free n a && T.free n b

theorem T.free_den {e : Env} {n : Nat} {x : Int} : ∀ t : T, T.free n t = true → t.den (e.put n x) = t.den e := by
  intro t
  induction t with
  | lit m => intro _; rfl
  | one => intro _; rfl
  | term c m r ihm ihr =>
    intro h
    simp only [T.free, Bool.and_eq_true] at h
    simp only [T.den, ihm h.1, ihr h.2]
  | prod a m iha ihm =>
    intro h
    simp only [T.free, Bool.and_eq_true] at h
    simp only [T.den, iha h.1, ihm h.2]
  | var i lo hi =>
    intro h
    simp only [T.free, Bool.not_eq_true'] at h
    have hne : i ≠ n := fun he => by subst he; rw [Nat.beq_refl] at h; cases h
    simp only [T.den, Env.put, if_neg hne]
  | op o a b k iha ihb =>
    intro h
    simp only [T.free, Bool.and_eq_true] at h
    simp only [T.den, iha h.1, ihb h.2]
    cases o <;> rfl

theorem T.free_ev {e : Env} {n : Nat} {x : Int} {t : T} (h : T.free n t = true) : t.ev (e.put n x) = t.ev e := by
  unfold T.ev; rw [T.free_den t h]

/-! ## An order of terms -/

/-- 0 less, 1 equal, 2 greater. -/
def ncmp (a b : Nat) : Nat := bif Nat.beq a b then 1 else bif Nat.ble a b then 0 else 2
def icmp : Int → Int → Nat
  | .ofNat a, .ofNat b => ncmp a b
  | .ofNat _, .negSucc _ => 2
  | .negSucc _, .ofNat _ => 0
  | .negSucc a, .negSucc b => ncmp b a

theorem ncmp_eq {a b : Nat} (h : ncmp a b = 1) : a = b := by
  unfold ncmp at h
  cases hb : Nat.beq a b with
  | true => exact Nat.eq_of_beq_eq_true hb
  | false => rw [hb] at h; cases hl : Nat.ble a b <;> simp [hl] at h
theorem icmp_eq {a b : Int} (h : icmp a b = 1) : a = b := by
  cases a <;> cases b <;> simp only [icmp] at h
  · rw [ncmp_eq h]
  · cases h
  · cases h
  · rw [ncmp_eq h]

def T.rank : T → Nat
  | .lit _ => 0 | .term .. => 1 | .one => 2 | .prod .. => 3 | .var .. => 4 | .op .. => 5

def T.cmp : T → T → Nat
  | .lit n, u => match u with
    | .lit m => icmp n m
    | _ => 0
  | .term c m r, u => match u with
    | .term c' m' r' => match T.cmp m m' with
      | 1 => match icmp c c' with
        | 1 => T.cmp r r'
        | x => x
      | x => x
    | .lit _ => 2
    | _ => 0
  | .one, u => match u with
    | .one => 1
    | .lit _ | .term .. => 2
    | _ => 0
  | .prod a m, u => match u with
    | .prod a' m' => match T.cmp a a' with
      | 1 => T.cmp m m'
      | x => x
    | .lit _ | .term .. | .one => 2
    | _ => 0
  | .var i lo hi, u => match u with
    | .var i' lo' hi' => match ncmp i i' with
      | 1 => match icmp lo lo' with
        | 1 => icmp hi hi'
        | x => x
      | x => x
    | .op .. => 0
    | _ => 2
  | .op o a b k, u => match u with
    | .op o' a' b' k' => match ncmp o.num o'.num with
      | 1 => match ncmp k k' with
        | 1 => match T.cmp a a' with
          | 1 => T.cmp b b'
          | x => x
        | x => x
      | x => x
    | _ => 2

theorem TO.num_inj {a b : TO} (h : a.num = b.num) : a = b := by cases a <;> cases b <;> first | rfl | cases h

theorem T.cmp_eq : ∀ {t u : T}, T.cmp t u = 1 → t = u := by
  intro t
  induction t with
  | lit n => intro u h; cases u <;> simp only [T.cmp] at h <;> first | rw [icmp_eq h] | cases h
  | one => intro u h; cases u <;> simp only [T.cmp] at h <;> first | rfl | cases h
  | term c m r ihm ihr =>
    intro u h
    cases u <;> simp only [T.cmp] at h <;> try (cases h)
    rename_i c' m' r'
    split at h
    · rename_i h1
      split at h
      · rename_i h2
        rw [ihm h1, icmp_eq h2, ihr h]
      · rename_i hne; exact absurd h hne
    · rename_i hne; exact absurd h hne
  | prod a m iha ihm =>
    intro u h
    cases u <;> simp only [T.cmp] at h <;> try (cases h)
    rename_i a' m'
    split at h
    · rename_i h1; rw [iha h1, ihm h]
    · rename_i hne; exact absurd h hne
  | var i lo hi =>
    intro u h
    cases u <;> simp only [T.cmp] at h <;> try (cases h)
    rename_i i' lo' hi'
    split at h
    · rename_i h1
      split at h
      · rename_i h2; rw [ncmp_eq h1, icmp_eq h2, icmp_eq h]
      · rename_i hne; exact absurd h hne
    · rename_i hne; exact absurd h hne
  | op o a b k iha ihb =>
    intro u h
    cases u <;> simp only [T.cmp] at h <;> try (cases h)
    rename_i o' a' b' k'
    split at h
    · rename_i h1
      split at h
      · rename_i h2
        split at h
        · rename_i h3; rw [TO.num_inj (ncmp_eq h1), ncmp_eq h2, iha h3, ihb h]
        · rename_i hne; exact absurd h hne
      · rename_i hne; exact absurd h hne
    · rename_i hne; exact absurd h hne

def T.same (t u : T) : Bool := Nat.beq (T.cmp t u) 1
theorem T.same_eq {t u : T} (h : T.same t u = true) : t = u := T.cmp_eq (Nat.eq_of_beq_eq_true h)

end Go.Sx

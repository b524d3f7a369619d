/- Tests that hang on several facts at once. -/
import Derived.Test.YtnhphhlojkhlcaaGreatDoorGxCond
namespace Go.Sx

/-! ## Rests written out as what quotients leave -/

def expandM (f : T → T) (fs : Facts) (m : T) : T :=
  match m with
  | .prod (.op .mod a _ (j + 1)) .one => match f a with
    | a' => T.sub a' (T.scale ((j + 1 : Nat) : Int) (T.div fs (j + 1) a'))
  | .prod (.op .div a _ (j + 1)) .one => T.div fs (j + 1) (f a)
  | m => .term 1 m (.lit 0)

def expandT (f : T → T) (fs : Facts) : T → T
  | .term c m r => T.add (T.scale c (expandM f fs m)) (expandT f fs r)
  | t => t

def expand (fs : Facts) : Nat → T → T
  | 0, t => t
  | n + 1, t => expandT (expand fs n) fs t

section
variable {e : Env} {fs : Facts}

theorem expandM_ev (hf : fs.ok e) {f : T → T} (h : ∀ t, (f t).ev e = t.ev e) (m : T) : (expandM f fs m).ev e = m.ev e := by
  unfold expandM
  split
  · rename_i a b j
    simp only
    rw [sub_ev, scale_ev, div_ev hf (by omega), h, ev_prod, ev_mod, ev_one, Int.mul_one]
    exact (Int.emod_def (a.ev e) ((j + 1 : Nat) : Int)).symm
  · rename_i a b j
    rw [div_ev hf (by omega), h, ev_prod, ev_div, ev_one, Int.mul_one]
  · rw [ev_term, ev_lit]; omega

theorem expandT_ev (hf : fs.ok e) {f : T → T} (h : ∀ t, (f t).ev e = t.ev e) : ∀ t, (expandT f fs t).ev e = t.ev e := by
  intro t
  induction t with
  | term c m r ihm ihr => simp only [expandT]; rw [add_ev, scale_ev, expandM_ev hf h, ihr, ev_term]
  | _ => rfl

theorem expand_ev (hf : fs.ok e) : ∀ n t, (expand fs n t).ev e = t.ev e := by
  intro n
  induction n with
  | zero => intro t; rfl
  | succ n ih => intro t; exact expandT_ev hf ih t

/-! ## Bounds out of several facts -/

/-- A sum and its bounds. -/
abbrev Bd := T × Int × Int
def Bds.ok (e : Env) (L : List Bd) : Prop := ∀ x ∈ L, x.2.1 ≤ x.1.ev e ∧ x.1.ev e ≤ x.2.2

/-- The factor that a product has in a sum. -/
def coef (m : T) : T → Int
  | .term c m' r => bif T.same m m' then c else coef m r
  | _ => 0

/-- How one gets rid of p's first product that f has too: a p + b f. -/
def elim (f : T) : T → Option (Nat × Int)
  | .term c m r => match coef m f with
    | .ofNat 0 => elim f r
    | d => match Nat.gcd c.natAbs d.natAbs with
      | g => some (d.natAbs / g, -(Int.sign d * (c / (g : Int))))
  | _ => none

def meet : Option (Int × Int) → Option (Int × Int) → Option (Int × Int)
  | none, y => y
  | x, none => x
  | some (a, b), some (c, d) => some (imax a c, imin b d)

theorem meet_ok {x : Int} {u v r : Option (Int × Int)} (hu : ∀ a b, u = some (a, b) → a ≤ x ∧ x ≤ b) (hv : ∀ a b, v = some (a, b) → a ≤ x ∧ x ≤ b) (hr : meet u v = r) : ∀ a b, r = some (a, b) → a ≤ x ∧ x ≤ b := by
  subst hr
  intro a b h
  unfold meet at h
  split at h
  · exact hv a b h
  · exact hu a b h
  · rename_i a1 b1 a2 b2
    cases h
    have h1 := hu a1 b1 rfl
    have h2 := hv a2 b2 rfl
    unfold imax imin
    constructor <;> split <;> omega

/-- Bounds of x from those of a x + b f and of f. -/
def back (a : Nat) (b lo hi : Int) : Option (Int × Int) → Option (Int × Int)
  | some (x, y) => match a with
    | 0 => none
    | a => if 0 ≤ b then some (-((-(x - b * hi)) / (a : Int)), (y - b * lo) / (a : Int)) else some (-((-(x - b * lo)) / (a : Int)), (y - b * hi) / (a : Int))
  | none => none

theorem back_ok {a : Nat} {b lo hi x f : Int} {r : Option (Int × Int)} (hr : ∀ u v, r = some (u, v) → u ≤ (a : Int) * x + b * f ∧ (a : Int) * x + b * f ≤ v) (h1 : lo ≤ f) (h2 : f ≤ hi) :
    ∀ u v, back a b lo hi r = some (u, v) → u ≤ x ∧ x ≤ v := by
  intro u v h
  unfold back at h
  split at h
  · rename_i p q
    have hpq := hr p q rfl
    split at h
    · cases h
    · rename_i ha0
      have ha : 0 < (a : Int) := by
        have : a ≠ 0 := fun hz => ha0 hz
        omega
      have low : ∀ z : Int, z ≤ (a : Int) * x → -((-z) / (a : Int)) ≤ x := by
        intro z hz
        have : -x ≤ (-z) / (a : Int) := by
          rw [Int.le_ediv_iff_mul_le ha, Int.neg_mul, Int.mul_comm]; omega
        omega
      have high : ∀ z : Int, (a : Int) * x ≤ z → x ≤ z / (a : Int) := by
        intro z hz
        rw [Int.le_ediv_iff_mul_le ha, Int.mul_comm]; omega
      split at h
      · rename_i hb
        cases h
        have g1 := Int.mul_le_mul_of_nonneg_left h1 hb
        have g2 := Int.mul_le_mul_of_nonneg_left h2 hb
        exact ⟨low _ (by omega), high _ (by omega)⟩
      · rename_i hb
        cases h
        have g1 := Int.mul_le_mul_of_nonpos_left (a := b) (by omega) h1
        have g2 := Int.mul_le_mul_of_nonpos_left (a := b) (by omega) h2
        exact ⟨low _ (by omega), high _ (by omega)⟩
  · cases h

/-- The bounds that the list gives, n steps deep. -/
def bndL (f : T → Option (Int × Int)) (p : T) : List Bd → Option (Int × Int)
  | [] => none
  | (q, lo, hi) :: l => meet (match elim q p with
    | none => none
    | some (a, b) => back a b lo hi (f (T.add (T.scale (a : Int) p) (T.scale b q)))) (bndL f p l)

def bnd (fs : Facts) (L : List Bd) : Nat → T → Option (Int × Int)
  | 0, p => rng fs p
  | n + 1, p => match p with
    | .lit c => some (c, c)
    | p => meet (rng fs p) (bndL (bnd fs L n) p L)

theorem bndL_ok {f : T → Option (Int × Int)} (hfn : ∀ t a b, f t = some (a, b) → a ≤ t.ev e ∧ t.ev e ≤ b) (p : T) : ∀ (l : List Bd), Bds.ok e l → ∀ a b, bndL f p l = some (a, b) → a ≤ p.ev e ∧ p.ev e ≤ b := by
  intro l
  induction l with
  | nil => intro _ a b h; cases h
  | cons x l ih =>
    intro hl
    obtain ⟨q, lo, hi⟩ := x
    have hx := hl (q, lo, hi) (by simp)
    refine meet_ok (u := match elim q p with
      | none => none
      | some (a, b) => back a b lo hi (f (T.add (T.scale (a : Int) p) (T.scale b q)))) (v := bndL f p l) ?_ (ih (fun y hy => hl y (by simp [hy]))) rfl
    intro a b h
    split at h
    · cases h
    · rename_i c d _
      refine back_ok (f := q.ev e) (r := f (T.add (T.scale (c : Int) p) (T.scale d q))) (fun u v huv => ?_) hx.1 hx.2 a b h
      have := hfn _ u v huv
      rw [add_ev, scale_ev, scale_ev] at this
      exact this

theorem bnd_ok (hf : fs.ok e) {L : List Bd} (hL : Bds.ok e L) : ∀ n p a b, bnd fs L n p = some (a, b) → a ≤ p.ev e ∧ p.ev e ≤ b := by
  intro n
  induction n with
  | zero => intro p a b h; exact rng_ok hf p a b h
  | succ n ih =>
    intro p a b h
    unfold bnd at h
    split at h
    · cases h; rw [ev_lit]; omega
    · exact meet_ok (rng_ok hf p) (bndL_ok ih p L hL) rfl a b h

/-! ## The list of what is known -/

/-- What a fact says of sums. -/
def bdOf (fs : Facts) (x : T × Int × Int) : List Bd :=
  match x with
  | (t, lo, hi) => match t with
    | .op .eq0 p _ _ => if 1 ≤ lo then [(expand fs 4 p, 0, 0)] else if hi ≤ 0 then (match rng fs p with
      | some (a, b) => if a = 0 then [(expand fs 4 p, 1, b)] else if b = 0 then [(expand fs 4 p, a, -1)] else []
      | none => []) else []
    | .op .le0 p _ _ => match rng fs p with
      | some (a, b) => if 1 ≤ lo then [(expand fs 4 p, a, 0)] else if hi ≤ 0 then [(expand fs 4 p, 1, b)] else []
      | none => []
    | .op o a b k => [(expand fs 4 (T.atom (.op o a b k)), lo, hi)]
    | .var i x y => [(T.atom (.var i x y), lo, hi)]
    | .term c m r => [(expand fs 4 (.term c m r), lo, hi)]
    | _ => []

/-- What a quotient leaves. -/
def divsOf (seen : List Bd) : T → List Bd → List Bd
  | .term _ m r, l => divsOf seen r (match m with
    | .prod (.op .div a x (j + 1)) .one => (T.sub a (.term ((j + 1 : Nat) : Int) (.prod (.op .div a x (j + 1)) .one) (.lit 0)), 0, (j : Int)) :: l
    | _ => l)
  | _, l => l

def divsAll (l : List Bd) : List Bd → List Bd → List Bd
  | [], r => r
  | x :: xs, r => divsAll l xs (divsOf l x.1 r)

def dedup : List Bd → List Bd
  | [] => []
  | x :: l => match dedup l with
    | r => bif r.any (fun y => T.same x.1 y.1 && icmp x.2.1 y.2.1 == 1 && icmp x.2.2 y.2.2 == 1) then r else x :: r

theorem dedup_mem : ∀ (l : List Bd) x, x ∈ dedup l → x ∈ l := by
  intro l
  induction l with
  | nil => intro x h; exact h
  | cons y l ih =>
    intro x h
    simp only [dedup] at h
    cases hc : ((dedup l).any fun z => T.same y.1 z.1 && icmp y.2.1 z.2.1 == 1 && icmp y.2.2 z.2.2 == 1) with
    | true => rw [hc] at h; exact List.mem_cons_of_mem _ (ih x h)
    | false =>
      rw [hc] at h
      simp only [cond_false, List.mem_cons] at h
      rcases h with rfl | h
      · simp
      · exact List.mem_cons_of_mem _ (ih x h)

theorem bdOf_ok (hf : fs.ok e) {x : T × Int × Int} (hx : x.2.1 ≤ x.1.ev e ∧ x.1.ev e ≤ x.2.2) : Bds.ok e (bdOf fs x) := by
  obtain ⟨t, lo, hi⟩ := x
  simp only at hx
  unfold bdOf
  intro y hy
  simp only at hy
  split at hy
  · rename_i p _ _
    split at hy
    · simp only [List.mem_singleton] at hy
      subst hy
      rw [ev_eq0] at hx
      simp only
      rw [expand_ev hf]
      split at hx <;> omega
    · split at hy
      · split at hy
        · rename_i a b hr
          have h := rng_ok hf _ _ _ hr
          rw [ev_eq0] at hx
          split at hy
          · simp only [List.mem_singleton] at hy
            subst hy
            simp only
            rw [expand_ev hf]
            split at hx <;> omega
          · split at hy
            · simp only [List.mem_singleton] at hy
              subst hy
              simp only
              rw [expand_ev hf]
              split at hx <;> omega
            · cases hy
        · cases hy
      · cases hy
  · rename_i p _ _
    split at hy
    · rename_i a b hr
      have h := rng_ok hf _ _ _ hr
      rw [ev_le0] at hx
      split at hy
      · simp only [List.mem_singleton] at hy
        subst hy
        simp only
        rw [expand_ev hf]
        split at hx <;> omega
      · split at hy
        · simp only [List.mem_singleton] at hy
          subst hy
          simp only
          rw [expand_ev hf]
          split at hx <;> omega
        · cases hy
    · cases hy
  · simp only [List.mem_singleton] at hy
    subst hy
    simp only
    rw [expand_ev hf, atom_ev]; exact hx
  · simp only [List.mem_singleton] at hy
    subst hy
    simp only
    rw [atom_ev]; exact hx
  · simp only [List.mem_singleton] at hy
    subst hy
    simp only
    rw [expand_ev hf]; exact hx
  · cases hy

theorem divsOf_ok (s : List Bd) : ∀ (t : T) (l : List Bd), Bds.ok e l → Bds.ok e (divsOf s t l) := by
  intro t
  induction t with
  | term c m r ihm ihr =>
    intro l hl
    simp only [divsOf]
    refine ihr _ ?_
    split
    · rename_i a x j
      intro y hy
      simp only [List.mem_cons] at hy
      rcases hy with rfl | hy
      · simp only
        rw [sub_ev, ev_term, ev_prod, ev_div, ev_one, ev_lit]
        have h1 := Int.emod_add_mul_ediv (a.ev e) ((j + 1 : Nat) : Int)
        have h2 := Int.emod_nonneg (a.ev e) (b := ((j + 1 : Nat) : Int)) (by omega)
        have h3 := Int.emod_lt_of_pos (a.ev e) (b := ((j + 1 : Nat) : Int)) (by omega)
        rw [Int.mul_one]
        omega
      · exact hl y hy
    · exact hl
  | _ => intro l hl; exact hl

theorem divsAll_ok (s : List Bd) : ∀ (l r : List Bd), Bds.ok e r → Bds.ok e (divsAll s l r) := by
  intro l
  induction l with
  | nil => intro r hr; exact hr
  | cons x l ih => intro r hr; exact ih _ (divsOf_ok s x.1 r hr)

def bds (fs : Facts) (p : T) : List Bd :=
  match fs.flatMap (bdOf fs) with
  | L => dedup (divsAll L ((p, 0, 0) :: L) L)

theorem bds_ok (hf : fs.ok e) (p : T) : Bds.ok e (bds fs p) := by
  unfold bds
  simp only
  intro x hx
  have hL : Bds.ok e (fs.flatMap (bdOf fs)) := by
    intro y hy
    simp only [List.mem_flatMap] at hy
    obtain ⟨z, hz, hy⟩ := hy
    exact bdOf_ok hf (hf z hz) y hy
  exact divsAll_ok _ _ _ hL x (dedup_mem _ x hx)

/-! ## Tests that are decided by several facts -/

def sgn0 : Option (Int × Int) → Option Bool
  | some (x, y) => if 0 < x ∨ y < 0 then some false else if 0 ≤ x ∧ y ≤ 0 then some true else none
  | none => none
def sgnLe : Option (Int × Int) → Option Bool
  | some (x, y) => if y ≤ 0 then some true else if 0 < x then some false else none
  | none => none

def deepAtom (fs : Facts) (a : T) : Option Bool :=
  match a with
  | .op .eq0 p _ _ => match expand fs 4 p with
    | p' => sgn0 (bnd fs (bds fs p') 3 p')
  | .op .le0 p _ _ => match expand fs 4 p with
    | p' => sgnLe (bnd fs (bds fs p') 3 p')
  | a => match expand fs 4 (T.atom a) with
    | p' => match sgnLe (bnd fs (bds fs p') 3 p') with
      | some b => some (!b)
      | none => none

theorem deepAtom_ok (hf : fs.ok e) {a : T} {v b : Bool} (hv : a.ev e = bint v) (h : deepAtom fs a = some b) : v = b := by
  have key : ∀ p : T, ∀ x y, bnd fs (bds fs (expand fs 4 p)) 3 (expand fs 4 p) = some (x, y) → x ≤ p.ev e ∧ p.ev e ≤ y := by
    intro p x y hb
    have := bnd_ok hf (bds_ok hf (expand fs 4 p)) 3 _ x y hb
    rw [expand_ev hf] at this; exact this
  unfold deepAtom at h
  split at h
  · rename_i p _ _
    simp only at h
    rw [ev_eq0] at hv
    generalize hb : bnd fs (bds fs (expand fs 4 p)) 3 (expand fs 4 p) = r at h
    cases r with
    | none => cases h
    | some xy =>
      have hk := key p _ _ hb
      simp only [sgn0] at h
      split at h
      · cases h
        rw [if_neg (by omega)] at hv
        cases v
        · rfl
        · simp [bint] at hv
      · split at h
        · cases h
          rw [if_pos (by omega)] at hv
          cases v
          · simp [bint] at hv
          · rfl
        · cases h
  · rename_i p _ _
    simp only at h
    rw [ev_le0] at hv
    generalize hb : bnd fs (bds fs (expand fs 4 p)) 3 (expand fs 4 p) = r at h
    cases r with
    | none => cases h
    | some xy =>
      have hk := key p _ _ hb
      simp only [sgnLe] at h
      split at h
      · cases h
        rw [if_pos (by omega)] at hv
        cases v
        · simp [bint] at hv
        · rfl
      · split at h
        · cases h
          rw [if_neg (by omega)] at hv
          cases v
          · rfl
          · simp [bint] at hv
        · cases h
  · simp only at h
    generalize hb : bnd fs (bds fs (expand fs 4 (T.atom a))) 3 (expand fs 4 (T.atom a)) = r at h
    cases r with
    | none => cases h
    | some xy =>
      have hk := key (T.atom a) _ _ hb
      rw [atom_ev, hv] at hk
      simp only [sgnLe] at h
      split at h
      · rename_i b' hs
        split at hs
        · cases hs; cases h
          cases v
          · rfl
          · simp [bint] at hk; omega
        · split at hs
          · cases hs; cases h
            cases v
            · simp [bint] at hk; omega
            · rfl
          · cases hs
      · cases h

/-- What an atom is, if that is known. -/
def litA (fs : Facts) (a : T) : Option Int := match rng fs a with
  | some (x, y) => bif icmp x y == 1 then some x else none
  | none => none

theorem litA_ok (hf : fs.ok e) {a : T} {n : Int} (h : litA fs a = some n) : a.ev e = n := by
  unfold litA at h
  split at h
  · rename_i x y hr
    have h1 := rng_ok hf _ _ _ hr
    cases hc : (icmp x y == 1) with
    | true =>
      rw [hc] at h; simp only [cond_true, Option.some.injEq] at h
      have : x = y := icmp_eq (by simpa using hc)
      omega
    | false => rw [hc] at h; cases h
  · cases h

def substM (fs : Facts) : T → T
  | .prod a m => match litA fs a with
    | some n => (match n with
      | .ofNat 0 => .lit 0
      | n => T.scale n (substM fs m))
    | none => T.mul fs (T.atom a) (substM fs m)
  | .one => .lit 1
  | m => .term 1 m (.lit 0)

def substF (fs : Facts) : T → T
  | .term c m r => match substM fs m with
    | .lit (.ofNat 0) => substF fs r
    | x => T.add (T.scale c x) (substF fs r)
  | t => t

theorem substM_ev (hf : fs.ok e) : ∀ m, (substM fs m).ev e = m.ev e := by
  intro m
  induction m with
  | prod a m iha ihm =>
    simp only [substM]
    split
    · rename_i n hn
      have := litA_ok hf hn
      split
      · have h0 : a.ev e = 0 := this
        rw [ev_prod, h0, ev_lit]; simp
      · rw [scale_ev, ihm, ev_prod, this]
    · rw [mul_ev hf, atom_ev, ihm, ev_prod]
  | one => rfl
  | _ => simp only [substM]; rw [ev_term, show (T.lit 0).ev e = 0 from rfl]; omega

theorem substF_ev (hf : fs.ok e) : ∀ t, (substF fs t).ev e = t.ev e := by
  intro t
  induction t with
  | term c m r ihm ihr =>
    simp only [substF]
    have hm := substM_ev hf m
    split
    · rename_i h
      rw [h] at hm
      have h0 : m.ev e = 0 := by rw [← hm]; rfl
      rw [ihr, ev_term, h0]; simp
    · rw [add_ev, scale_ev, hm, ihr, ev_term]
  | _ => rfl

def pickM (fs : Facts) : T → Option T
  | .prod a m => bif isBit fs a then some a else pickM fs m
  | _ => none
def pick (fs : Facts) : T → Option T
  | .term _ m r => match pickM fs m with
    | some a => some a
    | none => pick fs r
  | _ => none

theorem pickM_ok : ∀ {m a : T}, pickM fs m = some a → isBit fs a = true := by
  intro m
  induction m with
  | prod b m ihb ihm =>
    intro a h
    simp only [pickM] at h
    cases hb : isBit fs b with
    | true => rw [hb] at h; cases h; exact hb
    | false => rw [hb] at h; exact ihm h
  | _ => intro a h; cases h
theorem pick_ok : ∀ {t a : T}, pick fs t = some a → isBit fs a = true := by
  intro t
  induction t with
  | term c m r ihm ihr =>
    intro a h
    simp only [pick] at h
    split at h
    · rename_i b hb; cases h; exact pickM_ok hb
    · exact ihr h
  | _ => intro a h; cases h

/-- Is c no more than one atom? -/
def lone (c : T) : Bool := match c with
  | .term _ (.prod _ .one) (.lit _) => true
  | _ => false

/-- Both ways. none: it can't be. -/
def both : Option (Option Bool) → Option (Option Bool) → Option Bool
  | none, some x => x
  | some x, none => x
  | some (some a), some (some b) => bif a == b then some a else none
  | _, _ => none

/-- A quotient that is one of two numbers. -/
def two1 (fs : Facts) : T → Option (T × Int)
  | .term _ m r => match m with
    | .prod (.op .div a x k) .one => (match rng fs (.op .div a x k) with
      | some (lo, hi) => bif icmp hi (lo + 1) == 1 then some (.op .div a x k, lo) else two1 fs r
      | none => two1 fs r)
    | _ => two1 fs r
  | _ => none
def two (fs : Facts) : List Bd → Option (T × Int)
  | [] => none
  | x :: l => match two1 fs x.1 with
    | some r => some r
    | none => two fs l

theorem two1_ok (hf : fs.ok e) : ∀ {t a : T} {lo : Int}, two1 fs t = some (a, lo) → a.ev e = lo ∨ a.ev e = lo + 1 := by
  intro t
  induction t with
  | term c m r ihm ihr =>
    intro a lo h
    simp only [two1] at h
    split at h
    · split at h
      · rename_i u v hr
        cases hc : (icmp v (u + 1) == 1) with
        | true =>
          rw [hc] at h
          simp only [cond_true, Option.some.injEq, Prod.mk.injEq] at h
          obtain ⟨rfl, rfl⟩ := h
          have h1 := rng_ok hf _ _ _ hr
          have h2 : v = u + 1 := icmp_eq (by simpa using hc)
          omega
        | false => rw [hc] at h; exact ihr h
      · exact ihr h
    · exact ihr h
  | _ => intro a lo h; cases h
theorem two_ok (hf : fs.ok e) : ∀ {l : List Bd} {a : T} {lo : Int}, two fs l = some (a, lo) → a.ev e = lo ∨ a.ev e = lo + 1 := by
  intro l
  induction l with
  | nil => intro a lo h; cases h
  | cons x l ih =>
    intro a lo h
    simp only [two] at h
    split at h
    · rename_i r hr; cases h; exact two1_ok hf hr
    · exact ih h

/-- A deep look, and where it tells nothing: by the quotients that are one of two numbers. -/
def deepSplit : Nat → Facts → T → Option Bool
  | 0, fs, a => deepAtom fs a
  | n + 1, fs, a => match deepAtom fs a with
    | some b => some b
    | none => match two fs (match (match a with
        | .op .eq0 p _ _ => expand fs 4 p
        | .op .le0 p _ _ => expand fs 4 p
        | a => expand fs 4 (T.atom a)) with
        | q => (q, 0, 0) :: bds fs q) with
      | none => none
      | some (d, lo) => both (match addFact d lo lo fs with
        | some fs' => some (deepSplit n fs' a)
        | none => none) (match addFact d (lo + 1) (lo + 1) fs with
        | some fs' => some (deepSplit n fs' a)
        | none => none)

theorem both_ok (d : Option Bool) (x y : Option (Option Bool)) (b : Bool) : both x y = some b → (x = some d ∨ y = some d) → d = some b := by
  rcases d with _ | (_ | _) <;> rcases x with _ | _ | (_ | _) <;> rcases y with _ | _ | (_ | _) <;> cases b <;> decide

theorem deepSplit_ok : ∀ (n : Nat) {fs : Facts} {a : T} {b v : Bool}, fs.ok e → a.ev e = bint v → deepSplit n fs a = some b → v = b := by
  intro n
  induction n with
  | zero => intro fs a b v hf hv h; exact deepAtom_ok hf hv h
  | succ n ih =>
    intro fs a b v hf hv h
    simp only [deepSplit] at h
    split at h
    · rename_i b' hd; cases h; exact deepAtom_ok hf hv hd
    · split at h
      · cases h
      · rename_i d lo ht
        rcases two_ok hf ht with h1 | h1
        · obtain ⟨fs', g1, g2⟩ := addFact_ok (t := d) (lo := lo) (hi := lo) hf (by omega) (by omega)
          rw [g1] at h
          exact ih g2 hv (both_ok _ _ _ b h (.inl rfl))
        · obtain ⟨fs', g1, g2⟩ := addFact_ok (t := d) (lo := lo + 1) (hi := lo + 1) hf (by omega) (by omega)
          rw [g1] at h
          exact ih g2 hv (both_ok _ _ _ b h (.inr rfl))

def decideN : Nat → Facts → T → Option Bool
  | 0, fs, c => known fs c
  | n + 1, fs, c => match known fs c with
    | some b => some b
    | none => match substF fs c with
      | .lit k => some (!(icmp k 0 == 1))
      | c' => match pick fs c' with
        | none => none
        | some a => match deepSplit 3 fs a with
          | some b => (match assumeAtom a b fs with
            | some fs' => decideN n fs' c'
            | none => none)
          | none => bif lone c' then none else both (match assumeAtom a true fs with
            | some fs' => some (decideN n fs' c')
            | none => none) (match assumeAtom a false fs with
            | some fs' => some (decideN n fs' c')
            | none => none)

theorem decideN_ok : ∀ (n : Nat) {fs : Facts} {c : T} {b v : Bool}, fs.ok e → c.ev e = bint v → decideN n fs c = some b → v = b := by
  intro n
  induction n with
  | zero => intro fs c b v hf hc h; exact known_ok hf hc h
  | succ n ih =>
    intro fs c b v hf hc h
    simp only [decideN] at h
    split at h
    · rename_i b' hk; cases h; exact known_ok hf hc hk
    · have hs : (substF fs c).ev e = bint v := by rw [substF_ev hf]; exact hc
      split at h
      · rename_i k hk
        rw [hk] at hs
        exact known_ok (fs := fs) hf hs h
      · split at h
        · cases h
        · rename_i a hp
          have hbit := isBit_ok hf (pick_ok hp)
          have hw : ∃ w, a.ev e = bint w := by
            rcases hbit with h0 | h1
            · exact ⟨false, h0⟩
            · exact ⟨true, h1⟩
          obtain ⟨w, hw⟩ := hw
          split at h
          · rename_i b' hd
            have := deepSplit_ok 3 hf hw hd
            subst this
            obtain ⟨fs', g1, g2⟩ := assumeAtom_ok hf hw
            rw [g1] at h
            exact ih g2 hs h
          · cases hl : lone (substF fs c) with
            | true => rw [hl] at h; cases h
            | false =>
              rw [hl] at h; simp only [cond_false] at h
              obtain ⟨fs', g1, g2⟩ := assumeAtom_ok hf hw
              have hgo : ∀ r, decideN n fs' (substF fs c) = some r → v = r := fun r hr => ih g2 hs hr
              have comb : ∀ x y : Option (Option Bool), both x y = some b → (x = some (decideN n fs' (substF fs c)) ∨ y = some (decideN n fs' (substF fs c))) → decideN n fs' (substF fs c) = some b := by
                intro x y hxy ho
                exact both_ok _ x y b hxy ho
              cases w with
              | true =>
                rw [g1] at h
                exact hgo b (comb _ _ h (.inl rfl))
              | false =>
                rw [g1] at h
                exact hgo b (comb _ _ h (.inr rfl))

/-! ## A sum written anew under what is known by now; splits on the bits within -/

/-- Written anew. -/
def renorm (fs : Facts) : T → T
  | .lit n => .lit n
  | .term c m r => match renorm fs m with
    | .lit (.ofNat 0) => renorm fs r
    | x => T.add (T.scale c x) (renorm fs r)
  | .one => .lit 1
  | .prod a m => match renorm fs a with
    | .lit (.ofNat 0) => .lit 0
    | x => T.mul fs x (renorm fs m)
  | .var i lo hi => match litA fs (.var i lo hi) with
    | some n => .lit n
    | none => T.atom (.var i lo hi)
  | .op o a b k => match litA fs (.op o a b k) with
    | some n => .lit n
    | none => match o, k with
      | .div, j + 1 => T.div fs (j + 1) (renorm fs a)
      | .mod, j + 1 => T.mod fs (j + 1) (renorm fs a)
      | .eq0, _ => T.eq0 fs (renorm fs a)
      | .le0, _ => T.le0 fs (renorm fs a)
      | .band, _ => T.band fs (renorm fs a) (renorm fs b)
      | .bxor, _ => T.bxor fs (renorm fs a) (renorm fs b)
      | .rd, k => T.atom (.op .rd a (renorm fs b) k)
      | o, k => T.atom (.op o a b k)

theorem renorm_ev (hf : fs.ok e) : ∀ t, (renorm fs t).ev e = t.ev e := by
  intro t
  induction t with
  | lit n => rfl
  | one => rfl
  | term c m r ihm ihr =>
    simp only [renorm]
    split
    · rename_i h
      rw [h] at ihm
      have h0 : m.ev e = 0 := by rw [← ihm]; rfl
      rw [ihr, ev_term, h0]; simp
    · rw [add_ev, scale_ev, ihm, ihr, ev_term]
  | prod a m iha ihm =>
    simp only [renorm]
    split
    · rename_i h
      rw [h] at iha
      have h0 : a.ev e = 0 := by rw [← iha]; rfl
      rw [ev_prod, h0, Int.zero_mul]; rfl
    · rw [mul_ev hf, iha, ihm, ev_prod]
  | var i lo hi =>
    simp only [renorm]
    split
    · rename_i n hn; rw [ev_lit, litA_ok hf hn]
    · rw [atom_ev]
  | op o a b k iha ihb =>
    simp only [renorm]
    split
    · rename_i n hn; rw [ev_lit, litA_ok hf hn]
    · split
      · rw [div_ev hf (by omega), iha, ev_div]
      · rw [mod_ev hf (by omega), iha, ev_mod]
      · rw [eq0_ev hf, iha, ev_eq0]
      · rw [le0_ev hf, iha, ev_le0]
      · rw [band_ev hf, iha, ihb, ev_band]
      · rw [bxor_ev hf, iha, ihb, ev_bxor]
      · rw [atom_ev]
        show clamp 0 (2 ^ k - 1) ((a.den e).2.getD ((renorm fs b).ev e).toNat 0) = clamp 0 (2 ^ k - 1) ((a.den e).2.getD (b.ev e).toNat 0)
        rw [ihb]
      · rw [atom_ev]

/-- A bit that stands somewhere within a term. -/
def bitDeep (fs : Facts) : T → Option T
  | .term _ m r => match bitDeep fs m with
    | some a => some a
    | none => bitDeep fs r
  | .prod a m => match bitDeep fs a with
    | some x => some x
    | none => bif isBit fs a then some a else bitDeep fs m
  | .op _ a b _ => match bitDeep fs a with
    | some x => some x
    | none => bitDeep fs b
  | _ => none

theorem bitDeep_ok : ∀ {t a : T}, bitDeep fs t = some a → isBit fs a = true := by
  intro t
  induction t with
  | term c m r ihm ihr =>
    intro a h
    simp only [bitDeep] at h
    split at h
    · rename_i x hx; cases h; exact ihm hx
    · exact ihr h
  | prod b m ihb ihm =>
    intro a h
    simp only [bitDeep] at h
    split at h
    · rename_i x hx; cases h; exact ihb hx
    · cases hb : isBit fs b with
      | true => rw [hb] at h; cases h; exact hb
      | false => rw [hb] at h; exact ihm h
  | op o x y k ihx ihy =>
    intro a h
    simp only [bitDeep] at h
    split at h
    · rename_i z hz; cases h; exact ihx hz
    · exact ihy h
  | _ => intro a h; cases h

/-- An atom within a term that is one of two numbers: the lesser. -/
def pairDeep (fs : Facts) : T → Option (T × Int)
  | .term _ m r => match pairDeep fs m with
    | some a => some a
    | none => pairDeep fs r
  | .prod a m => match pairDeep fs a with
    | some x => some x
    | none => match rng fs a with
      | some (x, y) => bif icmp y (x + 1) == 1 then some (a, x) else pairDeep fs m
      | none => pairDeep fs m
  | .op _ a b _ => match pairDeep fs a with
    | some x => some x
    | none => pairDeep fs b
  | _ => none

theorem pairDeep_ok (hf : fs.ok e) : ∀ {t a : T} {x : Int}, pairDeep fs t = some (a, x) → a.ev e = x ∨ a.ev e = x + 1 := by
  intro t
  induction t with
  | term c m r ihm ihr =>
    intro a x h
    simp only [pairDeep] at h
    split at h
    · rename_i u hu; cases h; exact ihm hu
    · exact ihr h
  | prod b m ihb ihm =>
    intro a x h
    simp only [pairDeep] at h
    split at h
    · rename_i u hu; cases h; exact ihb hu
    · split at h
      · rename_i lo hi hr
        cases hc : (icmp hi (lo + 1) == 1) with
        | true =>
          rw [hc] at h; cases h
          have h1 := rng_ok hf _ _ _ hr
          have h2 : hi = x + 1 := icmp_eq (by simpa using hc)
          omega
        | false => rw [hc] at h; exact ihm h
      · exact ihm h
  | op o u v k ihu ihv =>
    intro a x h
    simp only [pairDeep] at h
    split at h
    · rename_i z hz; cases h; exact ihu hz
    · exact ihv h
  | _ => intro a x h; cases h

/-- An atom is a number. -/
def setAtom (a : T) (v : Int) (fs : Facts) : Option Facts := match addFact a v v fs with
  | none => none
  | some fs => match a with
    | .op .div (.term (.ofNat 1) (.prod x .one) (.lit n)) _ (k + 1) => addFact x (((k + 1 : Nat) : Int) * v - n) (((k + 1 : Nat) : Int) * v + (k : Int) - n) fs
    | _ => some fs

theorem setAtom_ok (hf : fs.ok e) {a : T} {v : Int} (h : a.ev e = v) : ∃ fs', setAtom a v fs = some fs' ∧ fs'.ok e := by
  obtain ⟨fs1, h1, hf1⟩ := addFact_ok (t := a) (lo := v) (hi := v) hf (by omega) (by omega)
  unfold setAtom
  rw [h1]
  simp only
  split
  · rename_i x n b k
    have hx : (T.term (.ofNat 1) (.prod x .one) (.lit n)).ev e = x.ev e + n := by simp [ev_term, ev_prod, ev_one, ev_lit]
    rw [ev_div, hx] at h
    have g1 := Int.emod_add_mul_ediv (x.ev e + n) ((k + 1 : Nat) : Int)
    have g2 := Int.emod_nonneg (x.ev e + n) (b := ((k + 1 : Nat) : Int)) (by omega)
    have g3 := Int.emod_lt_of_pos (x.ev e + n) (b := ((k + 1 : Nat) : Int)) (by omega)
    rw [h] at g1
    exact addFact_ok hf1 (by omega) (by omega)
  · exact ⟨_, rfl, hf1⟩

/-- Can all that is known be so? Sums of products, looked at anew. -/
def maybe (fs : Facts) : Facts → Bool
  | [] => true
  | (t, lo, hi) :: l => (match pickBit [] t t with
    | none => true
    | some _ => match rng fs (substF fs t) with
      | some (x, y) => decide (imax x lo ≤ imin y hi)
      | none => true) && maybe fs l

theorem maybe_ok (hf : fs.ok e) : ∀ {l : Facts}, l.ok e → maybe fs l = true := by
  intro l
  induction l with
  | nil => intro _; rfl
  | cons x l ih =>
    intro hl
    obtain ⟨t, lo, hi⟩ := x
    have hx := hl (t, lo, hi) (by simp)
    simp only [maybe, Bool.and_eq_true]
    refine ⟨?_, ih (fun y hy => hl y (by simp [hy]))⟩
    split
    · rfl
    · split
      · rename_i x y hr
        have := rng_ok hf _ _ _ hr
        rw [substF_ev hf] at this
        simp only [decide_eq_true_eq]
        unfold imax imin
        simp only at hx
        split <;> split <;> omega
      · rfl

/-- What follows from sums of products, of which but one bit is left. -/
def prop : Facts → Facts → Option Facts
  | [], acc => some acc
  | (t, lo, hi) :: l, acc => match pickBit [] t t with
    | none => prop l acc
    | some _ => match substF acc t with
      | .term c (.prod a .one) (.lit n) => bif isBit acc a && icmp lo hi == 1 then
          (if c + n = lo ∧ n ≠ lo then (match assumeAtom a true acc with
            | some f => prop l f
            | none => none)
          else if n = lo ∧ c + n ≠ lo then (match assumeAtom a false acc with
            | some f => prop l f
            | none => none)
          else prop l acc) else prop l acc
      | _ => prop l acc

theorem prop_ok : ∀ {l acc : Facts}, l.ok e → acc.ok e → ∃ f, prop l acc = some f ∧ f.ok e := by
  intro l
  induction l with
  | nil => intro acc _ ha; exact ⟨acc, rfl, ha⟩
  | cons x l ih =>
    intro acc hl ha
    obtain ⟨t, lo, hi⟩ := x
    have hx := hl (t, lo, hi) (by simp)
    have hl' : Facts.ok e l := fun y hy => hl y (by simp [hy])
    simp only at hx
    simp only [prop]
    split
    · exact ih hl' ha
    · split
      · rename_i c a n hsub
        have hs := substF_ev ha t
        rw [hsub] at hs
        have hs' : c * a.ev e + n = t.ev e := by
          rw [← hs, ev_term, ev_prod, ev_one, ev_lit, Int.mul_one]
        cases hc : (isBit acc a && icmp lo hi == 1) with
        | false => exact ih hl' ha
        | true =>
          simp only [cond_true]
          simp only [Bool.and_eq_true, beq_iff_eq] at hc
          have hb := isBit_ok ha hc.1
          have hlh : lo = hi := icmp_eq hc.2
          split
          · rename_i hcond
            have hv : a.ev e = bint true := by
              rcases hb with h0 | h1
              · rw [h0] at hs'; simp at hs'; omega
              · exact h1
            obtain ⟨f, g1, g2⟩ := assumeAtom_ok ha hv
            rw [g1]
            exact ih hl' g2
          · split
            · rename_i hcond
              have hv : a.ev e = bint false := by
                rcases hb with h0 | h1
                · exact h0
                · rw [h1] at hs'; simp at hs'; omega
              obtain ⟨f, g1, g2⟩ := assumeAtom_ok ha hv
              rw [g1]
              exact ih hl' g2
            · exact ih hl' ha
      · exact ih hl' ha

/-- A test, written anew, and by the bits within it. -/
def decideR : Nat → Facts → T → Option Bool
  | 0, fs, c => match renorm fs c with
    | .lit k => some (!(icmp k 0 == 1))
    | c' => known fs c'
  | n + 1, fs, c => match renorm fs c with
    | .lit k => some (!(icmp k 0 == 1))
    | c' => match known fs c' with
      | some b => some b
      | none => match bitDeep fs c' with
        | none => (match pairDeep fs c' with
          | none => none
          | some (a, x) => match setAtom a x fs, setAtom a (x + 1) fs with
            | some f1, some f0 => (match decideR n f1 c' with
              | some b => (match decideR n f0 c' with
                | some b' => bif b == b' then some b else none
                | none => none)
              | none => none)
            | some f1, none => decideR n f1 c'
            | none, some f0 => decideR n f0 c'
            | none, none => none)
        | some a => bif lone c' && inT a c' then none else
          match (match assumeAtom a true fs with
            | some f => bif maybe f f then prop f f else none
            | none => none), (match assumeAtom a false fs with
            | some f => bif maybe f f then prop f f else none
            | none => none) with
          | some f1, some f0 => (match decideR n f1 c' with
            | some b => (match decideR n f0 c' with
              | some b' => bif b == b' then some b else none
              | none => none)
            | none => none)
          | some f1, none => decideR n f1 c'
          | none, some f0 => decideR n f0 c'
          | none, none => none

theorem decideR_ok : ∀ (n : Nat) {fs : Facts} {c : T} {b v : Bool}, fs.ok e → c.ev e = bint v → decideR n fs c = some b → v = b := by
  intro n
  induction n with
  | zero =>
    intro fs c b v hf hc h
    simp only [decideR] at h
    have hr := renorm_ev hf c
    split at h
    · rename_i k hk
      rw [hk, hc] at hr
      exact known_ok (fs := fs) (c := .lit k) hf hr h
    · exact known_ok hf (by rw [hr]; exact hc) h
  | succ n ih =>
    intro fs c b v hf hc h
    simp only [decideR] at h
    have hr := renorm_ev hf c
    split at h
    · rename_i k hk
      rw [hk, hc] at hr
      exact known_ok (fs := fs) (c := .lit k) hf hr h
    · rw [hc] at hr
      split at h
      · rename_i b' hk; cases h; exact known_ok hf hr hk
      · split at h
        · split at h
          · cases h
          · rename_i a x ha
            rcases pairDeep_ok hf ha with hv | hv
            · obtain ⟨f1, g1, g2⟩ := setAtom_ok hf hv
              rw [g1] at h
              split at h
              · rename_i e1 _; cases e1
                split at h
                · rename_i u1 hu1
                  split at h
                  · rename_i u0 hu0
                    cases hb : (u1 == u0) with
                    | false => rw [hb] at h; cases h
                    | true => rw [hb] at h; cases h; exact ih g2 hr hu1
                  · cases h
                · cases h
              · rename_i e1 _; cases e1; exact ih g2 hr h
              · rename_i e1 _; cases e1
              · cases h
            · obtain ⟨f0, g1, g2⟩ := setAtom_ok hf hv
              rw [g1] at h
              split at h
              · rename_i e0; cases e0
                split at h
                · rename_i u1 hu1
                  split at h
                  · rename_i u0 hu0
                    cases hb : (u1 == u0) with
                    | false => rw [hb] at h; cases h
                    | true =>
                      have h2 := beq_iff_eq.1 hb
                      rw [hb] at h; cases h
                      have := ih g2 hr hu0
                      rw [this, h2]
                  · cases h
                · cases h
              · rename_i e0; cases e0
              · rename_i e0; cases e0; exact ih g2 hr h
              · rename_i e0; cases e0
        · rename_i a ha
          cases hl : (lone (renorm fs c) && inT a (renorm fs c)) with
          | true => rw [hl] at h; cases h
          | false =>
            rw [hl] at h; simp only [cond_false] at h
            rcases isBit_ok hf (bitDeep_ok ha) with hv | hv
            · obtain ⟨f0', g1, g2'⟩ := assumeAtom_ok (b := false) hf hv
              have gm := maybe_ok g2' g2'
              obtain ⟨f0, gp, g2⟩ := prop_ok g2' g2'
              rw [g1] at h
              simp only [gm, cond_true, gp] at h
              split at h
              · rename_i e0; cases e0
                split at h
                · rename_i b1 _
                  split at h
                  · rename_i b0 h0
                    cases hb : (b1 == b0) with
                    | false => rw [hb] at h; cases h
                    | true =>
                      have h2 := beq_iff_eq.1 hb
                      rw [hb] at h; cases h
                      have := ih g2 hr h0
                      rw [this, h2]
                  · cases h
                · cases h
              · rename_i e0; cases e0
              · rename_i e0; cases e0; exact ih g2 hr h
              · cases h
            · obtain ⟨f1', g1, g2'⟩ := assumeAtom_ok (b := true) hf hv
              have gm := maybe_ok g2' g2'
              obtain ⟨f1, gp, g2⟩ := prop_ok g2' g2'
              rw [g1] at h
              simp only [gm, cond_true, gp] at h
              split at h
              · rename_i e1 _; cases e1
                split at h
                · rename_i u1 hu1
                  split at h
                  · rename_i u0 hu0
                    cases hb : (u1 == u0) with
                    | false => rw [hb] at h; cases h
                    | true => rw [hb] at h; cases h; exact ih g2 hr hu1
                  · cases h
                · cases h
              · rename_i e1 _; cases e1; exact ih g2 hr h
              · rename_i e1 _; cases e1
              · cases h

/-- An atom written anew, but not by what is known of itself. -/
def renTop (fs : Facts) : T → T
  | .op o a b k => match o, k with
    | .div, j + 1 => T.div fs (j + 1) (renorm fs a)
    | .mod, j + 1 => T.mod fs (j + 1) (renorm fs a)
    | .eq0, _ => T.eq0 fs (renorm fs a)
    | .le0, _ => T.le0 fs (renorm fs a)
    | .band, _ => T.band fs (renorm fs a) (renorm fs b)
    | .bxor, _ => T.bxor fs (renorm fs a) (renorm fs b)
    | .rd, k => T.atom (.op .rd a (renorm fs b) k)
    | o, k => T.atom (.op o a b k)
  | t => .term 1 t (.lit 0)

theorem renTop_ev (hf : fs.ok e) (t : T) : (renTop fs t).ev e = t.ev e := by
  cases t with
  | op o a b k =>
    simp only [renTop]
    split
    · rw [div_ev hf (by omega), renorm_ev hf, ev_div]
    · rw [mod_ev hf (by omega), renorm_ev hf, ev_mod]
    · rw [eq0_ev hf, renorm_ev hf, ev_eq0]
    · rw [le0_ev hf, renorm_ev hf, ev_le0]
    · rw [band_ev hf, renorm_ev hf, renorm_ev hf, ev_band]
    · rw [bxor_ev hf, renorm_ev hf, renorm_ev hf, ev_bxor]
    · rw [atom_ev]
      show clamp 0 (2 ^ k - 1) ((a.den e).2.getD ((renorm fs b).ev e).toNat 0) = clamp 0 (2 ^ k - 1) ((a.den e).2.getD (b.ev e).toNat 0)
      rw [renorm_ev hf]
    · rw [atom_ev]
  | _ => simp only [renTop, ev_term, ev_lit]; omega

/-- What is known, written anew under what is known. -/
def renF (fs : Facts) : Facts → Facts
  | [] => []
  | x :: l => match asAtom (renTop fs x.1) with
    | some a => bif T.same a x.1 then renF fs l else (a, x.2) :: renF fs l
    | none => renF fs l

theorem renF_ok (hf : fs.ok e) : ∀ l : Facts, Facts.ok e l → Facts.ok e (renF fs l) := by
  intro l
  induction l with
  | nil => intro h; exact h
  | cons x l ih =>
    intro h
    have hl := ih (fun y hy => h y (List.mem_cons_of_mem _ hy))
    simp only [renF]
    split
    · rename_i a ha
      cases hs : T.same a x.1 with
      | true => exact hl
      | false =>
        simp only [cond_false]
        intro y hy
        rcases List.mem_cons.1 hy with rfl | hy
        · have h1 := h x (List.mem_cons_self ..)
          have h2 := asAtom_ev e ha
          rw [renTop_ev hf] at h2
          show x.2.1 ≤ a.ev e ∧ a.ev e ≤ x.2.2
          rw [← h2]; exact h1
        · exact hl y hy
    · exact hl

def knownF (fs : Facts) (c : T) : Option Bool := match renF fs fs with
  | [] => none
  | l => known (l ++ fs) (renorm (l ++ fs) c)

theorem knownF_ok (hf : fs.ok e) {c : T} {b v : Bool} (hc : c.ev e = bint v) (h : knownF fs c = some b) : v = b := by
  unfold knownF at h
  split at h
  · cases h
  · have hl : Facts.ok e (renF fs fs ++ fs) := by
      intro x hx
      rcases List.mem_append.1 hx with hx | hx
      · exact renF_ok hf fs hf x hx
      · exact hf x hx
    exact known_ok hl (by rw [renorm_ev hl]; exact hc) h

/-- Is a test decided? -/
def knownD (fs : Facts) (c : T) : Option Bool := match known fs c with
  | some b => some b
  | none => match knownF fs c with
    | some b => some b
    | none => match decideR 4 fs c with
      | some b => some b
      | none => decideN 5 fs c

theorem knownD_ok (hf : fs.ok e) {c : T} {b v : Bool} (hc : c.ev e = bint v) (h : knownD fs c = some b) : v = b := by
  unfold knownD at h
  split at h
  · rename_i b' hb; cases h; exact known_ok hf hc hb
  · split at h
    · rename_i b' hb; cases h; exact knownF_ok hf hc hb
    · split at h
      · rename_i b' hb; cases h; exact decideR_ok 4 hf hc hb
      · exact decideN_ok 5 hf hc h

/-- ... sh: by a short look alone. -/
def knownX (sh : Bool) (fs : Facts) (c : T) : Option Bool := bif sh then known fs c else knownD fs c
theorem knownX_ok {sh : Bool} (hf : fs.ok e) {c : T} {b v : Bool} (hc : c.ev e = bint v) (h : knownX sh fs c = some b) : v = b := by
  cases sh with
  | true => exact known_ok hf hc h
  | false => exact knownD_ok hf hc h

end
end Go.Sx

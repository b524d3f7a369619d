/- Symbolic values, rows of memory, and what they stand for. -/
import Derived.Test.YtnhphhlojkhlcaaGreatDoorGxDeep
import Derived.Below
import Derived.Orders
namespace Go.Sx
open Go Go.RowKit

/-! ## A tree for numbered things -/

inductive Tr (α : Type) where
  | e
  | n (l : Tr α) (v : Option α) (r : Tr α)

namespace Tr
variable {α : Type}

def get : Tr α → Nat → Option α
  | .e, _ => none
  | .n l v r, i => bif Nat.beq i 0 then v else bif Nat.beq (i % 2) 1 then get l (i / 2) else get r (i / 2 - 1)

def mk (x : Option α) : Nat → Nat → Tr α
  | 0, _ => .e
  | f + 1, i => bif Nat.beq i 0 then .n .e x .e else bif Nat.beq (i % 2) 1 then .n (mk x f (i / 2)) none .e else .n .e none (mk x f (i / 2 - 1))

def set (x : Option α) : Tr α → Nat → Tr α
  | .e, i => mk x (i + 1) i
  | .n l v r, i => bif Nat.beq i 0 then .n l x r else bif Nat.beq (i % 2) 1 then .n (set x l (i / 2)) v r else .n l v (set x r (i / 2 - 1))

theorem beq_false {a b : Nat} (h : a ≠ b) : Nat.beq a b = false := by
  cases hb : Nat.beq a b with
  | false => rfl
  | true => exact absurd (Nat.eq_of_beq_eq_true hb) h
theorem beq_true {a b : Nat} (h : a = b) : Nat.beq a b = true := by subst h; exact Nat.beq_refl a

theorem get_mk (x : Option α) : ∀ (f i j : Nat), i < f → (mk x f i).get j = if i = j then x else none := by
  intro f
  induction f with
  | zero => intro i j h; omega
  | succ f ih =>
    intro i j h
    unfold mk
    by_cases hi : i = 0
    · rw [beq_true hi]; simp only [cond_true, get]
      by_cases hj : j = 0
      · rw [beq_true hj, if_pos (by omega)]; rfl
      · rw [beq_false hj, if_neg (by omega)]; cases Nat.beq (j % 2) 1 <;> rfl
    · rw [beq_false hi]; simp only [cond_false]
      by_cases hp : i % 2 = 1
      · rw [beq_true hp]; simp only [cond_true, get]
        by_cases hj : j = 0
        · rw [beq_true hj, if_neg (by omega)]; rfl
        · rw [beq_false hj]; simp only [cond_false]
          by_cases hq : j % 2 = 1
          · rw [beq_true hq]; simp only [cond_true]; rw [ih _ _ (by omega)]
            by_cases hij : i = j
            · rw [if_pos (by omega), if_pos hij]
            · rw [if_neg (by omega), if_neg hij]
          · rw [beq_false hq, if_neg (by omega)]; rfl
      · rw [beq_false hp]; simp only [cond_false, get]
        by_cases hj : j = 0
        · rw [beq_true hj, if_neg (by omega)]; rfl
        · rw [beq_false hj]; simp only [cond_false]
          by_cases hq : j % 2 = 1
          · rw [beq_true hq, if_neg (by omega)]; rfl
          · rw [beq_false hq]; simp only [cond_false]; rw [ih _ _ (by omega)]
            by_cases hij : i = j
            · rw [if_pos (by omega), if_pos hij]
            · rw [if_neg (by omega), if_neg hij]

theorem get_set (x : Option α) : ∀ (t : Tr α) (i j : Nat), (set x t i).get j = if i = j then x else t.get j := by
  intro t
  induction t with
  | e => intro i j; simp only [set, get_mk x (i + 1) i j (by omega), get]
  | n l v r ihl ihr =>
    intro i j
    unfold set
    by_cases hi : i = 0
    · rw [beq_true hi]; simp only [cond_true, get]
      by_cases hj : j = 0
      · rw [beq_true hj, if_pos (by omega)]; rfl
      · rw [beq_false hj, if_neg (by omega)]; rfl
    · rw [beq_false hi]; simp only [cond_false]
      by_cases hp : i % 2 = 1
      · rw [beq_true hp]; simp only [cond_true, get]
        by_cases hj : j = 0
        · rw [beq_true hj, if_neg (by omega)]; rfl
        · rw [beq_false hj]; simp only [cond_false]
          by_cases hq : j % 2 = 1
          · rw [beq_true hq]; simp only [cond_true]; rw [ihl]
            by_cases hij : i = j
            · rw [if_pos (by omega), if_pos hij]
            · rw [if_neg (by omega), if_neg hij]
          · rw [beq_false hq, if_neg (by omega)]; rfl
      · rw [beq_false hp]; simp only [cond_false, get]
        by_cases hj : j = 0
        · rw [beq_true hj, if_neg (by omega)]; rfl
        · rw [beq_false hj]; simp only [cond_false]
          by_cases hq : j % 2 = 1
          · rw [beq_true hq, if_neg (by omega)]; rfl
          · rw [beq_false hq]; simp only [cond_false]; rw [ihr]
            by_cases hij : i = j
            · rw [if_pos (by omega), if_pos hij]
            · rw [if_neg (by omega), if_neg hij]
end Tr

/-! ## Values -/

inductive SV where
  | junk
  | int (k : IntKind) (p : T)
  | bool (p : T)
  | str (l : List Nat)
  | nilp
  | ptr (b : Nat) (off : T)
  | nils
  | slice (b : Nat) (off len : T) (cap : Option T) (sz : Nat)
  | nslice (b : Nat) (off len cap : T) (sz : Nat) (nl : T)
  | when (q : T) (v : SV)
  | nilm
  | map (b : Nat)
  | fn (f : FuncId) (first caps : List SV)
  | nilf
  | iface (t : TypeId) (v : SV)
  | nili
  | agg (l : List SV)
  | tup (l : List SV)
  deriving Inhabited

/-- The bytes of a text. -/
def bytesOf (l : List Nat) : ByteArray := ⟨(l.map (fun n => UInt8.ofNat n)).toArray⟩
def natsOf (s : ByteArray) : List Nat := s.data.toList.map (fun b => b.toNat)

theorem bytesOf_natsOf (s : ByteArray) : bytesOf (natsOf s) = s := by
  obtain ⟨⟨l⟩⟩ := s
  unfold bytesOf natsOf
  simp [List.map_map, Function.comp_def]

theorem natsOf_lt (s : ByteArray) : ∀ x ∈ natsOf s, x < 256 := by
  intro x hx
  unfold natsOf at hx
  obtain ⟨b, _, rfl⟩ := List.mem_map.1 hx
  exact b.toNat_lt

theorem natsOf_bytesOf {l : List Nat} (h : ∀ x ∈ l, x < 256) : natsOf (bytesOf l) = l := by
  unfold natsOf bytesOf
  simp only [List.map_map]
  rw [List.map_congr_left (g := id)]
  · simp
  · intro x hx
    have := h x hx
    simp [Nat.mod_eq_of_lt this]

/-- Where the rows lie: a block's number, how many cells it has. -/
abbrev Lay := Nat → Option (Nat × Nat)
def Lay.le (M M' : Lay) : Prop := ∀ i x, M i = some x → M' i = some x
theorem Lay.le_refl (M : Lay) : M.le M := fun _ _ h => h
theorem Lay.le_trans {M M' M'' : Lay} (h : M.le M') (h' : M'.le M'') : M.le M'' := fun i x hx => h' i x (h i x hx)

mutual
inductive VR (e : Env) (M : Lay) : SV → Value → Prop where
  | junk (v : Value) : VR e M .junk v
  | int (k : IntKind) (p : T) : VR e M (.int k p) (.int k (p.ev e))
  | bool (p : T) (b : Bool) : p.ev e = bint b → VR e M (.bool p) (.bool b)
  | str (l : List Nat) : (∀ x ∈ l, x < 256) → VR e M (.str l) (.string (bytesOf l))
  | nilp : VR e M .nilp (.pointer none)
  | ptr (b : Nat) (off : T) (r n : Nat) : M b = some (r, n) → 0 ≤ off.ev e → VR e M (.ptr b off) (.pointer (some ⟨r, (off.ev e).toNat, none⟩))
  | nils : VR e M .nils (.slice none 0 0)
  | slice (b : Nat) (off len : T) (cap : Option T) (sz r n c : Nat) : M b = some (r, n) → 0 ≤ off.ev e → 0 ≤ len.ev e → (len.ev e).toNat ≤ c →
      (∀ t, cap = some t → t.ev e = (c : Int)) → ((off.ev e).toNat + c * sz ≤ n ∧ (cap = none → (off.ev e).toNat + c * sz = n)) → VR e M (.slice b off len cap sz) (.slice (some ⟨r, (off.ev e).toNat, none⟩) (len.ev e).toNat c)
  | nsome (b : Nat) (off len cap : T) (sz : Nat) (nl : T) (r n c : Nat) : nl.ev e = 0 → M b = some (r, n) → 0 ≤ off.ev e → 0 ≤ len.ev e → (len.ev e).toNat ≤ c → cap.ev e = (c : Int) →
      (off.ev e).toNat + c * sz ≤ n → VR e M (.nslice b off len cap sz nl) (.slice (some ⟨r, (off.ev e).toNat, none⟩) (len.ev e).toNat c)
  | nnone (b : Nat) (off len cap : T) (sz : Nat) (nl : T) : nl.ev e = 1 → len.ev e = 0 → cap.ev e = 0 → VR e M (.nslice b off len cap sz nl) (.slice none 0 0)
  | when (q : T) (v : SV) (x : Value) : (q.ev e ≠ 0 → VR e M v x) → VR e M (.when q v) x
  | nilm : VR e M .nilm (.map none)
  | map (b r n : Nat) : M b = some (r, n) → VR e M (.map b) (.map (some r))
  | fn (f : FuncId) (first caps : List SV) (x y : Array Value) : VRs e M first x.toList → VRs e M caps y.toList → VR e M (.fn f first caps) (.func (.func f) x y)
  | nilf : VR e M .nilf .nilFunc
  | iface (t : TypeId) (v : SV) (x : Value) : VR e M v x → VR e M (.iface t v) (.iface t x)
  | nili : VR e M .nili .nilIface
  | agg (l : List SV) (x : Array Value) : VRs e M l x.toList → VR e M (.agg l) (.agg x)
  | tup (l : List SV) (x : Array Value) : VRs e M l x.toList → VR e M (.tup l) (.tuple x)
inductive VRs (e : Env) (M : Lay) : List SV → List Value → Prop where
  | nil : VRs e M [] []
  | cons (s : SV) (v : Value) (l : List SV) (vs : List Value) : VR e M s v → VRs e M l vs → VRs e M (s :: l) (v :: vs)
end

mutual
theorem VR.mono {e : Env} {M M' : Lay} (h : M.le M') : ∀ {s : SV} {v : Value}, VR e M s v → VR e M' s v
  | _, _, .junk v => .junk v
  | _, _, .int k p => .int k p
  | _, _, .bool p b hb => .bool p b hb
  | _, _, .str l hl => .str l hl
  | _, _, .nilp => .nilp
  | _, _, .ptr b off r n h1 h2 => .ptr b off r n (h _ _ h1) h2
  | _, _, .nils => .nils
  | _, _, .slice b off len cap sz r n c h1 h2 h3 h4 h5 h6 => .slice b off len cap sz r n c (h _ _ h1) h2 h3 h4 h5 h6
  | _, _, .nsome b off len cap sz nl r n c h0 h1 h2 h3 h4 h5 h6 => .nsome b off len cap sz nl r n c h0 (h _ _ h1) h2 h3 h4 h5 h6
  | _, _, .nnone b off len cap sz nl h0 h1 h2 => .nnone b off len cap sz nl h0 h1 h2
  | _, _, .when q v x h1 => .when q v x (fun hq => VR.mono h (h1 hq))
  | _, _, .nilm => .nilm
  | _, _, .map b r n h1 => .map b r n (h _ _ h1)
  | _, _, .fn f first caps x y h1 h2 => .fn f first caps x y (VRs.mono h h1) (VRs.mono h h2)
  | _, _, .nilf => .nilf
  | _, _, .iface t v x h1 => .iface t v x (VR.mono h h1)
  | _, _, .nili => .nili
  | _, _, .agg l x h1 => .agg l x (VRs.mono h h1)
  | _, _, .tup l x h1 => .tup l x (VRs.mono h h1)
theorem VRs.mono {e : Env} {M M' : Lay} (h : M.le M') : ∀ {s : List SV} {v : List Value}, VRs e M s v → VRs e M' s v
  | _, _, .nil => .nil
  | _, _, .cons s v l vs h1 h2 => .cons s v l vs (VR.mono h h1) (VRs.mono h h2)
end

namespace VRs
variable {e : Env} {M : Lay}
theorem length {l : List SV} {vs : List Value} (h : VRs e M l vs) : l.length = vs.length := by
  induction l generalizing vs with
  | nil => cases h; rfl
  | cons s l ih => cases h with | cons _ v _ vs _ h2 => simp [ih h2]
theorem get {l : List SV} {vs : List Value} (h : VRs e M l vs) {i : Nat} {s : SV} (hs : l[i]? = some s) : ∃ v, vs[i]? = some v ∧ VR e M s v := by
  induction l generalizing vs i with
  | nil => simp at hs
  | cons x l ih =>
    cases h with
    | cons _ v _ vs h1 h2 =>
      cases i with
      | zero => simp at hs; subst hs; exact ⟨v, by simp, h1⟩
      | succ i => simp at hs; obtain ⟨w, hw, hr⟩ := ih h2 hs; exact ⟨w, by simpa using hw, hr⟩
theorem append {l l' : List SV} {vs vs' : List Value} (h : VRs e M l vs) (h' : VRs e M l' vs') : VRs e M (l ++ l') (vs ++ vs') := by
  induction l generalizing vs with
  | nil => cases h; exact h'
  | cons s l ih => cases h with | cons _ v _ vs h1 h2 => exact .cons _ _ _ _ h1 (ih h2)
theorem take {l : List SV} {vs : List Value} (h : VRs e M l vs) : ∀ n, VRs e M (l.take n) (vs.take n) := by
  induction l generalizing vs with
  | nil => cases h; intro n; simp; exact .nil
  | cons s l ih =>
    cases h with
    | cons _ v _ vs h1 h2 =>
      intro n
      cases n with
      | zero => simp; exact .nil
      | succ n => simp only [List.take_succ_cons]; exact .cons _ _ _ _ h1 (ih h2 n)
theorem drop {l : List SV} {vs : List Value} (h : VRs e M l vs) : ∀ n, VRs e M (l.drop n) (vs.drop n) := by
  induction l generalizing vs with
  | nil => cases h; intro n; simp; exact .nil
  | cons s l ih =>
    cases h with
    | cons _ v _ vs h1 h2 =>
      intro n
      cases n with
      | zero => exact .cons _ _ _ _ h1 h2
      | succ n => simp only [List.drop_succ_cons]; exact ih h2 n
theorem set {l : List SV} {vs : List Value} (h : VRs e M l vs) {s : SV} {v : Value} (hs : VR e M s v) : ∀ n, VRs e M (l.set n s) (vs.set n v) := by
  induction l generalizing vs with
  | nil => cases h; intro n; simp; exact .nil
  | cons x l ih =>
    cases h with
    | cons _ y _ vs h1 h2 =>
      intro n
      cases n with
      | zero => exact .cons _ _ _ _ hs h2
      | succ n => simp only [List.set_cons_succ]; exact .cons _ _ _ _ h1 (ih h2 n)
end VRs

/-! ## Rows -/

inductive SObj where
  | row (cs : List SV) (elem : TypeId) (wr : Bool)
  | ints (k : IntKind) (bits : Nat) (L : T) (elem : TypeId) (wr : Bool)
  | recs (ks : List (IntKind × Nat)) (C o : T)
  | map (es : List (SV × SV × Nat)) (clock : Nat)
  | iter (s : List Nat) (pos : Nat)
  | dead
  deriving Inhabited

/-- The list that a term is. -/
def T.evl (e : Env) (t : T) : List Int := (t.den e).2

inductive ER (e : Env) (M : Lay) : List (SV × SV × Nat) → List MapEntry → Prop where
  | nil : ER e M [] []
  | cons (k v : SV) (n : Nat) (l : List (SV × SV × Nat)) (x : MapEntry) (xs : List MapEntry) : VR e M k x.key → VR e M v x.val → x.born = n → ER e M l xs → ER e M ((k, v, n) :: l) (x :: xs)

theorem ER.mono {e : Env} {M M' : Lay} (h : M.le M') {l : List (SV × SV × Nat)} {xs : List MapEntry} (hr : ER e M l xs) : ER e M' l xs := by
  induction hr with
  | nil => exact .nil
  | cons k v n l x xs h1 h2 h3 _ ih => exact .cons k v n l x xs (h1.mono h) (h2.mono h) h3 ih

inductive OR (e : Env) (M : Lay) : SObj → Obj → Nat → Prop where
  | row (cs : List SV) (elem : TypeId) (wr : Bool) (c : Array Value) (pre rest : List Value) (fr : Nat × Nat) : c.toList = pre ++ rest → VRs e M cs pre → (wr = true → fr = (0, 0)) → OR e M (.row cs elem wr) (.cells c elem fr) c.size
  | ints (k : IntKind) (bits : Nat) (L : T) (elem : TypeId) (wr : Bool) (c : Array Value) (rest : List Value) (fr : Nat × Nat) :
      c.toList = (L.evl e).map (Value.int k) ++ rest → (∀ x ∈ L.evl e, 0 ≤ x ∧ x < 2 ^ bits) → (wr = true → fr = (0, 0)) → OR e M (.ints k bits L elem wr) (.cells c elem fr) c.size
  | recs (ks : List (IntKind × Nat)) (C o : T) (elem : TypeId) (c : Array Value) (fr : Nat × Nat) : 0 ≤ o.ev e →
      (∀ q x, (C.evl e)[q]? = some x → c[(o.ev e).toNat + q]? = some (.int (ks.getD (q % ks.length) (.u8, 0)).1 x) ∧ 0 ≤ x ∧ x < 2 ^ (ks.getD (q % ks.length) (.u8, 0)).2) → OR e M (.recs ks C o) (.cells c elem fr) c.size
  | map (es : List (SV × SV × Nat)) (clock : Nat) (xs : Array MapEntry) (n : Nat) : ER e M es xs.toList → OR e M (.map es clock) (.map xs clock) n
  | iter (s : List Nat) (pos n : Nat) : OR e M (.iter s pos) (.stringIter (bytesOf s) pos) n

theorem OR.mono {e : Env} {M M' : Lay} (h : M.le M') {o : SObj} {x : Obj} {n : Nat} (hr : OR e M o x n) : OR e M' o x n := by
  cases hr with
  | row cs elem wr c pre rest fr h1 h2 h3 => exact .row cs elem wr c pre rest fr h1 (h2.mono h) h3
  | ints k bits L elem wr c rest fr h1 h2 h3 => exact .ints k bits L elem wr c rest fr h1 h2 h3
  | recs ks C o elem c fr h1 h2 => exact .recs ks C o elem c fr h1 h2
  | map es clock xs n h1 => exact .map es clock xs n (h1.mono h)
  | iter s pos n => exact .iter s pos n

end Go.Sx

/- The static look at a region: what comes ahead of what; what may be carried out at once. -/
import Derived.Test.YtnhphhlojkhlcaaGreatDoorGxRegion
namespace Go.Sx
open Go

section
variable (ops : Array Oper)

def presOf (o : Oper) : List Nat := o.after.toList.filterMap fun e => bif Region.binds .any e then some e.on else none
def presB (i : Nat) : List Nat := match ops[i]? with
  | some o => presOf o
  | none => []

/-- Of each operation a number whose digits tell what comes ahead of it. -/
def maskOf (acc : List Nat) (o : Oper) : Nat := (presOf o).foldl (fun m p => m ||| 2 ^ p ||| acc.getD p 0) 0
def masksGo : List Oper → List Nat → List Nat
  | [], acc => acc
  | o :: l, acc => masksGo l (acc ++ [maskOf acc o])
def masks : List Nat := masksGo ops.toList []
def ancB (i j : Nat) : Bool := Nat.testBit ((masks ops).getD i 0) j

theorem pre_iff {i p : Nat} : Pre ops i p ↔ p ∈ presB ops i := by
  unfold Pre presB
  cases ho : ops[i]? with
  | none => simp
  | some o =>
    simp only [Option.some.injEq, exists_eq_left', presOf, List.mem_filterMap, Array.mem_toList_iff]
    constructor
    · rintro ⟨e, he, hb, rfl⟩; exact ⟨e, he, by rw [hb]; rfl⟩
    · rintro ⟨e, he, hb⟩
      cases hx : Region.binds .any e with
      | true => rw [hx] at hb; cases hb; exact ⟨e, he, hx, rfl⟩
      | false => rw [hx] at hb; cases hb

theorem maskOf_ok {acc : List Nat} {o : Oper} {i : Nat} (ho : ops[i]? = some o) (hacc : ∀ p j, Nat.testBit (acc.getD p 0) j = true → Anc ops p j) {j : Nat} (hj : Nat.testBit (maskOf acc o) j = true) : Anc ops i j := by
  have key : ∀ (l : List Nat) (m : Nat), (∀ p ∈ l, Pre ops i p) → (Nat.testBit m j = true → Anc ops i j) → Nat.testBit (l.foldl (fun m p => m ||| 2 ^ p ||| acc.getD p 0) m) j = true → Anc ops i j := by
    intro l
    induction l with
    | nil => intro m _ hm h; exact hm h
    | cons p l ih =>
      intro m hp hm h
      refine ih _ (fun q hq => hp q (List.mem_cons_of_mem _ hq)) ?_ h
      intro h2
      have hpp := hp p (List.mem_cons_self ..)
      rw [Nat.testBit_or, Nat.testBit_or, Nat.testBit_two_pow] at h2
      simp only [Bool.or_eq_true, decide_eq_true_eq] at h2
      rcases h2 with (h2 | h2) | h2
      · exact hm h2
      · subst h2; exact .one hpp
      · exact .more hpp (hacc p j h2)
  refine key (presOf o) 0 (fun p hp => (pre_iff ops).2 ?_) (by simp) hj
  unfold presB; rw [ho]; exact hp

theorem masksGo_ok : ∀ (l : List Oper) (acc : List Nat), (∀ k, l[k]? = ops[acc.length + k]?) → (∀ p j, Nat.testBit (acc.getD p 0) j = true → Anc ops p j) → ∀ p j, Nat.testBit ((masksGo l acc).getD p 0) j = true → Anc ops p j := by
  intro l
  induction l with
  | nil => intro acc _ h; exact h
  | cons o l ih =>
    intro acc hl hacc
    have ho : ops[acc.length]? = some o := by have := hl 0; simpa using this.symm
    refine ih (acc ++ [maskOf acc o]) (fun k => ?_) (fun p j hj => ?_)
    · have := hl (k + 1)
      simp only [List.getElem?_cons_succ, List.length_append, List.length_cons, List.length_nil] at this ⊢
      rw [this]; congr 1; omega
    · rcases Nat.lt_or_ge p acc.length with hp | hp
      · rw [List.getD_eq_getElem?_getD, List.getElem?_append_left hp, ← List.getD_eq_getElem?_getD] at hj
        exact hacc p j hj
      · by_cases he : p = acc.length
        · subst he
          rw [List.getD_eq_getElem?_getD, List.getElem?_append_right (Nat.le_refl _)] at hj
          simp only [Nat.sub_self, List.getElem?_cons_zero, Option.getD_some] at hj
          exact maskOf_ok ops ho hacc hj
        · rw [List.getD_eq_getElem?_getD, List.getElem?_append_right hp] at hj
          have : ([maskOf acc o] : List Nat)[p - acc.length]? = none := by
            apply List.getElem?_eq_none
            simp; omega
          rw [this] at hj; simp at hj

theorem ancB_ok {i j : Nat} (h : ancB ops i j = true) : Anc ops i j :=
  masksGo_ok ops ops.toList [] (by intro k; simp) (by intro p j hj; simp at hj) i j h

/-- The kinds of operations that change nothing. -/
def quietKind : Op → Bool
  | .move _ | .assign _ | .pick .. | .build .. | .load .. | .nilCheck _ | .binOp .. | .unOp .. | .makeInterface .. | .makeFunc .. | .slice .. | .fieldAddr .. | .field .. | .indexAddr .. | .index .. | .typeAssert .. | .extract .. => true
  | .convert s d _ => !(Nat.beq s d)
  | .call c => match c.callee with
    | .builtin .len => true
    | _ => false
  | _ => false

def quietAt (i : Nat) : Bool := match ops[i]? with
  | some o => quietKind o.op
  | none => false
def readyB (V i : Nat) : Bool := !inV V i && (presB ops i).all (inV V)
def nextB (V : Nat) : Option Nat := (List.range ops.size).find? fun i => quietAt ops i && readyB ops V i
def openB (V : Nat) : List Nat := (List.range ops.size).filter fun i => !quietAt ops i && readyB ops V i

def noSelB (o : Oper) : Bool := match o.op with
  | .select .. => false
  | _ => true

/-- The static look. -/
def planB : Bool :=
  ops.toList.all noSelB &&
  (List.range ops.size).all (fun i => (presB ops i).all (fun p => Nat.blt p i)) &&
  (List.range ops.size).all (fun j => match dstOf ops j with
    | none => true
    | some t => (List.range ops.size).all fun i => Nat.beq i j || (match ops[i]? with
      | none => true
      | some o => (match o.dst with
        | some u => !(Nat.beq u t)
        | none => true) && (!((o.looksAt ops).any (Nat.beq t)) || ancB ops i j || ancB ops j i)))

theorem readyB_ok {V i : Nat} (h : readyB ops V i = true) : inV V i = false ∧ ∀ p, Pre ops i p → inV V p = true := by
  unfold readyB at h
  simp only [Bool.and_eq_true, Bool.not_eq_true', List.all_eq_true] at h
  exact ⟨h.1, fun p hp => h.2 p ((pre_iff ops).1 hp)⟩

theorem plan_of (h : planB ops = true) : Plan ops (ancB ops) (quietAt ops) (nextB ops) (openB ops) := by
  unfold planB at h
  simp only [Bool.and_eq_true, List.all_eq_true, List.mem_range] at h
  obtain ⟨⟨h1, h2⟩, h3⟩ := h
  have hin : ∀ {i : Nat} {o : Oper}, ops[i]? = some o → i < ops.size := fun ho => (Array.getElem?_eq_some_iff.1 ho).1
  have hpair : ∀ i j t o, dstOf ops j = some t → ops[i]? = some o → i ≠ j → o.dst ≠ some t ∧ (t ∈ o.looksAt ops → ancB ops i j = true ∨ ancB ops j i = true) := by
    intro i j t o hd ho hne
    have hj : j < ops.size := by
      unfold dstOf at hd
      cases hx : ops[j]? with
      | none => rw [hx] at hd; cases hd
      | some o' => exact hin hx
    have h4 := h3 j hj
    rw [hd] at h4
    simp only [List.all_eq_true, List.mem_range] at h4
    have h5 := h4 i (hin ho)
    rw [ho] at h5
    simp only [Bool.or_eq_true, Bool.and_eq_true, Bool.not_eq_true'] at h5
    rcases h5 with h5 | ⟨h5, h6⟩
    · exact absurd (Nat.eq_of_beq_eq_true h5) hne
    · refine ⟨?_, ?_⟩
      · intro hdo
        rw [hdo] at h5
        simp [Nat.beq_refl] at h5
      · intro hmem
        rcases h6 with (h6 | h6) | h6
        · exfalso
          have : (o.looksAt ops).any (Nat.beq t) = true := List.any_eq_true.2 ⟨t, hmem, Nat.beq_refl t⟩
          rw [this] at h6; cases h6
        · exact .inl h6
        · exact .inr h6
  refine ⟨⟨?_, ?_, ?_⟩, ?_, fun i j => ancB_ok ops, ?_, ?_, ?_⟩
  · intro i o cs b ho hsel
    have hm : o ∈ ops.toList := by
      rw [Array.mem_toList_iff]; exact Array.mem_of_getElem? ho
    have := h1 o hm
    unfold noSelB at this
    rw [hsel] at this; cases this
  · intro i j t hi hj
    by_cases he : i = j
    · exact he
    · exfalso
      have : ∃ o, ops[i]? = some o ∧ o.dst = some t := by
        unfold dstOf at hi
        cases hx : ops[i]? with
        | none => rw [hx] at hi; cases hi
        | some o => rw [hx] at hi; exact ⟨o, rfl, hi⟩
      obtain ⟨o, ho, hd⟩ := this
      exact (hpair i j t o hj ho he).1 hd
  · intro i j t o ho hd hm hne
    rcases (hpair i j t o hd ho hne).2 hm with h | h
    · exact .inl (ancB_ok ops h)
    · exact .inr (ancB_ok ops h)
  · intro i p hp
    have hi : i < ops.size := by obtain ⟨o, ho, _⟩ := hp; exact hin ho
    have := h2 i hi p ((pre_iff ops).1 hp)
    simpa [Nat.blt_eq] using this
  · intro V i hn
    have := List.find?_some hn
    simp only [Bool.and_eq_true] at this
    have hr := readyB_ok ops this.2
    refine ⟨this.1, hr.1, ?_, hr.2⟩
    have hm := List.mem_of_find?_eq_some hn
    rw [List.mem_range] at hm
    exact ⟨ops[i], by simp [hm]⟩
  · intro V i hi
    unfold openB at hi
    rw [List.mem_filter, List.mem_range] at hi
    simp only [Bool.and_eq_true, Bool.not_eq_true'] at hi
    have hr := readyB_ok ops hi.2.2
    exact ⟨hi.2.1, hr.1, ⟨ops[i], by simp [hi.1]⟩, hr.2⟩
  · intro V hn i o ho hV hp
    have hr : readyB ops V i = true := by
      unfold readyB
      simp only [hV, Bool.not_false, Bool.true_and, List.all_eq_true]
      exact fun p hpp => hp p ((pre_iff ops).2 hpp)
    unfold openB
    rw [List.mem_filter, List.mem_range]
    refine ⟨hin ho, ?_⟩
    rw [hr, Bool.and_true, Bool.not_eq_true']
    cases hq : quietAt ops i with
    | false => rfl
    | true =>
      exfalso
      unfold nextB at hn
      rw [List.find?_eq_none] at hn
      have := hn i (List.mem_range.2 (hin ho))
      rw [hq, hr] at this
      exact this rfl

end
end Go.Sx

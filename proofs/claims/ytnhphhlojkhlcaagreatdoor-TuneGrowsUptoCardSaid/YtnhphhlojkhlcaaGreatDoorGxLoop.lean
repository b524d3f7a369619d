/- Loops by an invariant. -/
import Derived.Test.YtnhphhlojkhlcaaGreatDoorGxTop
namespace Go.Sx
open Go Go.RowKit

section
variable {P : Program} {e : Env} {F : Base} {M : Lay} {h : Hs} {w : World}

/-- So many rounds, then an exit. -/
theorem loop_inv {b : Code} {id n : Nat} {Inv : Nat → Act → World → Prop} {Post : Act → World → Prop}
    (step : ∀ i, i < n → ∀ a w, Inv i a w → b.wp P (fun en a' w' => en = .normal ∧ Inv (i + 1) a' w') a w)
    (last : ∀ a w, Inv n a w → b.wp P (fun en a' w' => en = .exit id ∧ Post a' w') a w) {a : Act} (h0 : Inv 0 a w) :
    (Code.loop b).wp P (fun en a' w' => en = .exit id ∧ Post a' w') a w := by
  have key : ∀ k i, i + k = n → ∀ a w, Inv i a w → Code.rounds P b (fun en a' w' => en = .exit id ∧ Post a' w') (k + 1) a w := by
    intro k
    induction k with
    | zero =>
      intro i hi a w hinv
      have : i = n := by omega
      subst this
      rw [rounds_succ]
      refine wp_mono (last a w hinv) ?_
      rintro en a' w' ⟨rfl, hp⟩
      exact ⟨rfl, hp⟩
    | succ k ih =>
      intro i hi a w hinv
      rw [rounds_succ]
      refine wp_mono (step i (by omega) a w hinv) ?_
      rintro en a' w' ⟨rfl, hp⟩
      exact ih (i + 1) (by omega) a' w' hp
  exact wp_loop_rounds (n + 1) (key n 0 (by omega) a w h0)

/-- A block that nothing living leads to has changed, or others came behind. -/
theorem HeapOK.other {w' : World} (H : HeapOK e F M h w) (r : Nat) (hr : F.B ≤ r) (hl : ∀ i o r' n, h.hp.get i = some o → o.live = true → M i = some (r', n) → r' ≠ r)
    (h1 : w'.os = w.os) (h2 : w'.tape = w.tape) (h3 : w'.output = w.output) (h4 : w.heap.size ≤ w'.heap.size) (h5 : ∀ k, k < w.heap.size → k ≠ r → w'.heap[k]? = w.heap[k]?) : HeapOK e F M h w' := by
  refine ⟨?_, H.inj, H.fresh, H.fact, H.old, H.n0, H.cn0, H.cng, H.ng, H.new, H.wr, H.glob, h1.trans H.frame.os, h2.trans H.frame.tape, h3.trans H.frame.output, Nat.le_trans H.frame.size h4, ?_⟩
  · intro i o hi hlv
    obtain ⟨r', n, x, g1, g2, g3⟩ := H.live i o hi hlv
    exact ⟨r', n, x, g1, by rw [h5 r' (Array.getElem?_eq_some_iff.1 g2).1 (hl i o r' n hi hlv g1)]; exact g2, g3⟩
  · intro k hk hx
    rw [h5 k (Nat.lt_of_lt_of_le hk H.frame.size) (by omega)]
    exact H.frame.block k hk hx

/-- A row that stands for the list of a memory: it comes to life. -/
theorem HeapOK.born (H : HeapOK e F M h w) {i r n : Nat} {o : SObj} {x : Obj} (hM : M i = some (r, n)) (hw : w.heap[r]? = some x) (ho : OR e M o x n) (hn : F.n0 ≤ i) (hB : F.B ≤ r)
    (hl : ∀ j oj r' n', h.hp.get j = some oj → oj.live = true → M j = some (r', n') → r' ≠ r) : HeapOK e F M (h.upd i o) w := by
  have hget : ∀ j, (h.upd i o).hp.get j = if i = j then some o else h.hp.get j := fun j => Tr.get_set _ _ _ _
  refine ⟨?_, ?_, H.fresh, H.fact, H.old, H.n0, H.cn0, H.cng, H.ng, ?_, ?_, H.glob, H.frame⟩
  · intro j oj hj hlj
    rw [hget] at hj
    split at hj
    · rename_i he; subst he; cases hj; exact ⟨r, n, x, hM, hw, ho⟩
    · exact H.live j oj hj hlj
  · intro a b oa ob ra rb na nb ha hla hb hlb hwr hMa hMb hab
    rw [hget] at ha hb
    split at ha
    · rename_i hea
      split at hb
      · rename_i heb; omega
      · subst hea
        rw [hM] at hMa; cases hMa
        exact absurd hab.symm (hl b ob rb nb hb hlb hMb)
    · split at hb
      · rename_i heb; subst heb
        rw [hM] at hMb; cases hMb
        exact absurd hab (hl a oa ra na ha hla hMa)
      · exact H.inj a b oa ob ra rb na nb ha hla hb hlb hwr hMa hMb hab
  · intro j oj rj nj hj hlj hin hMj
    rw [hget] at hj
    split at hj
    · rename_i he; subst he
      rw [hM] at hMj; cases hMj; exact hB
    · exact H.new j oj rj nj hj hlj hin hMj
  · intro j oj hj hwj hin
    rw [hget] at hj
    split at hj
    · rename_i he; subst he; omega
    · exact H.wr j oj hj hwj hin
end
end Go.Sx

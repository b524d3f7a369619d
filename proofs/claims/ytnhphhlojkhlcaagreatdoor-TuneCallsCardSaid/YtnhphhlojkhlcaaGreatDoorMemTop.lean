/- memory, as a call on symbols: right. -/
import Derived.Test.YtnhphhlojkhlcaaGreatDoorMemRest
namespace Go.Proofs.YtnhphhlojkhlcaaGreatDoor
open Go Go.Sx Go.RowKit

theorem zeros_are {e : Env} {M : Lay} {b : Int} {pre : List Value} (h : VRs e M (zerosS (.int .u8 0) (65536 * 1)) pre) : pre = (listAt b 0).map (Value.int .u8) := by
  have h1 : zerosS (.int .u8 0) (65536 * 1) = (List.range 65536).map fun _ => SV.int .u8 (.lit 0) := by
    unfold zerosS
    rw [Nat.mul_one]
    apply List.map_congr_left
    intro i _
    have : (Value.int .u8 0).cells[i % (Value.int .u8 0).cells.size]! = Value.int .u8 0 := by
      have : i % (Value.int .u8 0).cells.size = 0 := Nat.mod_one i
      rw [this]; rfl
    rw [this]; rfl
  rw [h1] at h
  have h2 : (listAt b 0).map (Value.int .u8) = (List.range 65536).map fun _ => Value.int .u8 0 := by
    simp [listAt]
  rw [h2]
  generalize List.range 65536 = l at h ⊢
  clear h1 h2
  induction l generalizing pre with
  | nil => cases h; rfl
  | cons x l ih =>
    simp only [List.map_cons] at h ⊢
    cases h with
    | cons _ v _ vs g1 g2 =>
      cases g1
      rw [ih g2]; rfl

noncomputable def onlyX (s : St) : X → St → V := by
  classical
  exact fun x t => if x = .normal ∧ t = s then .ok else .bad 0 []
theorem onlyX_ok {s t : St} {x : X} : onlyX s x t = .ok ↔ x = .normal ∧ t = s := by
  unfold onlyX
  constructor
  · intro h
    split at h
    · assumption
    · cases h
  · intro h; simp [h]

/-- Code that comes to one state. -/
theorem exec_only {e : Env} {F : Base} {M : Lay} {c : Code} {s s' : St} {a : Act} {w : World} (heq : ∀ k : X → St → V, execC Tryz.prog noCalls 0 c s k = k .normal s') (hs : StOK e F M [] s a w) :
    c.wp Tryz.prog (fun en a' w' => en = .normal ∧ ∃ M', M.le M' ∧ StOK e F M' [] s' a' w') a w := by
  refine wp_mono (execC_ok mixed (noCalls_ok e F) 0 c M s a w (onlyX s') (by rw [heq]; exact onlyX_ok.2 ⟨rfl, rfl⟩) hs) ?_
  rintro en a' w' ⟨M', x, t, h1, h2, h3, h4⟩
  obtain ⟨rfl, rfl⟩ := onlyX_ok.1 h4
  cases h3
  exact ⟨rfl, M', h1, h2⟩

/-- Up to the first loop. -/
theorem upto_loop {e : Env} {F : Base} {M : Lay} {h : Hs} {a0 a1 : SV} {a : Act} {w : World} {Q : Exit → Act → World → Prop} {X Y : Code} (hs : StOK e F M [] ⟨slots [a0, a1] 0 .e, 41, h, []⟩ a w)
    (hq : ∀ M' a' w', M.le M' → StOK e F M' [] ⟨(((tmPre a0 a1).set (some (newS h)) 8).set (some (newS h)) 5).set (some (.int .i64 (.lit 0))) 6, 41, h.alloc (.row (zerosS (.int .u8 0) (65536 * 1)) 5 true), []⟩ a' w' →
      X.wp Tryz.prog (fun en a w => en = .normal ∧ Y.wp Tryz.prog Q a w) a' w') : (Code.seq mPre (.seq mMake (.seq (.seq (sq1 mLoop1) X) Y))).wp Tryz.prog Q a w := by
  refine wp_seq (wp_mono (exec_only (pre_run a0 a1 h) hs) ?_)
  rintro en a1' w1 ⟨rfl, M1, hM1, h1⟩
  simp only [Exit.then]
  refine wp_seq (wp_mono (exec_only (make_run a0 a1 h) h1) ?_)
  rintro en a2 w2 ⟨rfl, M2, hM2, h2⟩
  simp only [Exit.then]
  refine wp_seq ?_
  refine wp_seq (wp_mono (exec_only (zero_run _ _) h2) ?_)
  rintro en a3 w3 ⟨rfl, M3, hM3, h3⟩
  simp only [Exit.then]
  refine wp_mono (hq M3 a3 w3 (Lay.le_trans hM1 (Lay.le_trans hM2 hM3)) h3) ?_
  rintro en a4 w4 ⟨rfl, hY⟩
  simp only [Exit.then]
  exact hY
end Go.Proofs.YtnhphhlojkhlcaaGreatDoor

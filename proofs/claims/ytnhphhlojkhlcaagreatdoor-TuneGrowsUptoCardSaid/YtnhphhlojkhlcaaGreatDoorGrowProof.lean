/-
  TuneGrows (lanthornlaw11): for every input whose arguments hold together at most 1048576 values the law answers true, and its arguments read afterwards as before. The conditions are the row's own: that bound, and the listed package-level variables hold what the program's text lays into them.
-/
import Derived.Test.YtnhphhlojkhlcaaGreatDoorGrowAll
import Derived.Test.YtnhphhlojkhlcaaGreatDoorGxSeenOpen
import Derived.Test.YtnhphhlojkhlcaaGreatDoorTie
import Derived.Test.YtnhphhlojkhlcaaGreatDoorCards
import Derived.SevenTiedAt
import Derived.Deep.DeepHandedRow
namespace Go.Proofs.YtnhphhlojkhlcaaGreatDoor
open Go Go.Sx Go.ChangeShapes Go.WideShapes Go.ChangeAt Go.RowKit

def growLaid : List (String × DataW Unit) := Rows.tuneGrowsUptoRow.laid
def growArgs : Array Value := #[(⟨0, 0, 0, 0, 0, 0, false⟩ : Peg).val, .slice none 0 0, .slice none 0 0]

set_option maxRecDepth 100000 in
theorem grow_lifted (os : Os) (started : os.Started) (H : Type) (enc : TypeId × Value → H) (F : Stop.Interp) :
    ReturnsInHanded {} Tryz.checked os 5 .any ((Rows.OpenSpec.upto Rows.tuneGrowsSpec).preRow enc Tryz.prog Tryz.f5 Rows.tuneGrowsUptoRow.domain false growLaid) (((Rows.OpenSpec.upto Rows.tuneGrowsSpec).at F).post enc Tryz.prog Tryz.f5 false true false false) := by
  have hwit : (Rows.OpenSpec.upto Rows.tuneGrowsSpec).preRow enc Tryz.prog Tryz.f5 Rows.tuneGrowsUptoRow.domain false growLaid ((World.laidAll Tryz.prog os growLaid).forCall (fun _ _ => 0) ⟨#[], growArgs, []⟩).memory growArgs := by
    obtain ⟨places, hx⟩ : ∃ places, DataW.whole enc Tryz.prog ((World.laidAll Tryz.prog os growLaid).forCall (fun _ _ => 0) ⟨#[], growArgs, []⟩).memory Tryz.f5.params.toList Rows.tuneGrowsSpec.vars false growArgs.toList 8 = some ([(⟨0, 0, 0, 0, 0, 0, false⟩ : Peg).dat, .nil, .nil], [], places) := ⟨[], by kernel_rfl⟩
    exact OpenSpec.preRow_of_cond 8 hx (by kernel_rfl) (fun k hk => by cases hk; kernel_rfl) (by kernel_rfl) (by rw [MakeChecks.laidMetH_plain _ _ _ (by kernel_rfl)]; exact laidMet_laidAll _ (by kernel_rfl) (by kernel_rfl))
  have hok : Input.okWideB Tryz.prog ((World.laidAll Tryz.prog os growLaid).forCall (fun _ _ => 0) ⟨#[], growArgs, []⟩) 5 ⟨#[], growArgs, []⟩ = true := by kernel_rfl
  refine returnsInHanded_of_row (C := Tryz.checked) (s := Rows.OpenSpec.upto Rows.tuneGrowsSpec) own started (by kernel_rfl) Tryz.func5
    ⟨World.laidAll Tryz.prog os growLaid, fun _ _ => 0, ⟨#[], growArgs, []⟩, World.laidAll_os _ _ _, World.shaped_of_ZipB (by kernel_rfl) (by kernel_rfl), (Input.okWide_of_okWideB (base := 0) hok).1, (Input.okWide_of_okWideB hok).2, hwit, by
      simp only [Assume.holds]
      exact ⟨by simp, by simp, by simp, by simp, by simp⟩⟩ ?_
  intro W base args ds gs before hval0 hW _ hcond hsz0 _ _ _
  have hval : ∀ (j : Nat) t v, Tryz.f5.params[j]? = some t → args[j]? = some v → Value.okWide Tryz.prog W .any base t v := hval0
  have hW' := hW
  obtain ⟨p, q, hA0, hV, rfl, _, _⟩ := hW
  have hA : DataW.TrodAll enc Tryz.prog W 0 (fun _ => true) true Tryz.f5.params.toList args.toList ds p := hA0
  rw [Tryz.params5] at hA hval
  obtain ⟨v0, v1, v2, d0, d1, d2, p0, p1, p2, rfl, rfl, rfl, k0, k1, k2⟩ := trodAll_three hA
  obtain ⟨rfl, rfl⟩ := trodVars_none hV
  obtain ⟨r, hr, rfl, rfl, rfl⟩ := open_pegs (hval 0 24 v0 rfl rfl) k0
  have hsz1 := hsz0
  rw [Tryz.params5] at hsz1
  simp only [List.cons_append, DataW.weightsEach, List.all_append, Bool.and_eq_true] at hsz1
  obtain ⟨S, hS, hshut1, hb1⟩ := open_seen (hval 1 26 v1 rfl rfl) k1 hsz1.2.1
  obtain ⟨R, hR, hshut2, hb2⟩ := open_seen (hval 2 26 v2 rfl rfl) k2 hsz1.2.2.1
  have hk : Rows.uptoBulkAll ([r.dat, d1, d2] ++ [] : List (DataW H)) ≤ 1048576 := of_decide_eq_true (hcond _ rfl)
  simp only [List.append_nil, Rows.uptoBulkAll] at hk
  have l1 : S.length ≤ 1048576 := hb1 _ (by omega)
  have l2 : R.length ≤ 1048576 := hb2 _ (by omega)
  clear hA0 hval0
  refine (grow_calls growsOK hr hS hR l1 l2).mono fun en W' ⟨he, hw⟩ => ?_
  subst he
  refine ⟨_, rfl, _, _, _, [], [] ++ p1 ++ p2, [], hW', ?_, ?_, ?_, ?_, fun h => by cases h⟩
  · exact trodAll_mk1 (shut_bool Tryz.underlying4 true)
  · exact trodAll_mk3 (shut_pegs hr) (hshut1 W' hw.2.2.2.2 _ (fun k hk => by simpa using hk)) (hshut2 W' hw.2.2.2.2 _ (fun k hk => by simpa using hk))
  · rfl
  · exact grown_kept hw _

theorem grow_holds : Rows.TuneGrowsUptoSaid :=
  OpenClaim.holds_of_cond 5 Tryz.f5 rfl rfl rfl rfl rfl rfl rfl ⟨rfl, rfl, rfl, rfl, rfl⟩ rfl rfl rfl rfl rfl (by kernel_rfl) Tryz.func5 (by kernel_rfl)
    (of_decide_eq_true (by kernel_rfl)) (by unfold Func.isWrapper; first | (rw [if_pos (by decide +kernel)]; kernel_rfl) | (rw [if_neg (by decide +kernel)]; exact ⟨rfl, rfl⟩))
    (fun os started H enc _ F => by rw [OpenClaim.pre_eq_preRow]; exact grow_lifted os started H enc F)

theorem tuneGrowsUpto_card_holds : Rows.TuneGrowsUptoCardSaid :=
  Claim7.holds_tied_plain_at .later [] [.data, .data, .data, .data, .sentinel, .sentinel, .pinned] true (true, "dec71e4ca45c899def365e31e0ecaff396d422ec67b0949ebdf83c19f2f483ad") true
    grow_holds (fun _ h => by cases h) (by kernel_rfl) (fun _ h => by cases h) tuneGrowsUpto_row_tie rfl ⟨rfl, rfl⟩ (by kernel_rfl) rfl
    (fun f fn hf hfn => by
      obtain rfl : f = 5 := Option.some.inj ((show Tryz.prog.funcNamed "lanthorn/lanthornlaw11.TuneGrows" = some 5 by kernel_rfl).symm.trans hf) |>.symm
      obtain rfl : fn = Tryz.f5 := (Option.some.inj (Tryz.func5.symm.trans hfn)).symm
      exact ⟨by kernel_rfl, fun j t ht => by
        rw [Tryz.params5] at ht
        have hm : t ∈ [24, 26, 26] := by simpa using Array.mem_of_getElem? ht
        have hall : ([24, 26, 26].all fun u => !Tryz.prog.wantsStandIn u) = true := by kernel_rfl
        exact (show Tryz.prog.wantsStandIn t = false by simpa using List.all_eq_true.1 hall t hm)⟩)
    (by kernel_rfl)
#print axioms tuneGrowsUpto_card_holds
end Go.Proofs.YtnhphhlojkhlcaaGreatDoor

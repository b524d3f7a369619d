/-
  TuneSums (lanthornlaw11): for every input the law answers true, and its arguments read afterwards as before. The conditions are the row's own: the listed package-level variables hold what the program's text lays into them.
-/
import Derived.Test.YtnhphhlojkhlcaaGreatDoorSumsRun
import Derived.Test.YtnhphhlojkhlcaaGreatDoorTie
import Derived.Test.YtnhphhlojkhlcaaGreatDoorCards
import Derived.SevenTiedAt
namespace Go.Proofs.YtnhphhlojkhlcaaGreatDoor
open Go Go.Sx Go.ChangeShapes Go.WideShapes Go.ChangeAt Go.RowKit

def sumsLaid : List (String × DataW Unit) := Rows.tuneSumsRow.laid

set_option maxRecDepth 100000 in
theorem sums_lifted (os : Os) (started : os.Started) (H : Type) (enc : TypeId × Value → H) :
    ReturnsInHanded {} Tryz.checked os 6 .any (fun w args => (Rows.tuneSumsSpec.pre enc Tryz.prog Tryz.f6 [] false w args ∧ laidMetH Tryz.prog sumsLaid w) ∧ sizedMet enc Tryz.prog Tryz.f6 (OpenSpec.ofChange Rows.tuneSumsSpec) false w args)
      (Rows.tuneSumsSpec.post enc Tryz.prog Tryz.f6 false true false false) := by
  refine returnsInHanded_of_change_and (C := Tryz.checked) (X := fun w _ => laidMetH Tryz.prog sumsLaid w) (fun _ _ _ hh h => h.of_heap hh) own started (by kernel_rfl) Tryz.func6
    (ChangeSpec.witness_shaped (enc := enc) (C := Tryz.checked) (os := os) (X := fun w _ => laidMetH Tryz.prog sumsLaid w) false (World.laidAll Tryz.prog os sumsLaid)
      #[(⟨0, 0, 0, 0, 0, 0, false⟩ : Peg).val, .int .u8 0, .int .u16 0] 8 (World.laidAll_os _ _ _)
      (World.shaped_of_ZipB (by kernel_rfl) (by kernel_rfl)) (by kernel_rfl) (by kernel_rfl) (by kernel_rfl)
      (by rw [MakeChecks.laidMetH_plain _ _ _ (by kernel_rfl)]; exact laidMet_laidAll _ (by kernel_rfl) (by kernel_rfl))) ?_
  intro W base args ds gs before hval0 hW _ _ hL _
  have hval : ∀ (j : Nat) t v, Tryz.f6.params[j]? = some t → args[j]? = some v → Value.okWide Tryz.prog W .any base t v := hval0
  have hW' := hW
  obtain ⟨p, q, hA0, hV, rfl, _, _⟩ := hW
  have hA : DataW.TrodAll enc Tryz.prog W 0 (fun _ => true) true Tryz.f6.params.toList args.toList ds p := hA0
  rw [Tryz.params6] at hA hval
  obtain ⟨v0, v1, v2, d0, d1, d2, p0, p1, p2, rfl, rfl, rfl, k0, k1, k2⟩ := trodAll_three hA
  obtain ⟨rfl, rfl⟩ := trodVars_none hV
  obtain ⟨r, hr, rfl, rfl, rfl⟩ := open_pegs (hval 0 24 v0 rfl rfl) k0
  obtain ⟨place, rfl, rfl, rfl, wp⟩ := open_int Tryz.underlying5 (hval 1 5 v1 rfl rfl) k1
  obtain ⟨x, rfl, rfl, rfl, wx⟩ := open_int Tryz.underlying22 (hval 2 22 v2 rfl rfl) k2
  clear hA0 hval0
  simp only [List.append_nil] at hW'
  refine (sums_calls r hr place x (wf8.1 wp) (wf16.1 wx) W).mono fun en W' ⟨he, hw⟩ => ?_
  subst he
  refine ⟨_, rfl, _, _, _, [], [], [], hW', ?_, ?_, ?_, ?_, fun h => by cases h⟩
  · exact trodAll_mk1 (shut_bool Tryz.underlying4 true)
  · exact trodAll_mk3 (shut_pegs hr) (shut_int Tryz.underlying5 wp) (shut_int Tryz.underlying22 wx)
  · rfl
  · exact left0_kept hw _

theorem sums_holds : Rows.TuneSumsSaid :=
  OpenClaim.holds_of_wide 6 Tryz.f6 rfl rfl rfl rfl rfl rfl rfl ⟨rfl, rfl, rfl, rfl, rfl⟩ rfl rfl rfl rfl rfl (by kernel_rfl) Tryz.func6 (by kernel_rfl)
    (of_decide_eq_true (by kernel_rfl)) (by unfold Func.isWrapper; first | (rw [if_pos (by decide +kernel)]; kernel_rfl) | (rw [if_neg (by decide +kernel)]; exact ⟨rfl, rfl⟩))
    (fun os started H enc _ => sums_lifted os started H enc)

theorem tuneSums_card_holds : Rows.TuneSumsCardSaid :=
  Claim7.holds_tied_plain_at .later [] [.data, .data, .data, .data, .sentinel, .sentinel, .pinned] true (true, "dec71e4ca45c899def365e31e0ecaff396d422ec67b0949ebdf83c19f2f483ad") true
    sums_holds (fun _ h => by cases h) (by kernel_rfl) (fun _ h => by cases h) tuneSums_row_tie rfl ⟨rfl, rfl⟩ (by kernel_rfl) rfl
    (fun f fn hf hfn => by
      obtain rfl : f = 6 := Option.some.inj ((show Tryz.prog.funcNamed "lanthorn/lanthornlaw11.TuneSums" = some 6 by kernel_rfl).symm.trans hf) |>.symm
      obtain rfl : fn = Tryz.f6 := (Option.some.inj (Tryz.func6.symm.trans hfn)).symm
      exact ⟨by kernel_rfl, fun j t ht => by
        rw [Tryz.params6] at ht
        have hm : t ∈ [24, 5, 22] := by simpa using Array.mem_of_getElem? ht
        have hall : ([24, 5, 22].all fun u => !Tryz.prog.wantsStandIn u) = true := by kernel_rfl
        exact (show Tryz.prog.wantsStandIn t = false by simpa using List.all_eq_true.1 hall t hm)⟩)
    (by kernel_rfl)
#print axioms tuneSums_card_holds
end Go.Proofs.YtnhphhlojkhlcaaGreatDoor

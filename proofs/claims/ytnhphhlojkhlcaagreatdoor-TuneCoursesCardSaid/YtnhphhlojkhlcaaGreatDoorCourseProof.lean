/-
  TuneCourses (lanthornlaw11): for every input the law answers true, and its arguments read afterwards as before. The conditions are the row's own: the listed package-level variables hold what the program's text lays into them.
-/
import Derived.Test.YtnhphhlojkhlcaaGreatDoorLaw
import Derived.Test.YtnhphhlojkhlcaaGreatDoorCrsAll
import Derived.Test.YtnhphhlojkhlcaaGreatDoorSeenOpen
import Derived.Test.YtnhphhlojkhlcaaGreatDoorTie
import Derived.Test.YtnhphhlojkhlcaaGreatDoorCards
import Derived.SevenTiedAt
namespace Go.Proofs.YtnhphhlojkhlcaaGreatDoor
open Go Go.Sx Go.ChangeShapes Go.WideShapes Go.ChangeAt Go.RowKit

def courseLaid : List (String × DataW Unit) := Rows.tuneCoursesRow.laid

set_option maxRecDepth 100000 in
theorem course_lifted (os : Os) (started : os.Started) (H : Type) (enc : TypeId × Value → H) :
    ReturnsInHanded {} Tryz.checked os 4 .any (fun w args => (Rows.tuneCoursesSpec.pre enc Tryz.prog Tryz.f4 [] false w args ∧ laidMetH Tryz.prog courseLaid w) ∧ sizedMet enc Tryz.prog Tryz.f4 (OpenSpec.ofChange Rows.tuneCoursesSpec) false w args)
      (Rows.tuneCoursesSpec.post enc Tryz.prog Tryz.f4 false true false false) := by
  refine returnsInHanded_of_change_and (C := Tryz.checked) (X := fun w _ => laidMetH Tryz.prog courseLaid w) (fun _ _ _ hh h => h.of_heap hh) own started (by kernel_rfl) Tryz.func4
    (ChangeSpec.witness_shaped (enc := enc) (C := Tryz.checked) (os := os) (X := fun w _ => laidMetH Tryz.prog courseLaid w) false (World.laidAll Tryz.prog os courseLaid)
      #[(⟨0, 0, 0, 0, 0, 0, false⟩ : Peg).val, .slice none 0 0] 8 (World.laidAll_os _ _ _)
      (World.shaped_of_ZipB (by kernel_rfl) (by kernel_rfl)) (by kernel_rfl) (by kernel_rfl) (by kernel_rfl)
      (by rw [MakeChecks.laidMetH_plain _ _ _ (by kernel_rfl)]; exact laidMet_laidAll _ (by kernel_rfl) (by kernel_rfl))) ?_
  intro W base args ds gs before hval0 hW _ hsz0 hL _
  have hval : ∀ (j : Nat) t v, Tryz.f4.params[j]? = some t → args[j]? = some v → Value.okWide Tryz.prog W .any base t v := hval0
  have hW' := hW
  obtain ⟨p, q, hA0, hV, rfl, _, _⟩ := hW
  have hA : DataW.TrodAll enc Tryz.prog W 0 (fun _ => true) true Tryz.f4.params.toList args.toList ds p := hA0
  rw [Tryz.params4] at hA hval
  obtain ⟨v0, v1, d0, d1, p0, p1, rfl, rfl, rfl, k0, k1⟩ := trodAll_two hA
  obtain ⟨rfl, rfl⟩ := trodVars_none hV
  obtain ⟨r, hr, rfl, rfl, rfl⟩ := open_pegs (hval 0 24 v0 rfl rfl) k0
  have hsz : (d1.weights Tryz.prog 26).all (· ≤ reachBytes) = true := by
    have hsz1 := hsz0
    rw [Tryz.params4] at hsz1
    simp only [List.cons_append, DataW.weightsEach, List.all_append, Bool.and_eq_true] at hsz1
    exact hsz1.2.1
  obtain ⟨S, hS, hshut, _⟩ := open_seen (hval 1 26 v1 rfl rfl) k1 hsz
  clear hA0 hval0
  refine (courses_calls relsOK hr hS).mono fun en W' ⟨he, hw⟩ => ?_
  subst he
  refine ⟨_, rfl, _, _, _, [], [] ++ p1, [], hW', ?_, ?_, ?_, ?_, fun h => by cases h⟩
  · exact trodAll_mk1 (shut_bool Tryz.underlying4 true)
  · exact trodAll_mk2 (shut_pegs hr) (hshut W' hw.2.2.2.2 _ (fun k hk => by simpa using hk))
  · rfl
  · exact grown_kept hw _

theorem course_holds : Rows.TuneCoursesSaid :=
  OpenClaim.holds_of_wide 4 Tryz.f4 rfl rfl rfl rfl rfl rfl rfl ⟨rfl, rfl, rfl, rfl, rfl⟩ rfl rfl rfl rfl rfl (by kernel_rfl) Tryz.func4 (by kernel_rfl)
    (of_decide_eq_true (by kernel_rfl)) (by unfold Func.isWrapper; first | (rw [if_pos (by decide +kernel)]; kernel_rfl) | (rw [if_neg (by decide +kernel)]; exact ⟨rfl, rfl⟩))
    (fun os started H enc _ => course_lifted os started H enc)

theorem tuneCourses_card_holds : Rows.TuneCoursesCardSaid :=
  Claim7.holds_tied_plain_at .later [] [.data, .data, .data, .data, .sentinel, .sentinel, .pinned] true (true, "dec71e4ca45c899def365e31e0ecaff396d422ec67b0949ebdf83c19f2f483ad") true
    course_holds (fun _ h => by cases h) (by kernel_rfl) (fun _ h => by cases h) tuneCourses_row_tie rfl ⟨rfl, rfl⟩ (by kernel_rfl) rfl
    (fun f fn hf hfn => by
      obtain rfl : f = 4 := Option.some.inj ((show Tryz.prog.funcNamed "lanthorn/lanthornlaw11.TuneCourses" = some 4 by kernel_rfl).symm.trans hf) |>.symm
      obtain rfl : fn = Tryz.f4 := (Option.some.inj (Tryz.func4.symm.trans hfn)).symm
      exact ⟨by kernel_rfl, fun j t ht => by
        rw [Tryz.params4] at ht
        have hm : t ∈ [24, 26] := by simpa using Array.mem_of_getElem? ht
        have hall : ([24, 26].all fun u => !Tryz.prog.wantsStandIn u) = true := by kernel_rfl
        exact (show Tryz.prog.wantsStandIn t = false by simpa using List.all_eq_true.1 hall t hm)⟩)
    (by kernel_rfl)
#print axioms tuneCourses_card_holds
end Go.Proofs.YtnhphhlojkhlcaaGreatDoor

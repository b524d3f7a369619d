/- TuneCalls as a call, once memory's answer is right. -/
import Derived.Test.YtnhphhlojkhlcaaGreatDoorCallsRun
import Derived.Test.YtnhphhlojkhlcaaGreatDoorClosed
import Derived.Test.YtnhphhlojkhlcaaGreatDoorMemTop
namespace Go.Proofs.YtnhphhlojkhlcaaGreatDoor
open Go Go.Sx Go.RowKit

/-- memory's answer is right (to be proved). -/
def MemOK (e : Env) (F : Base) : Prop := ∀ cf : CF, CallOK Tryz.prog e F (fun g args h k => if g = 9 then memS cf args h k else .bad 65 [])

theorem callsSums_ok {e : Env} {F : Base} (hm : MemOK e F) : SumsOK Tryz.prog e F callsSums := by
  intro f sm h cf _
  unfold callsSums at h
  split at h
  · rename_i hf; subst hf; cases h; exact hm cf
  · split at h
    · rename_i hf; subst hf; cases h; exact yes_ok closed_calls cf
    · cases h

set_option maxRecDepth 100000 in
theorem calls_calls (hm : ∀ (e : Env) (w : World) (b : Int), 0 ≤ b → b ≤ 255 → e.ρ 7 = b → e.l 0 = listAt b 65536 → MemOK e (base0 w)) (q : Peg) (hq : q.ok) (to b : Int) (h1 : 0 ≤ to ∧ to ≤ 65535) (h2 : 0 ≤ b ∧ b ≤ 255) (w : World) :
    Calls Tryz.prog 8 #[q.val, .int .u16 to, .int .u8 b] w fun en w' => en = .returned (.bool true) ∧ Go.Sx.Grown w w' := by
  let e : Env := ⟨fun i => match i with
    | 0 => q.a | 1 => q.x | 2 => q.y | 3 => q.s | 5 => q.pc % 256 | 10 => q.pc / 256 | 6 => bint q.h | 7 => b | 8 => to % 256 | 9 => to / 256
    | 100 => q.p % 2 | 101 => q.p / 2 % 2 | 102 => q.p / 4 % 2 | 103 => q.p / 8 % 2 | 104 => q.p / 16 % 2 | 105 => q.p / 32 % 2 | 106 => q.p / 64 % 2 | 107 => q.p / 128 % 2 | _ => 0, fun _ => listAt b 65536, fun _ _ _ => 0⟩
  refine calls_true (e := e) mixed (ext_ok e) (callsSums_ok (hm e w b h2.1 h2.2 rfl rfl)) calls_run ?_
  exact .cons _ _ _ _ (pegs_vr hq ⟨rfl, rfl, rfl, rfl, rfl, rfl, rfl, rfl, rfl, rfl, rfl, rfl, rfl, rfl, rfl⟩)
    (.cons _ _ _ _ (int_vr (bytes2_ev (i := 8) (j := 9) rfl rfl h1.1 h1.2)) (.cons _ _ _ _ (int_vr (vr_id (i := 7) rfl h2.1 h2.2)) .nil))
end Go.Proofs.YtnhphhlojkhlcaaGreatDoor

/- The law's own check of one known instruction, run once: it answers true. -/
import Derived.Test.YtnhphhlojkhlcaaGreatDoorPegs
namespace Go.Proofs.YtnhphhlojkhlcaaGreatDoor
open Go Go.Sx Go.RowKit

theorem closed_run : callN Tryz.prog ext (fun _ => none) 600 60 17 [] h0 fin = V.ok := by kernel_rfl

theorem closed_calls (w : World) : Calls Tryz.prog 17 #[] w fun en w' => en = .returned (.bool true) ∧ Go.Sx.Grown w w' := by
  let e : Env := ⟨fun _ => 0, fun _ => [], fun _ _ _ => 0⟩
  exact calls_true (e := e) mixed (ext_ok e) no_sums closed_run .nil
end Go.Proofs.YtnhphhlojkhlcaaGreatDoor

/- TuneSums, run on symbols: it answers true. Nothing is claimed here beyond the call. -/
import Derived.Test.YtnhphhlojkhlcaaGreatDoorPegs
namespace Go.Proofs.YtnhphhlojkhlcaaGreatDoor
open Go Go.Sx Go.RowKit

theorem sums_run : callN Tryz.prog ext (fun _ => none) 600 60 6 [pegs, .int .u8 (vr 7 0 255), .int .u16 (bytes2 8 9)] h0 fin = V.ok := by kernel_rfl

theorem sums_calls (q : Peg) (hq : q.ok) (place x : Int) (h1 : 0 ≤ place ∧ place ≤ 255) (h2 : 0 ≤ x ∧ x ≤ 65535) (w : World) :
    Calls Tryz.prog 6 #[q.val, .int .u8 place, .int .u16 x] w fun en w' => en = .returned (.bool true) ∧ Left0 w w' := by
  let e : Env := ⟨fun i => match i with
    | 0 => q.a | 1 => q.x | 2 => q.y | 3 => q.s | 5 => q.pc % 256 | 10 => q.pc / 256 | 6 => bint q.h | 7 => place | 8 => x % 256 | 9 => x / 256
    | 100 => q.p % 2 | 101 => q.p / 2 % 2 | 102 => q.p / 4 % 2 | 103 => q.p / 8 % 2 | 104 => q.p / 16 % 2 | 105 => q.p / 32 % 2 | 106 => q.p / 64 % 2 | 107 => q.p / 128 % 2 | _ => 0, fun _ => [], fun _ _ _ => 0⟩
  refine calls_true (e := e) mixed (ext_ok e) sums_run ?_
  exact .cons _ _ _ _ (pegs_vr hq ⟨rfl, rfl, rfl, rfl, rfl, rfl, rfl, rfl, rfl, rfl, rfl, rfl, rfl, rfl, rfl⟩)
    (.cons _ _ _ _ (int_vr (vr_id (i := 7) rfl h1.1 h1.2)) (.cons _ _ _ _ (int_vr (bytes2_ev (i := 8) (j := 9) rfl rfl h2.1 h2.2)) .nil))
end Go.Proofs.YtnhphhlojkhlcaaGreatDoor

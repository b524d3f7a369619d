/- SoundNil, run on symbols: it answers true. Nothing is claimed here beyond the call. -/
import Derived.Test.YtlgllanjkmfogaaGreatDoorRows
import Derived.Test.YtlgllanjkmfogaaGreatDoorSxAdopt
import Derived.ProofKit
import Derived.LaidMore
import Derived.OpenShut
import Derived.Lay
import Derived.Stop.Joined
import Derived.ChangeSame
namespace Go.Proofs.YtlgllanjkmfogaaGreatDoor
open Go Go.Sx Go.ChangeShapes Go.WideShapes Go.ChangeAt Go.RowKit

theorem own : ownKnob Tryz.prog.godebug = none := by kernel_rfl
theorem mixed : Tryz.prog.follows .mixedOrders = true := by kernel_rfl

/-- Functions without a body: none is met. -/
def ext : FuncId → List SV → Option SV := fun _ _ => none
theorem ext_ok (e : Env) : ExtOK Tryz.prog e ext := fun _ _ _ _ _ _ h => by cases h

theorem wf8 {n : Int} : (Lit.int .u8 n).wf = true ↔ 0 ≤ n ∧ n ≤ 255 := by
  simp [Lit.wf, IntKind.min, IntKind.max, IntKind.signed, IntKind.bits]

theorem wf64 {n : Int} : (Lit.int .i64 n).wf = true ↔ -9223372036854775808 ≤ n ∧ n ≤ 9223372036854775807 := by
  have h1 : IntKind.i64.min = -9223372036854775808 := by decide
  have h2 : IntKind.i64.max = 9223372036854775807 := by decide
  simp only [Lit.wf, Bool.and_eq_true, decide_eq_true_eq, h1, h2]

def vr (i : Nat) (lo hi : Int) : T := .term 1 (.prod (.var i lo hi) .one) (.lit 0)
theorem vr_ev (e : Env) (i : Nat) (lo hi : Int) : (vr i lo hi).ev e = clamp lo hi (e.ρ i) := by
  unfold vr
  rw [ev_term, ev_prod, ev_one, ev_lit]
  show 1 * (clamp lo hi (e.ρ i) * 1) + 0 = _
  omega
theorem vr_id {e : Env} {i : Nat} {lo hi x : Int} (h : e.ρ i = x) (h1 : lo ≤ x) (h2 : x ≤ hi) : (vr i lo hi).ev e = x := by
  rw [vr_ev, h, clamp_id h1 h2]
theorem int_vr {e : Env} {M : Lay} {k : IntKind} {p : T} {x : Int} (h : p.ev e = x) : VR e M (.int k p) (.int k x) := h ▸ VR.int k p

/-- What is saved of none: a row of 13 bytes. -/
theorem saved_run : callN Tryz.prog ext (fun _ => none) (fun _ _ => none) 600 60 13 [.nilp] h0 (finRow 13 1) = V.ok := by kernel_rfl
def nilSums : Sums := fun f => bif Nat.beq f 13 then some (rowS [.nilp] 13 1) else none
theorem nilSums_ok {F : Base} {e0 : Env} : SumsOK Tryz.prog F e0 nilSums := by
  intro f sm h cf _ e _
  unfold nilSums at h
  cases hf : Nat.beq f 13 with
  | false => rw [hf] at h; cases h
  | true =>
    rw [hf] at h
    have := Nat.eq_of_beq_eq_true hf
    subst this; cases h
    exact rowS_ok mixed ext_ok rfl saved_run cf e

theorem nil_run : callN Tryz.prog ext nilSums (fun _ _ => none) 600 60 3 [.int .i64 (vr 8 (-9223372036854775808) 9223372036854775807), .int .i64 (vr 9 (-9223372036854775808) 9223372036854775807), .int .u8 (vr 7 0 255)] h0 fin = V.ok := by kernel_rfl

theorem nil_calls (n k v : Int) (h1 : -9223372036854775808 ≤ n ∧ n ≤ 9223372036854775807) (h2 : -9223372036854775808 ≤ k ∧ k ≤ 9223372036854775807) (h3 : 0 ≤ v ∧ v ≤ 255) (w : World) :
    Calls Tryz.prog 3 #[.int .i64 n, .int .i64 k, .int .u8 v] w fun en w' => en = .returned (.bool true) ∧ Go.Sx.Grown w w' := by
  let e : Env := ⟨fun i => match i with | 7 => v | 8 => n | 9 => k | _ => 0, fun _ => [], fun _ _ _ => 0⟩
  refine calls_true (e := e) mixed ext_ok nilSums_ok nil_run ?_
  exact .cons _ _ _ _ (int_vr (vr_id (i := 8) rfl h1.1 h1.2)) (.cons _ _ _ _ (int_vr (vr_id (i := 9) rfl h2.1 h2.2)) (.cons _ _ _ _ (int_vr (vr_id (i := 7) rfl h3.1 h3.2)) .nil))
end Go.Proofs.YtlgllanjkmfogaaGreatDoor

/- The registers as an argument: opened, shut, and as symbols. Nothing is claimed here. -/
import Derived.Test.YtnhphhlojkhlcaaGreatDoorRows
import Derived.Test.YtnhphhlojkhlcaaGreatDoorGxK
import Derived.ProofKit
import Derived.LaidMore
import Derived.OpenShut
import Derived.Lay
import Derived.Stop.Joined
import Derived.ChangeSame
namespace Go.Proofs.YtnhphhlojkhlcaaGreatDoor
open Go Go.Sx Go.ChangeShapes Go.WideShapes Go.ChangeAt Go.RowKit

theorem own : ownKnob Tryz.prog.godebug = none := by kernel_rfl
theorem mixed : Tryz.prog.follows .mixedOrders = true := by kernel_rfl
theorem cells24 : Tryz.prog.cellsOf 24 = 7 := by kernel_rfl
theorem cells5 : Tryz.prog.cellsOf 5 = 1 := by kernel_rfl
theorem cells22 : Tryz.prog.cellsOf 22 = 1 := by kernel_rfl
theorem cells4 : Tryz.prog.cellsOf 4 = 1 := by kernel_rfl

/-- Functions without a body. -/
def ext : FuncId → List SV → Option SV := extOf 213 124
theorem ext_ok (e : Env) : ExtOK Tryz.prog e ext :=
  extOf_ok (fun vs w => run_callFunc_extern Tryz.func213 (by kernel_rfl) (by kernel_rfl) (by kernel_rfl) (e := Extern.BytealgIndexByte.indexByte) (by kernel_rfl) vs w)
    (fun vs w => run_callFunc_extern Tryz.func124 (by kernel_rfl) (by kernel_rfl) (by kernel_rfl) (e := Extern.BytealgCount.count) (by kernel_rfl) vs w)

/-- The registers. -/
structure Peg where
  a : Int
  x : Int
  y : Int
  s : Int
  p : Int
  pc : Int
  h : Bool

def Peg.ok (r : Peg) : Prop := (0 ≤ r.a ∧ r.a ≤ 255) ∧ (0 ≤ r.x ∧ r.x ≤ 255) ∧ (0 ≤ r.y ∧ r.y ≤ 255) ∧ (0 ≤ r.s ∧ r.s ≤ 255) ∧ (0 ≤ r.p ∧ r.p ≤ 255) ∧ (0 ≤ r.pc ∧ r.pc ≤ 65535)
def Peg.val (r : Peg) : Value := .agg #[.int .u8 r.a, .int .u8 r.x, .int .u8 r.y, .int .u8 r.s, .int .u8 r.p, .int .u16 r.pc, .bool r.h]
def Peg.dat {H : Type} (r : Peg) : DataW H := .agg [.lit (.int .u8 r.a), .lit (.int .u8 r.x), .lit (.int .u8 r.y), .lit (.int .u8 r.s), .lit (.int .u8 r.p), .lit (.int .u16 r.pc), .lit (.bool r.h)]

theorem wf8 {n : Int} : (Lit.int .u8 n).wf = true ↔ 0 ≤ n ∧ n ≤ 255 := by
  simp [Lit.wf, IntKind.min, IntKind.max, IntKind.signed, IntKind.bits]

theorem wf16 {n : Int} : (Lit.int .u16 n).wf = true ↔ 0 ≤ n ∧ n ≤ 65535 := by
  have h1 : IntKind.u16.min = 0 := by decide
  have h2 : IntKind.u16.max = 65535 := by decide
  simp only [Lit.wf, Bool.and_eq_true, decide_eq_true_eq, h1, h2]

section
variable {H : Type} {enc : TypeId × Value → H} {w : World} {base : Nat} {spare : Nat → Bool} {held : Bool}

set_option maxRecDepth 100000 in
theorem open_pegs {r : Reach} {b0 : Nat} {v : Value} {d : DataW H} {p : List MemPlace} (hv : Value.okWide Tryz.prog w r b0 24 v) (h : DataW.Trod enc Tryz.prog w base spare held 24 v d p) :
    ∃ q : Peg, q.ok ∧ v = q.val ∧ d = q.dat ∧ p = [] := by
  obtain ⟨cs, rfl, hsz⟩ := okWide_struct Tryz.underlying24 hv
  rw [cells24] at hsz
  obtain ⟨fuel, hf⟩ := h
  obtain ⟨xs, n, _, hx, hl, hlen, hel⟩ := DataW.trod_struct Tryz.underlying24 hf
  obtain ⟨l⟩ := cs
  have hl7 : l.length = 7 := by simpa using hsz
  match l, hl7 with
  | [c0, c1, c2, c3, c4, c5, c6], _ =>
    match xs, hlen with
    | [y0, y1, y2, y3, y4, y5, y6], _ =>
      have e0 : DataW.trod enc Tryz.prog w base spare held n 5 (([c0, c1, c2, c3, c4, c5, c6].drop 0).take (Tryz.prog.cellsOf 5)) = some y0 := hel 0 _ rfl
      rw [cells5] at e0
      have e1 : DataW.trod enc Tryz.prog w base spare held n 5 (([c0, c1, c2, c3, c4, c5, c6].drop 1).take (Tryz.prog.cellsOf 5)) = some y1 := hel 1 _ rfl
      rw [cells5] at e1
      have e2 : DataW.trod enc Tryz.prog w base spare held n 5 (([c0, c1, c2, c3, c4, c5, c6].drop 2).take (Tryz.prog.cellsOf 5)) = some y2 := hel 2 _ rfl
      rw [cells5] at e2
      have e3 : DataW.trod enc Tryz.prog w base spare held n 5 (([c0, c1, c2, c3, c4, c5, c6].drop 3).take (Tryz.prog.cellsOf 5)) = some y3 := hel 3 _ rfl
      rw [cells5] at e3
      have e4 : DataW.trod enc Tryz.prog w base spare held n 5 (([c0, c1, c2, c3, c4, c5, c6].drop 4).take (Tryz.prog.cellsOf 5)) = some y4 := hel 4 _ rfl
      rw [cells5] at e4
      have e5 : DataW.trod enc Tryz.prog w base spare held n 22 (([c0, c1, c2, c3, c4, c5, c6].drop 5).take (Tryz.prog.cellsOf 22)) = some y5 := hel 5 _ rfl
      rw [cells22] at e5
      have e6 : DataW.trod enc Tryz.prog w base spare held n 4 (([c0, c1, c2, c3, c4, c5, c6].drop 6).take (Tryz.prog.cellsOf 4)) = some y6 := hel 6 _ rfl
      rw [cells4] at e6
      obtain ⟨a0, f0, g0, w0⟩ := DataW.trod_int Tryz.underlying5 e0
      obtain ⟨a1, f1, g1, w1⟩ := DataW.trod_int Tryz.underlying5 e1
      obtain ⟨a2, f2, g2, w2⟩ := DataW.trod_int Tryz.underlying5 e2
      obtain ⟨a3, f3, g3, w3⟩ := DataW.trod_int Tryz.underlying5 e3
      obtain ⟨a4, f4, g4, w4⟩ := DataW.trod_int Tryz.underlying5 e4
      obtain ⟨a5, f5, g5, w5⟩ := DataW.trod_int Tryz.underlying22 e5
      obtain ⟨a6, f6, g6⟩ := DataW.trod_bool Tryz.underlying4 e6
      have k0 : c0 = .int .u8 a0 := (List.cons.inj (show [c0] = [_] from f0)).1
      have k1 : c1 = .int .u8 a1 := (List.cons.inj (show [c1] = [_] from f1)).1
      have k2 : c2 = .int .u8 a2 := (List.cons.inj (show [c2] = [_] from f2)).1
      have k3 : c3 = .int .u8 a3 := (List.cons.inj (show [c3] = [_] from f3)).1
      have k4 : c4 = .int .u8 a4 := (List.cons.inj (show [c4] = [_] from f4)).1
      have k5 : c5 = .int .u16 a5 := (List.cons.inj (show [c5] = [_] from f5)).1
      have k6 : c6 = .bool a6 := (List.cons.inj (show [c6] = [_] from f6)).1
      clear e0 e1 e2 e3 e4 e5 e6 f0 f1 f2 f3 f4 f5 f6 hel hf hv
      subst k0 k1 k2 k3 k4 k5 k6 g0 g1 g2 g3 g4 g5 g6
      simp only [Prod.mk.injEq] at hx
      refine ⟨⟨a0, a1, a2, a3, a4, a5, a6⟩, ⟨wf8.1 w0, wf8.1 w1, wf8.1 w2, wf8.1 w3, wf8.1 w4, wf16.1 w5⟩, rfl, ?_, ?_⟩
      · rw [hx.1]; rfl
      · rw [hx.2]; rfl

theorem shut_pegs {q : Peg} (hq : q.ok) : DataW.Trod enc Tryz.prog w base spare held 24 q.val q.dat [] := by
  obtain ⟨h0, h1, h2, h3, h4, h5⟩ := hq
  refine ⟨2, ?_⟩
  have := trod_struct_mk (enc := enc) (w := w) (base := base) (spare := spare) (held := held) (n := 1) (cs := q.val.cells.toList)
    (xs := [(.lit (.int .u8 q.a), []), (.lit (.int .u8 q.x), []), (.lit (.int .u8 q.y), []), (.lit (.int .u8 q.s), []), (.lit (.int .u8 q.p), []), (.lit (.int .u16 q.pc), []), (.lit (.bool q.h), [])])
    Tryz.underlying24 (by rw [cells24]; rfl) (by
      have i5 : ∀ n : Int, (0 ≤ n ∧ n ≤ 255) → DataW.trod enc Tryz.prog w base spare held 1 5 [.int .u8 n] = some (.lit (.int .u8 n), []) := fun n hn => trod_int_mk 0 Tryz.underlying5 (wf8.2 hn)
      have i22 := trod_int_mk (enc := enc) (w := w) (base := base) (spare := spare) (held := held) 0 Tryz.underlying22 (wf16.2 h5)
      have i4 : DataW.trod enc Tryz.prog w base spare held 1 4 [.bool q.h] = some (.lit (.bool q.h), []) := by simp [DataW.trod, Tryz.underlying4]
      simp [Peg.val, Value.cells, cells5, cells22, cells4, i5 _ h0, i5 _ h1, i5 _ h2, i5 _ h3, i5 _ h4, i22, i4])
  exact this
end

/-! ## As symbols -/

def vr (i : Nat) (lo hi : Int) : T := .term 1 (.prod (.var i lo hi) .one) (.lit 0)
def bytes2 (i j : Nat) : T := T.add (vr i 0 255) (T.scale 256 (vr j 0 255))
def pswT : T := T.add (vr 100 0 1) (T.add (T.scale 2 (vr 101 0 1)) (T.add (T.scale 4 (vr 102 0 1)) (T.add (T.scale 8 (vr 103 0 1)) (T.add (T.scale 16 (vr 104 0 1)) (T.add (T.scale 32 (vr 105 0 1)) (T.add (T.scale 64 (vr 106 0 1)) (T.scale 128 (vr 107 0 1))))))))
def pegs : SV := .agg [.int .u8 (vr 0 0 255), .int .u8 (vr 1 0 255), .int .u8 (vr 2 0 255), .int .u8 (vr 3 0 255), .int .u8 pswT, .int .u16 (bytes2 5 10), .bool (vr 6 0 1)]

theorem vr_ev (e : Env) (i : Nat) (lo hi : Int) : (vr i lo hi).ev e = clamp lo hi (e.ρ i) := by
  unfold vr
  rw [ev_term, ev_prod, ev_one, ev_lit]
  show 1 * (clamp lo hi (e.ρ i) * 1) + 0 = _
  omega

theorem vr_id {e : Env} {i : Nat} {lo hi x : Int} (h : e.ρ i = x) (h1 : lo ≤ x) (h2 : x ≤ hi) : (vr i lo hi).ev e = x := by
  rw [vr_ev, h, clamp_id h1 h2]

theorem bytes2_ev {e : Env} {i j : Nat} {x : Int} (hi : e.ρ i = x % 256) (hj : e.ρ j = x / 256) (h0 : 0 ≤ x) (h1 : x ≤ 65535) : (bytes2 i j).ev e = x := by
  unfold bytes2
  rw [add_ev, scale_ev, vr_id hi (by omega) (by omega), vr_id hj (by omega) (by omega)]
  omega

theorem vr_bool {e : Env} {i : Nat} {b : Bool} (h : e.ρ i = bint b) : (vr i 0 1).ev e = bint b := by
  rw [vr_ev, h]; cases b <;> rfl

/-- The symbols' numbers are the registers'. -/
def Peg.env (q : Peg) (ρ : Nat → Int) : Prop :=
  ρ 0 = q.a ∧ ρ 1 = q.x ∧ ρ 2 = q.y ∧ ρ 3 = q.s ∧ ρ 5 = q.pc % 256 ∧ ρ 10 = q.pc / 256 ∧ ρ 6 = bint q.h ∧
    ρ 100 = q.p % 2 ∧ ρ 101 = q.p / 2 % 2 ∧ ρ 102 = q.p / 4 % 2 ∧ ρ 103 = q.p / 8 % 2 ∧ ρ 104 = q.p / 16 % 2 ∧ ρ 105 = q.p / 32 % 2 ∧ ρ 106 = q.p / 64 % 2 ∧ ρ 107 = q.p / 128 % 2

theorem int_vr {e : Env} {M : Lay} {k : IntKind} {p : T} {x : Int} (h : p.ev e = x) : VR e M (.int k p) (.int k x) := h ▸ VR.int k p

theorem pegs_vr {e : Env} {M : Lay} {q : Peg} (hq : q.ok) (he : q.env e.ρ) : VR e M pegs q.val := by
  obtain ⟨h0, h1, h2, h3, h4, h5⟩ := hq
  obtain ⟨e0, e1, e2, e3, e5, e10, e6, b0, b1, b2, b3, b4, b5, b6, b7⟩ := he
  have hp : pswT.ev e = q.p := by
    unfold pswT
    simp only [add_ev, scale_ev]
    rw [vr_id b0 (by omega) (by omega), vr_id b1 (by omega) (by omega), vr_id b2 (by omega) (by omega), vr_id b3 (by omega) (by omega), vr_id b4 (by omega) (by omega), vr_id b5 (by omega) (by omega), vr_id b6 (by omega) (by omega), vr_id b7 (by omega) (by omega)]
    omega
  refine .agg _ _ (.cons _ _ _ _ (int_vr (vr_id e0 h0.1 h0.2)) (.cons _ _ _ _ (int_vr (vr_id e1 h1.1 h1.2)) (.cons _ _ _ _ (int_vr (vr_id e2 h2.1 h2.2)) (.cons _ _ _ _ (int_vr (vr_id e3 h3.1 h3.2))
    (.cons _ _ _ _ (int_vr hp) (.cons _ _ _ _ (int_vr (bytes2_ev e5 e10 h5.1 h5.2)) (.cons _ _ _ _ (.bool _ _ (vr_bool e6)) .nil)))))))

/-- What lacks a body, for the kernel. -/
noncomputable def kext : FuncId → List SV → Option SV := K_extOf.v 213 124
theorem kext_eq : ext = kext := by unfold ext kext; rw [← K_extOf.e]
def lvk (k : Nat) : T := .op .lvar (.lit 0) (.lit 0) k
def big : Int := 9223372036854775807
def pegL (halt : T) : List SV := [.int .u8 (vr 0 0 255), .int .u8 (vr 1 0 255), .int .u8 (vr 2 0 255), .int .u8 (vr 3 0 255), .int .u8 pswT, .int .u16 (bytes2 5 10), .bool halt]
end Go.Proofs.YtnhphhlojkhlcaaGreatDoor

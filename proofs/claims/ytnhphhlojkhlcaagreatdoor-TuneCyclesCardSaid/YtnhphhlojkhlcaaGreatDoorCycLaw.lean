/- TuneCycles as a call. Nothing is claimed here beyond the call. -/
import Derived.Test.YtnhphhlojkhlcaaGreatDoorMemC
import Derived.Test.YtnhphhlojkhlcaaGreatDoorOfA
import Derived.Test.YtnhphhlojkhlcaaGreatDoorCycR0
import Derived.Test.YtnhphhlojkhlcaaGreatDoorCycR1
import Derived.Test.YtnhphhlojkhlcaaGreatDoorCycR2
import Derived.Test.YtnhphhlojkhlcaaGreatDoorCycR3
import Derived.Test.YtnhphhlojkhlcaaGreatDoorCycR4
import Derived.Test.YtnhphhlojkhlcaaGreatDoorCycR5
import Derived.Test.YtnhphhlojkhlcaaGreatDoorCycR6
import Derived.Test.YtnhphhlojkhlcaaGreatDoorCycR7
import Derived.Test.YtnhphhlojkhlcaaGreatDoorCycR8
import Derived.Test.YtnhphhlojkhlcaaGreatDoorCycR9
import Derived.Test.YtnhphhlojkhlcaaGreatDoorCycR10
import Derived.Test.YtnhphhlojkhlcaaGreatDoorCycR11
import Derived.Test.YtnhphhlojkhlcaaGreatDoorCycR12
import Derived.Test.YtnhphhlojkhlcaaGreatDoorCycR13
import Derived.Test.YtnhphhlojkhlcaaGreatDoorCycR14
import Derived.Test.YtnhphhlojkhlcaaGreatDoorCycR15
namespace Go.Proofs.YtnhphhlojkhlcaaGreatDoor
open Go Go.Sx Go.RowKit

/-! ## What is known of the functions -/

theorem byTbl_at {f lo n c : Nat} {v : SV} (h : byTbl f lo n = true) (h1 : lo ≤ c) (h2 : c < lo + n) (hv : noteTbl c = some v) :
    plainS 6 v = true ∧ callN Tryz.prog ext (fun _ => none) (fun _ _ => none) 600 60 f [.int .u8 (.lit (c : Int))] h0 (finIs v) = .ok := by
  have := List.all_eq_true.1 h c (List.mem_range'_1.2 ⟨h1, h2⟩)
  rw [hv] at this
  simp only [Bool.and_eq_true] at this
  exact ⟨this.1, isOk_eq this.2⟩

theorem noteL_length : noteL.length = 256 := by kernel_rfl
theorem noteTbl_lt {c : Nat} {v : SV} (h : noteTbl c = some v) : c < 256 := by
  unfold noteTbl at h
  split at h
  · rename_i hx; rw [← noteL_length]; exact (List.getElem?_eq_some_iff.1 hx).1
  · cases h

theorem of_run {f : Nat} (h0' : kByTbl f 0 64 = true) (h1 : kByTbl f 64 64 = true) (h2 : kByTbl f 128 64 = true) (h3 : kByTbl f 192 64 = true) (c : Nat) (v : SV) (hv : noteTbl c = some v) :
    plainS 6 v = true ∧ callN Tryz.prog ext (fun _ => none) (fun _ _ => none) 600 60 f [.int .u8 (.lit (c : Int))] h0 (finIs v) = .ok := by
  rw [← kByTbl_eq] at h0' h1 h2 h3
  have hc := noteTbl_lt hv
  by_cases g1 : c < 64
  · exact byTbl_at h0' (by omega) (by omega) hv
  · by_cases g2 : c < 128
    · exact byTbl_at h1 (by omega) (by omega) hv
    · by_cases g3 : c < 192
      · exact byTbl_at h2 (by omega) (by omega) hv
      · exact byTbl_at h3 (by omega) (by omega) hv

theorem closed_run : callN Tryz.prog ext (fun _ => none) (fun _ _ => none) 600 60 17 [] Go.Sx.h0 fin = V.ok := by
  have h : K_callN.v Tryz.prog kext (fun _ => none) (fun _ _ => none) 600 60 17 [] Go.Sx.h0 K_fin.v = V.ok := by kernel_rfl
  rw [← K_callN.e, ← K_fin.e, ← kext_eq] at h
  exact h
theorem closed_calls (w : World) : Calls Tryz.prog 17 #[] w fun en w' => en = .returned (.bool true) ∧ Go.Sx.Grown w w' := by
  let e : Env := ⟨fun _ => 0, fun _ => [], fun _ _ _ => 0⟩
  exact calls_true (e := e) mixed ext_ok no_sums closed_run .nil

/-! ## memory's answer -/

/-- The symbols' numbers are those of a slice of cells. -/
def cellEnv (e : Env) : Value → Prop
  | .slice none _ _ => e.ρ 63 = 1 ∧ e.ρ 62 = 0 ∧ e.ρ 61 = 0
  | .slice (some a) n c => e.ρ 63 = 0 ∧ e.ρ 62 = (n : Int) ∧ e.ρ 61 = (c : Int) ∧ (e.l 3).length = a.off
  | _ => False

theorem cellEnv.near {e0 e : Env} (h : e0.near e) {v : Value} (hc : cellEnv e0 v) : cellEnv e v := by
  unfold cellEnv at hc ⊢
  split at hc
  · exact ⟨by rw [h.2.2 63 (by omega)]; exact hc.1, by rw [h.2.2 62 (by omega)]; exact hc.2.1, by rw [h.2.2 61 (by omega)]; exact hc.2.2⟩
  · exact ⟨by rw [h.2.2 63 (by omega)]; exact hc.1, by rw [h.2.2 62 (by omega)]; exact hc.2.1, by rw [h.2.2 61 (by omega)]; exact hc.2.2.1, by rw [h.1]; exact hc.2.2.2⟩
  · exact hc.elim

theorem off_ev {e : Env} {n : Nat} (h : (e.l 3).length = n) : (lenT (lvk 3)).ev e = (n : Int) := by
  unfold lenT
  show 1 * (((e.l 3).length : Int) * 1) + 0 = _
  rw [h]; omega

theorem cells_vr {e : Env} {M : Lay} {w : World} {v : Value} {C : List Int} {n : Nat} (hv : Cells w v C n) (he : cellEnv e v) (hM : M 0 = memM0 v) : VR e M cellsS v := by
  have hb : big = 9223372036854775807 := rfl
  cases hv with
  | none =>
    obtain ⟨e1, e2, e3⟩ := he
    exact .nnone 0 _ _ _ 2 _ (vr_id e1 (by omega) (by omega)) (vr_id e2 (by omega) (by omega)) (vr_id e3 (by omega) (by omega))
  | empty r off =>
    obtain ⟨e1, e2, e3, e4⟩ := he
    have ho := off_ev e4
    have hn : (vr 62 0 big).ev e = 0 := vr_id e2 (by omega) (by omega)
    have := VR.nsome (e := e) (M := M) 0 (lenT (lvk 3)) (vr 62 0 big) (vr 61 0 big) 2 (vr 63 0 1) r (off + 0 * 2) 0 (vr_id e1 (by omega) (by omega)) hM (by rw [ho]; omega) (by rw [hn]; omega) (by rw [hn]; simp) (vr_id e3 (by omega) (by omega)) (by rw [ho]; simp)
    rw [ho, hn] at this
    exact this
  | some r off n c arr el fr C k1 k2 k3 k4 k5 k6 =>
    obtain ⟨e1, e2, e3, e4⟩ := he
    have hr : reach = 140737488355328 := rfl
    have ho := off_ev e4
    have hn : (vr 62 0 big).ev e = (n : Int) := vr_id e2 (by omega) (by omega)
    have := VR.nsome (e := e) (M := M) 0 (lenT (lvk 3)) (vr 62 0 big) (vr 61 0 big) 2 (vr 63 0 1) r (off + c * 2) c (vr_id e1 (by omega) (by omega)) hM (by rw [ho]; omega) (by rw [hn]; omega) (by rw [hn]; omega) (vr_id e3 (by omega) (by omega)) (by rw [ho]; simp)
    rw [ho, hn] at this
    exact this

theorem lit_cap {e : Env} {n : Int} {c : Nat} (h : n = (c : Int)) : ∀ t, some (T.lit n) = some t → t.ev e = (c : Int) := by
  intro t ht; cases ht; rw [ev_lit]; exact h

set_option maxRecDepth 100000 in
theorem memC_ok {w : World} {v : Value} {C : List Int} {n : Nat} {b : Int} (hv : Cells w v C n) (h0 : 0 ≤ b) (h1 : b ≤ 255) {e : Env} (hb : e.ρ 50 = b) (hl : e.l 2 = memIs b C n) (he : cellEnv e v) (cf : CF) :
    CallOK Tryz.prog e (base1 w (memM0 v)) (fun g args h k => if g = 9 then memC cf args h k else .bad 65 []) := by
  intro M h w2 g args vs k hk H hargs
  simp only at hk
  split at hk
  · rename_i hg
    subst hg
    unfold memC at hk
    cases hs : sames (SV.same 6) args [cellsS, .int .u8 (vr 50 0 255)] with
    | false => rw [hs] at hk; cases hk
    | true =>
      rw [hs] at hk; simp only [cond_true] at hk
      have := sames_eq hs
      subst this
      have hM0 : M 0 = memM0 v := H.old 0 (Nat.zero_lt_one)
      have hvs : vs = #[v, .int .u8 b] := by
        obtain ⟨vs⟩ := vs
        cases hargs with
        | cons _ x _ r g1 g2 => cases g2 with
          | cons _ y _ r g2 g3 =>
            cases g3
            have e1 : x = v := same_ok 6 (by decide) g1 (cells_vr hv he hM0)
            cases g2
            subst e1
            rw [vr_id hb h0 h1]
      subst hvs
      have hv2 : Cells w2 v C n := hv.kept (fun k hk' => H.frame.block k hk' (fun i r n' hi hw => by cases hw))
      refine Calls.mono (mem_calls hv2 h0 h1) ?_
      rintro en w3 ⟨hgr, rr, rest, c, rfl, hrr, hblk, hcl, hrange⟩
      have hsz : c.size = 65536 + rest.length := by
        have := congrArg List.length hcl
        simpa [memIs_length] using this
      obtain ⟨a1, a2⟩ := H.adopt hgr (r := rr) (n := c.size) (o := .ints .u8 8 (lvk 2) 5 true) hrr (fun _ => ⟨_, hblk, fun M' _ => by
        have hev : (lvk 2).evl e = memIs b C n := hl
        exact .ints .u8 8 (lvk 2) 5 true c rest (0, 0) (by rw [hev]; exact hcl) (by rw [hev]; exact hrange) (fun _ => rfl)⟩)
      refine ⟨_, _, _, a1, a2, .ret _ _ ?_, hk⟩
      have := VR.slice (e := e) (M := M.put h.hn rr c.size) h.hn (.lit 0) (.lit 65536) (some (.lit 65536)) 1 rr c.size 65536 (Lay.put_same _ _ _) (by rewrite [ev_lit]; omega) (by rewrite [ev_lit]; omega) (by rewrite [ev_lit]; omega) (lit_cap (n := 65536) (c := 65536) (by omega)) ⟨by rewrite [ev_lit, hsz]; simp, fun h => by cases h⟩
      simp only [ev_lit] at this
      exact this
  · cases hk

theorem cycSums_ok {w : World} {v : Value} {C : List Int} {n : Nat} {b : Int} (hv : Cells w v C n) (h0 : 0 ≤ b) (h1 : b ≤ 255) {e0 : Env} (hb : e0.ρ 50 = b) (hl : e0.l 2 = memIs b C n) (he : cellEnv e0 v) :
    SumsOK Tryz.prog (base1 w (memM0 v)) e0 cycSums := by
  intro f sm h cf _ e hne
  unfold cycSums at h
  cases h9 : Nat.beq f 9 with
  | true =>
    rw [h9] at h
    have := Nat.eq_of_beq_eq_true h9
    subst this; cases h
    exact memC_ok hv h0 h1 (by rw [hne.2.2 50 (by omega)]; exact hb) (by rw [hne.1]; exact hl) (cellEnv.near hne he) cf
  | false =>
    rw [h9] at h; simp only [cond_false] at h
    cases h17 : Nat.beq f 17 with
    | true =>
      rw [h17] at h
      have := Nat.eq_of_beq_eq_true h17
      subst this; cases h
      exact yes_ok closed_calls cf
    | false =>
      rw [h17] at h; simp only [cond_false] at h
      cases h49 : Nat.beq f 49 with
      | true =>
        rw [h49] at h
        have := Nat.eq_of_beq_eq_true h49
        subst this; cases h
        exact oneS_ok mixed ext_ok (fun c v hv => of_run ofA0 ofA1 ofA2 ofA3 c v hv) cf e
      | false => rw [h49] at h; cases h

/-! ## The law -/

theorem cyc_all (c : Nat) (h : c < 256) : cycAt c = .ok := by
  by_cases g0 : c < 16
  · exact cycs0 c (by omega) g0
  by_cases g1 : c < 32
  · exact cycs1 c (by omega) g1
  by_cases g2 : c < 48
  · exact cycs2 c (by omega) g2
  by_cases g3 : c < 64
  · exact cycs3 c (by omega) g3
  by_cases g4 : c < 80
  · exact cycs4 c (by omega) g4
  by_cases g5 : c < 96
  · exact cycs5 c (by omega) g5
  by_cases g6 : c < 112
  · exact cycs6 c (by omega) g6
  by_cases g7 : c < 128
  · exact cycs7 c (by omega) g7
  by_cases g8 : c < 144
  · exact cycs8 c (by omega) g8
  by_cases g9 : c < 160
  · exact cycs9 c (by omega) g9
  by_cases g10 : c < 176
  · exact cycs10 c (by omega) g10
  by_cases g11 : c < 192
  · exact cycs11 c (by omega) g11
  by_cases g12 : c < 208
  · exact cycs12 c (by omega) g12
  by_cases g13 : c < 224
  · exact cycs13 c (by omega) g13
  by_cases g14 : c < 240
  · exact cycs14 c (by omega) g14
  · exact cycs15 c (by omega) h

/-- Registers whose halt is told. -/
theorem pegL_vr {e : Env} {M : Lay} {q : Peg} (hq : q.ok) (he : q.env e.ρ) {halt : T} (hh : halt.ev e = bint q.h) : VR e M (.agg (pegL halt)) q.val := by
  obtain ⟨h0, h1, h2, h3, h4, h5⟩ := hq
  obtain ⟨e0, e1, e2, e3, e5, e10, e6, b0, b1, b2, b3, b4, b5, b6, b7⟩ := he
  have hp : pswT.ev e = q.p := by
    unfold pswT
    simp only [add_ev, scale_ev]
    rw [vr_id b0 (by omega) (by omega), vr_id b1 (by omega) (by omega), vr_id b2 (by omega) (by omega), vr_id b3 (by omega) (by omega), vr_id b4 (by omega) (by omega), vr_id b5 (by omega) (by omega), vr_id b6 (by omega) (by omega), vr_id b7 (by omega) (by omega)]
    omega
  refine .agg _ _ (.cons _ _ _ _ (int_vr (vr_id e0 h0.1 h0.2)) (.cons _ _ _ _ (int_vr (vr_id e1 h1.1 h1.2)) (.cons _ _ _ _ (int_vr (vr_id e2 h2.1 h2.2)) (.cons _ _ _ _ (int_vr (vr_id e3 h3.1 h3.2))
    (.cons _ _ _ _ (int_vr hp) (.cons _ _ _ _ (int_vr (bytes2_ev e5 e10 h5.1 h5.2)) (.cons _ _ _ _ (.bool _ _ hh) .nil)))))))

def capV : Value → Int
  | .slice _ _ c => (c : Int)
  | _ => 0
def lenV : Value → Int
  | .slice _ n _ => (n : Int)
  | _ => 0
def nilV : Value → Int
  | .slice none _ _ => 1
  | _ => 0
def offV : Value → Nat
  | .slice (some a) _ _ => a.off
  | _ => 0

/-- The symbols' numbers. -/
def lawE (q : Peg) (v : Value) (b : Int) (L : List Int) : Env := ⟨fun i => match i with
    | 0 => q.a | 1 => q.x | 2 => q.y | 3 => q.s | 5 => q.pc % 256 | 10 => q.pc / 256 | 6 => bint q.h | 50 => b | 61 => capV v | 62 => lenV v | 63 => nilV v
    | 100 => q.p % 2 | 101 => q.p / 2 % 2 | 102 => q.p / 4 % 2 | 103 => q.p / 8 % 2 | 104 => q.p / 16 % 2 | 105 => q.p / 32 % 2 | 106 => q.p / 64 % 2 | 107 => q.p / 128 % 2 | _ => 0,
  fun k => if k = 2 then L else if k = 3 then List.replicate (offV v) 0 else [], fun _ _ _ => 0⟩

theorem lawE_peg (q : Peg) (v : Value) (b : Int) (L : List Int) : q.env (lawE q v b L).ρ := ⟨rfl, rfl, rfl, rfl, rfl, rfl, rfl, rfl, rfl, rfl, rfl, rfl, rfl, rfl, rfl⟩
theorem lawE_cells {w : World} {v : Value} {C : List Int} {n : Nat} (hv : Cells w v C n) (q : Peg) (b : Int) (L : List Int) : cellEnv (lawE q v b L) v := by
  cases hv with
  | none => exact ⟨rfl, rfl, rfl⟩
  | empty r off => exact ⟨rfl, rfl, rfl, List.length_replicate⟩
  | some r off n c arr el fr C k1 k2 k3 k4 k5 k6 => exact ⟨rfl, rfl, rfl, List.length_replicate⟩

theorem cyc_calls (q : Peg) (hq : q.ok) {w : World} {v : Value} {C : List Int} {n : Nat} (hv : Cells w v C n) {b : Int} (h0 : 0 ≤ b) (h1 : b ≤ 255) :
    Calls Tryz.prog 7 #[q.val, v, .int .u8 b] w fun en w' => en = .returned (.bool true) ∧ Go.Sx.Grown w w' := by
  let L := memIs b C n
  let e := lawE q v b L
  have hsum := cycSums_ok (e0 := e) hv h0 h1 rfl rfl (lawE_cells hv q b L)
  have hlen : (T.op .len (lvk 2) (.lit 0) 0).ev e = 65536 := by
    show ((L.length : Nat) : Int) = 65536
    rw [show L.length = 65536 from memIs_length b C n]; rfl
  have args : ∀ halt : T, halt.ev e = bint q.h → VRs e (base1 w (memM0 v)).M0 [.agg (pegL halt), cellsS, .int .u8 (vr 50 0 255)] (#[q.val, v, .int .u8 b] : Array Value).toList := fun halt hh =>
    .cons _ _ _ _ (pegL_vr hq (lawE_peg q v b L) hh) (.cons _ _ _ _ (cells_vr hv (lawE_cells hv q b L) rfl) (.cons _ _ _ _ (int_vr (vr_id (i := 50) rfl h0 h1)) .nil))
  cases hh : q.h with
  | true =>
    have hf : Facts.ok e [(.op .len (lvk 2) (.lit 0) 0, 65536, 65536)] := by
      intro x hx
      rcases List.mem_cons.1 hx with rfl | hx
      · simp only [hlen]; omega
      · cases hx
    have hrun := cycHalt
    rw [← kCycV_eq] at hrun
    exact calls_true' (F := base1 w (memM0 v)) mixed ext_ok hsum hrun (heap1 hf) rfl (fun _ => rfl) (args (.lit 1) (by rw [ev_lit, hh]; rfl))
  | false =>
    have g0 : 0 ≤ (T.op .rd (lvk 2) pcT 8).ev e := clamp_ge (by decide)
    have g1 : (T.op .rd (lvk 2) pcT 8).ev e ≤ 255 := clamp_le (by decide)
    obtain ⟨c, hc⟩ := Int.eq_ofNat_of_zero_le g0
    have hc' : c < 256 := by omega
    have hf : Facts.ok e (cycF c) := by
      intro x hx
      have hx' : x ∈ [(T.op .rd (lvk 2) pcT 8, (c : Int), (c : Int)), (.op .len (lvk 2) (.lit 0) 0, 65536, 65536)] := hx
      rcases List.mem_cons.1 hx' with rfl | hx'
      · simp only [hc]; omega
      · rcases List.mem_cons.1 hx' with rfl | hx'
        · simp only [hlen]; omega
        · cases hx'
    have hrun := cyc_all c hc'
    unfold cycAt at hrun
    rw [← kCycV_eq] at hrun
    exact calls_true' (F := base1 w (memM0 v)) mixed ext_ok hsum hrun (heap1 hf) rfl (fun _ => rfl) (args (.lit 0) (by rw [ev_lit, hh]; rfl))
end Go.Proofs.YtnhphhlojkhlcaaGreatDoor

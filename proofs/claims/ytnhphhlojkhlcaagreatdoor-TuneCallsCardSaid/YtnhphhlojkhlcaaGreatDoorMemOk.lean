/- memory's answer to four cells is right. -/
import Derived.Test.YtnhphhlojkhlcaaGreatDoorCallsLaw
namespace Go.Proofs.YtnhphhlojkhlcaaGreatDoor
open Go Go.Sx Go.RowKit

theorem memS_inv {cf : CF} {args : List SV} {h : Hs} {k : FR → Hs → V} (hk : memS cf args h k = .ok) : ∃ b cap a0 v0 a1 v1 a2 v2 a3 v3 wr,
    args = [.slice b (.lit (.ofNat 0)) (.lit (.ofNat 4)) cap 2, .int .u8 (vr 7 0 255)] ∧
    h.hp.get b = some (.row [.int .u16 a0, .int .u8 v0, .int .u16 a1, .int .u8 v1, .int .u16 a2, .int .u8 v2, .int .u16 a3, .int .u8 v3] 47 wr) ∧
    (inBits h.fs 16 a0 = true ∧ inBits h.fs 8 v0 = true ∧ inBits h.fs 16 a1 = true ∧ inBits h.fs 8 v1 = true ∧ inBits h.fs 16 a2 = true ∧ inBits h.fs 8 v2 = true ∧ inBits h.fs 16 a3 = true ∧ inBits h.fs 8 v3 = true) ∧
    k (.ret (newS h)) ({ h with fs := (.op .len lv (.lit 0) 0, 65536, 65536) :: h.fs }.alloc (.ints .u8 8 (fourT lv a0 v0 a1 v1 a2 v2 a3 v3) 5 true)) = .ok := by
  unfold memS at hk
  split at hk
  · rename_i b cap by_
    split at hk
    · rename_i a0 v0 a1 v1 a2 v2 a3 v3 wr hg
      cases hc : (T.same by_ (vr 7 0 255) && inBits h.fs 16 a0 && inBits h.fs 8 v0 && inBits h.fs 16 a1 && inBits h.fs 8 v1 && inBits h.fs 16 a2 && inBits h.fs 8 v2 && inBits h.fs 16 a3 && inBits h.fs 8 v3) with
      | false => rw [hc] at hk; cases hk
      | true =>
        rw [hc] at hk; simp only [cond_true] at hk
        simp only [Bool.and_eq_true] at hc
        obtain ⟨⟨⟨⟨⟨⟨⟨⟨e0, c0⟩, c1⟩, c2⟩, c3⟩, c4⟩, c5⟩, c6⟩, c7⟩ := hc
        have := T.same_eq e0
        subst this
        exact ⟨b, cap, a0, v0, a1, v1, a2, v2, a3, v3, wr, rfl, hg, ⟨c0, c1, c2, c3, c4, c5, c6, c7⟩, hk⟩
    · cases hk
  · cases hk

set_option maxRecDepth 100000 in
/-- The frame ahead of the first loop. -/
theorem inv_start {e : Env} {F : Base} {M : Lay} {h : Hs} {b0 : Nat} {cap : Option T} {bv : Int} {a : Act} {w : World} {rc nc : Nat} (hb : (vr 7 0 255).ev e = bv) (hM : M b0 = some (rc, nc))
    (ho : StOK e F M [] ⟨(((tmPre (.slice b0 (.lit (.ofNat 0)) (.lit (.ofNat 4)) cap 2) (.int .u8 (vr 7 0 255))).set (some (newS h)) 8).set (some (newS h)) 5).set (some (.int .i64 (.lit 0))) 6, 41,
      h.alloc (.row (zerosS (.int .u8 0) (65536 * 1)) 5 true), []⟩ a w) :
    ∃ r m c, M h.hn = some (r, 65536 + m) ∧ 4 ≤ c ∧ c * 2 ≤ nc ∧ Inv m rc nc 0 4 c bv r w 0 a w := by
  have hg : (h.alloc (.row (zerosS (.int .u8 0) (65536 * 1)) 5 true)).hp.get h.hn = some (.row (zerosS (.int .u8 0) (65536 * 1)) 5 true) := by
    show (h.hp.set _ _).get _ = _
    rw [Tr.get_set, if_pos rfl]
  obtain ⟨r, n, x, x1, x2, x3⟩ := ho.heap.live h.hn _ hg rfl
  cases x3 with
  | row _ _ _ cc pre rest fr z1 z2 z3 =>
    have hf := z3 rfl
    subst hf
    have hp := zeros_are (b := bv) z2
    subst hp
    have hn : cc.size = 65536 + rest.length := by
      have := congrArg List.length z1
      simpa [listAt_length] using this
    have hcc : cc = ((listAt bv 0).map (Value.int .u8) ++ rest).toArray := by apply Array.ext'; rw [z1]
    obtain ⟨y0, p0, q0⟩ := ho.tm 0 (.slice b0 (.lit (.ofNat 0)) (.lit (.ofNat 4)) cap 2) rfl
    obtain ⟨y1, p1, q1⟩ := ho.tm 1 (.int .u8 (vr 7 0 255)) rfl
    obtain ⟨y5, p5, q5⟩ := ho.tm 5 (newS h) rfl
    obtain ⟨y6, p6, q6⟩ := ho.tm 6 (.int .i64 (.lit 0)) rfl
    have hd := ho.defs
    have hd' : a.defers = [] := by generalize a.defers = z at hd; cases hd; rfl
    cases q0 with
    | slice _ _ _ _ _ r' n' c k1 k2 k3 k4 k5 k6 =>
      rw [hM] at k1; cases k1
      refine ⟨r, rest.length, c, by rw [x1, hn], ?_, ?_, ?_⟩
      · have := k4; rw [ev_lit] at this; exact this
      · have := k6.1; rw [ev_lit] at this; omega
      · refine ⟨by rw [p0]; simp [ev_lit], by rw [p1]; cases q1; rw [hb], ?_, by rw [p6]; cases q6; rfl, ho.nt, hd', ⟨rest, rfl, by rw [x2, hcc]⟩, rfl, rfl, rfl, Nat.le_refl _, fun _ _ _ => rfl⟩
        rw [p5]
        simp only [newS] at q5
        cases q5 with
        | slice _ _ _ _ _ r2 n2 c2 j1 j2 j3 j4 j5 j6 =>
          rw [x1] at j1; cases j1
          have := j5 _ rfl
          rw [ev_lit] at this
          have : c2 = 65536 := by omega
          subst this
          simp [ev_lit]

theorem HeapOK_gets {e : Env} {F : Base} {M : Lay} {w : World} {h h' : Hs} (H : HeapOK e F M h w) (hg : ∀ i, h'.hp.get i = h.hp.get i) (hn : h'.hn = h.hn) (hf : h'.fs = h.fs) (g0 : h'.n0 = h.n0) (g1 : h'.ng = h.ng) : HeapOK e F M h' w := by
  refine ⟨fun i o hi => H.live i o (by rw [← hg]; exact hi), fun i j oi oj ri rj ni nj hi hli hj => H.inj i j oi oj ri rj ni nj (by rw [← hg]; exact hi) hli (by rw [← hg]; exact hj), by rw [hn]; exact H.fresh, by rw [hf]; exact H.fact,
    H.old, by rw [hn]; exact H.n0, by rw [g0]; exact H.cn0, by rw [g1]; exact H.cng, H.ng, fun i o r n hi => H.new i o r n (by rw [← hg]; exact hi), fun i o hi => H.wr i o (by rw [← hg]; exact hi), H.glob, H.frame⟩

theorem results9 : Tryz.f9.results = #[.tmp 4] := by kernel_rfl

set_option maxRecDepth 100000 in
/-- memory, called with four cells. -/
theorem mem_ok {e : Env} {F : Base} {b : Int} (hb : 0 ≤ b ∧ b ≤ 255) (hρ : e.ρ 7 = b) (hl : e.l 0 = listAt b 65536) : MemOK e F := by
  intro cf M h w g args vs k hk H hargs
  simp only at hk
  split at hk
  · rename_i hg9
    subst hg9
    obtain ⟨b0, cap, a0, v0, a1, v1, a2, v2, a3, v3, wr, rfl, hrow, ⟨c0, c1, c2, c3, c4, c5, c6, c7⟩, hk⟩ := memS_inv hk
    have hbv : (vr 7 0 255).ev e = b := vr_id hρ hb.1 hb.2
    obtain ⟨rc, nc, xc, hMb, hwc, hoc⟩ := H.live b0 _ hrow rfl
    have hne0 : b0 ≠ h.hn := by
      intro he
      have := H.fresh h.hn (Nat.le_refl _)
      rw [← he, hMb] at this; cases this
    refine calls_of_wp Tryz.func9 body9 ?_
    have hs := start_ok (D := []) H hargs Tryz.f9.ntmps
    rw [show [SV.slice b0 (.lit (.ofNat 0)) (.lit (.ofNat 4)) cap 2, SV.int .u8 (vr 7 0 255)].length + (Tryz.f9.ntmps - [SV.slice b0 (.lit (.ofNat 0)) (.lit (.ofNat 4)) cap 2, SV.int .u8 (vr 7 0 255)].length) = 41 by rw [ntmps9]; rfl] at hs
    refine upto_loop hs ?_
    intro M1 a1' w1 hM1 h1
    obtain ⟨r, m, c, hMr, hc4, hcn, hinv⟩ := inv_start hbv (hM1 _ _ hMb) h1
    have hrow1 : (h.alloc (.row (zerosS (.int .u8 0) (65536 * 1)) 5 true)).hp.get b0 = some (.row [.int .u16 a0, .int .u8 v0, .int .u16 a1, .int .u8 v1, .int .u16 a2, .int .u8 v2, .int .u16 a3, .int .u8 v3] 47 wr) := by
      show (h.hp.set _ _).get _ = _
      rw [Tr.get_set, if_neg (fun he => hne0 he.symm)]; exact hrow
    have hrow2 : (h.alloc (.row (zerosS (.int .u8 0) (65536 * 1)) 5 true)).hp.get h.hn = some (.row (zerosS (.int .u8 0) (65536 * 1)) 5 true) := by
      show (h.hp.set _ _).get _ = _
      rw [Tr.get_set, if_pos rfl]
    have hne : rc ≠ r := fun he => hne0 (h1.heap.inj b0 h.hn _ _ rc r nc (65536 + m) hrow1 rfl hrow2 rfl (.inr rfl) (hM1 _ _ hMb) hMr he)
    obtain ⟨rc', nc', xc1, g1, g2, g3⟩ := h1.heap.live b0 _ hrow1 rfl
    rw [hM1 _ _ hMb] at g1; cases g1
    cases g3 with
    | row _ _ _ cc pre tail fr z1 z2 z3 =>
    obtain ⟨rr, nr, xr, y1, y2, y3⟩ := h1.heap.live h.hn _ hrow2 rfl
    rw [hMr] at y1; cases y1
    let av : Nat → Int := fun j => match j with | 0 => a0.ev e | 1 => a1.ev e | 2 => a2.ev e | _ => a3.ev e
    let cv : Nat → Int := fun j => match j with | 0 => v0.ev e | 1 => v1.ev e | 2 => v2.ev e | _ => v3.ev e
    have hpre : cc.toList = [.int .u16 (av 0), .int .u8 (cv 0), .int .u16 (av 1), .int .u8 (cv 1), .int .u16 (av 2), .int .u8 (cv 2), .int .u16 (av 3), .int .u8 (cv 3)] ++ tail := by
      rw [z1]
      cases z2 with | cons _ _ _ _ k1 z2 => cases k1; cases z2 with | cons _ _ _ _ k1 z2 => cases k1; cases z2 with | cons _ _ _ _ k1 z2 => cases k1; cases z2 with | cons _ _ _ _ k1 z2 => cases k1; cases z2 with | cons _ _ _ _ k1 z2 => cases k1; cases z2 with | cons _ _ _ _ k1 z2 => cases k1; cases z2 with | cons _ _ _ _ k1 z2 => cases k1; cases z2 with | cons _ _ _ _ k1 z2 => cases k1; cases z2; rfl
    have ha : ∀ j, 0 ≤ av j ∧ av j ≤ 65535 := by
      have i0 := inBits_ok H.fact c0
      have i1 := inBits_ok H.fact c2
      have i2 := inBits_ok H.fact c4
      have i3 := inBits_ok H.fact c6
      intro j
      match j with
      | 0 => exact ⟨i0.1, by have := i0.2; show a0.ev e ≤ 65535; omega⟩
      | 1 => exact ⟨i1.1, by have := i1.2; show a1.ev e ≤ 65535; omega⟩
      | 2 => exact ⟨i2.1, by have := i2.2; show a2.ev e ≤ 65535; omega⟩
      | j + 3 => exact ⟨i3.1, by have := i3.2; show a3.ev e ≤ 65535; omega⟩
    have hv : ∀ j, 0 ≤ cv j ∧ cv j ≤ 255 := by
      have i0 := inBits_ok H.fact c1
      have i1 := inBits_ok H.fact c3
      have i2 := inBits_ok H.fact c5
      have i3 := inBits_ok H.fact c7
      intro j
      match j with
      | 0 => exact ⟨i0.1, by have := i0.2; show v0.ev e ≤ 255; omega⟩
      | 1 => exact ⟨i1.1, by have := i1.2; show v1.ev e ≤ 255; omega⟩
      | 2 => exact ⟨i2.1, by have := i2.2; show v2.ev e ≤ 255; omega⟩
      | j + 3 => exact ⟨i3.1, by have := i3.2; show v3.ev e ≤ 255; omega⟩
    refine wp_mono (loop1_ok hb hc4 (by omega) hinv) ?_
    rintro en a2' w2 ⟨rfl, hinv2⟩
    refine ⟨rfl, ?_⟩
    have hrlt : rc < w1.heap.size := (Array.getElem?_eq_some_iff.1 g2).1
    refine wp_mono (rest_ok hb ha hv hc4 hcn (by rw [hinv2.oth rc hrlt hne]; exact g2) hpre hne hinv2) ?_
    rintro en a3' w3 ⟨hen, hd, ht4, ⟨rest, hrl, hblk⟩, hos, htape, hout, hsize, hoth⟩
    have hB : F.B ≤ r := h1.heap.new h.hn _ r _ hrow2 rfl H.n0 hMr
    have Hd : HeapOK e F M1 ((h.alloc (.row (zerosS (.int .u8 0) (65536 * 1)) 5 true)).upd h.hn .dead) w1 := by
      refine h1.heap.upd (o' := .dead) hrow2 rfl rfl hMr (x := xr) ?_ rfl rfl rfl (fun hx => by cases hx)
      intro k
      split
      · rename_i hkr; rw [hkr]; exact y2
      · rfl
    have hlive : ∀ i o r' n, ((h.alloc (.row (zerosS (.int .u8 0) (65536 * 1)) 5 true)).upd h.hn .dead).hp.get i = some o → o.live = true → M1 i = some (r', n) → r' ≠ r := by
      intro i o r' n hi hlv hMi hr
      have hget : ((h.alloc (.row (zerosS (.int .u8 0) (65536 * 1)) 5 true)).upd h.hn .dead).hp.get i = if h.hn = i then some .dead else (h.alloc (.row (zerosS (.int .u8 0) (65536 * 1)) 5 true)).hp.get i := Tr.get_set _ _ _ _
      rw [hget] at hi
      split at hi
      · cases hi; cases hlv
      · rename_i hni
        exact hni (h1.heap.inj h.hn i _ o r r' (65536 + m) n hrow2 rfl hi hlv (.inl rfl) hMr hMi hr.symm)
    have Ho := Hd.other r hB hlive hos htape hout hsize (fun k hk hkr => hoth k hk hkr)
    have hevl : (fourT lv a0 v0 a1 v1 a2 v2 a3 v3).evl e = fourL (listAt b 65536) av cv := by
      unfold fourT fourL
      simp only [lsetT_evl]
      rw [show lv.evl e = listAt b 65536 from hl]
      rfl
    have hlen : (fourL (listAt b 65536) av cv).length = 65536 := by unfold fourL; simp only [List.length_set, listAt_length]
    have hrange : ∀ x ∈ fourL (listAt b 65536) av cv, 0 ≤ x ∧ x < 2 ^ 8 := by
      intro x hx
      unfold fourL at hx
      rcases List.mem_or_eq_of_mem_set hx with hx | rfl
      · rcases List.mem_or_eq_of_mem_set hx with hx | rfl
        · rcases List.mem_or_eq_of_mem_set hx with hx | rfl
          · rcases List.mem_or_eq_of_mem_set hx with hx | rfl
            · exact listAt_range b 65536 x hx
            · have := hv 0; omega
          · have := hv 1; omega
        · have := hv 2; omega
      · have := hv 3; omega
    have hor : OR e M1 (.ints .u8 8 (fourT lv a0 v0 a1 v1 a2 v2 a3 v3) 5 true) (.cells ((fourL (listAt b 65536) av cv).map (Value.int .u8) ++ rest).toArray 5 (0, 0)) (65536 + m) := by
      have := OR.ints (e := e) (M := M1) .u8 8 (fourT lv a0 v0 a1 v1 a2 v2 a3 v3) 5 true ((fourL (listAt b 65536) av cv).map (Value.int .u8) ++ rest).toArray rest (0, 0) (by rw [hevl]) (by rw [hevl]; exact hrange) (fun _ => rfl)
      have hsz : ((fourL (listAt b 65536) av cv).map (Value.int .u8) ++ rest).toArray.size = 65536 + m := by simp [hlen, hrl]
      rw [hsz] at this
      exact this
    have Hb := Ho.born (i := h.hn) (o := .ints .u8 8 (fourT lv a0 v0 a1 v1 a2 v2 a3 v3) 5 true) hMr hblk hor H.n0 hB hlive
    have hfacts : Facts.ok e ((.op .len lv (.lit 0) 0, 65536, 65536) :: h.fs) := by
      intro x hx
      rcases List.mem_cons.1 hx with rfl | hx
      · have : (T.op .len lv (.lit 0) 0).ev e = ((listAt b 65536).length : Int) := by
          show ((lv.evl e).length : Int) = _
          rw [show lv.evl e = listAt b 65536 from hl]
        simp only [this, listAt_length]
        omega
      · exact H.fact x hx
    have Hf := Hb.facts hfacts
    have Hg : HeapOK e F M1 (({ h with fs := (.op .len lv (.lit 0) 0, 65536, 65536) :: h.fs } : Hs).alloc (.ints .u8 8 (fourT lv a0 v0 a1 v1 a2 v2 a3 v3) 5 true)) w3 := by
      refine HeapOK_gets Hf ?_ rfl rfl rfl rfl
      intro i
      show (h.hp.set _ _).get _ = (((h.hp.set _ _).set _ _).set _ _).get _
      rw [Tr.get_set, Tr.get_set, Tr.get_set, Tr.get_set]
      split <;> rfl
    have hres : (results Tryz.f9 a3'.tmps).run Tryz.prog w3 = .ok (.slice (some ⟨r, 0, none⟩) 65536 65536) w3 := by
      have h4 : a3'.tmps.getD 4 undef = .slice (some ⟨r, 0, none⟩) 65536 65536 := by simp [ht4]
      rw [results_eq, results9]
      simp only [List.mapM_toArray, List.mapM_cons, List.mapM_nil, resF, h4, Sem.run_bind, Sem.run_pure, Sem.run_map, Result.andThen_ok]
      rfl
    have hvr : VR e M1 (newS h) (.slice (some ⟨r, 0, none⟩) 65536 65536) := by
      have := VR.slice (e := e) (M := M1) h.hn (.lit 0) (.lit 65536) (some (.lit 65536)) 1 r (65536 + m) 65536 hMr (Int.le_refl _) (by rw [ev_lit]; omega) (by rw [ev_lit]; omega) (fun t ht => by cases ht; rfl) ⟨by rw [ev_lit]; omega, fun h => by cases h⟩
      simp only [ev_lit] at this
      exact this
    rcases hen with rfl | rfl
    · exact ⟨hd, _, hres, M1, _, _, hM1, Hg, .ret _ _ hvr, hk⟩
    · exact ⟨hd, _, hres, M1, _, _, hM1, Hg, .ret _ _ hvr, hk⟩
  · cases hk

theorem tuneCalls_calls (q : Peg) (hq : q.ok) (to b : Int) (h1 : 0 ≤ to ∧ to ≤ 65535) (h2 : 0 ≤ b ∧ b ≤ 255) (w : World) :
    Calls Tryz.prog 8 #[q.val, .int .u16 to, .int .u8 b] w fun en w' => en = .returned (.bool true) ∧ Go.Sx.Grown w w' :=
  calls_calls (fun _ _ _ g1 g2 g3 g4 => mem_ok ⟨g1, g2⟩ g3 g4) q hq to b h1 h2 w
end Go.Proofs.YtnhphhlojkhlcaaGreatDoor

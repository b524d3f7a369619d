/- TuneCourses as a call. Nothing is claimed here beyond the call. -/
import Derived.Test.YtnhphhlojkhlcaaGreatDoorLawS
namespace Go.Proofs.YtnhphhlojkhlcaaGreatDoor
open Go Go.Sx Go.RowKit

/-- The symbols' numbers; the answers, of so many bytes each. -/
def lawE (q : Peg) (v : Value) (S : List Int) (o : Nat → Out) : Env := ⟨(crsE q v v S).ρ, (crsE q v v S).l, fun k a b => match k with
  | 0 => ((o a.toNat).n : Int)
  | 1 => bint (o a.toNat).d
  | 2 => (o a.toNat).cs.getD b.toNat 0
  | 3 => (o a.toNat).q.getD b.toNat 0
  | 4 => bint (o a.toNat).h
  | _ => 0⟩

section
variable {q : Peg} {v : Value} {S : List Int} {o : Nat → Out} {e : Env}

theorem appT_ev (e : Env) (k : Nat) (a b : T) : (appT k a b).ev e = e.f k (a.ev e) (b.ev e) := by unfold appT; rw [atom_ev]; rfl

theorem tabT_evl (he : (lawE q v S o).near e) {n : T} (hc : (o (n.ev e).toNat).cs.length = 3 * (o (n.ev e).toNat).n) : (tabT n).evl e = (o (n.ev e).toNat).cs := by
  have h1 : (tabT n).evl e = (List.range ((T.scale 3 (cntT n)).ev e).toNat).map fun (i : Nat) => e.f 2 (n.ev e) (i : Int) := rfl
  have h2 : (T.scale 3 (cntT n)).ev e = 3 * ((o (n.ev e).toNat).n : Int) := by
    rw [scale_ev]; unfold cntT; rw [appT_ev, he.2.1]; rfl
  rw [h1, h2]
  apply List.ext_getElem
  · simp [hc]; omega
  · intro i i1 i2
    rw [List.getElem_map, List.getElem_range, he.2.1]
    show (o (n.ev e).toNat).cs.getD ((i : Int)).toNat 0 = _
    rw [Int.toNat_natCast, List.getD_eq_getElem?_getD, List.getElem?_eq_getElem i2]; rfl

theorem bint_01 (b : Bool) : 0 ≤ bint b ∧ bint b ≤ 1 := by cases b <;> decide

theorem ansF_ok (he : (lawE q v S o).near e) {n : T} (hok : (o (n.ev e).toNat).ok) : Facts.ok e (ansF n) := by
  have e0 : (T.op .app n (.lit 0) 0).ev e = ((o (n.ev e).toNat).n : Int) := by
    show e.f 0 _ _ = _; rw [he.2.1]; rfl
  have e1 : (T.op .app n (.lit 0) 1).ev e = bint (o (n.ev e).toNat).d := by
    show e.f 1 _ _ = _; rw [he.2.1]; rfl
  have e4 : (T.op .app n (.lit 0) 4).ev e = bint (o (n.ev e).toNat).h := by
    show e.f 4 _ _ = _; rw [he.2.1]; rfl
  have e5 : (T.sub (lenL (tabT n)) (T.scale 3 (cntT n))).ev e = 0 := by
    rw [sub_ev, lenL_ev, tabT_evl he hok.2.1, scale_ev]
    unfold cntT
    rw [appT_ev, he.2.1, hok.2.1]
    show ((3 * (o (n.ev e).toNat).n : Nat) : Int) - 3 * ((o (n.ev e).toNat).n : Int) = 0
    omega
  intro x hx
  simp only [ansF, List.mem_cons, List.not_mem_nil, or_false] at hx
  rcases hx with rfl | rfl | rfl | rfl
  · simp only [e0]; have := hok.1; omega
  · simp only [e1]; exact bint_01 _
  · simp only [e4]; exact bint_01 _
  · simp only [e5]; omega

/-- What an instruction's answer is on symbols. -/
theorem ans_post {F : Base} {M : Lay} {h : Hs} {w : World} {f : FuncId} {vs : Array Value} {k : FR → Hs → V} {n : T} (he : (lawE q v S o).near e) (H : HeapOK e F M h w) (hok : (o (n.ev e).toNat).ok)
    (hcall : Calls Tryz.prog f vs w (AnsIs w (o (n.ev e).toNat))) (hk : k (ansV n h) (ansH n h) = .ok) :
    Calls Tryz.prog f vs w fun en w' => ∃ M' h' r, M.le M' ∧ HeapOK e F M' h' w' ∧ FRel e M' r en ∧ k r h' = .ok := by
  refine Calls.mono hcall ?_
  rintro en w3 ⟨hgr, _, b, c, arr, el, fr, rfl, hb, hnc, hblk, hsz, hcs⟩
  have hf : Facts.ok e (ansF n ++ h.fs) := by
    intro x hx
    rcases List.mem_append.1 hx with hx | hx
    · exact ansF_ok he hok x hx
    · exact H.fact x hx
  have hor : ∀ M', OR e M' (.recs accK (tabT n) (.lit 0)) (.cells arr el fr) arr.size := by
    intro M'
    refine .recs accK _ _ el arr fr (Int.le_refl _) ?_
    intro i x hi
    rw [tabT_evl he hok.2.1] at hi
    obtain ⟨g1, g2, g3⟩ := hcs i x hi
    have hm : i % accK.length = i % 3 := rfl
    rw [hm]
    refine ⟨?_, g2, g3⟩
    rw [ev_lit, Int.toNat_zero, Nat.zero_add]; exact g1
  obtain ⟨a1, a2⟩ := (H.facts hf).adopt hgr (r := b) (n := arr.size) (o := .recs accK (tabT n) (.lit 0)) hb (fun _ => ⟨_, hblk, fun M' _ => hor M'⟩)
  refine ⟨_, _, _, a1, a2, .ret _ _ ?_, hk⟩
  have ecnt : (cntT n).ev e = ((o (n.ev e).toNat).n : Int) := by unfold cntT; rw [appT_ev, he.2.1]; rfl
  have ereg : ∀ i : Nat, (appT 3 n (.lit (i : Int))).ev e = (o (n.ev e).toNat).q.getD i 0 := by
    intro i
    rw [appT_ev, he.2.1, ev_lit]
    show (o (n.ev e).toNat).q.getD ((i : Int)).toNat 0 = _
    rw [Int.toNat_natCast]
  have hs := VR.slice (e := e) (M := M.put h.hn b arr.size) h.hn (.lit 0) (cntT n) none 3 b arr.size c (Lay.put_same _ _ _) (Int.le_refl _) (by rw [ecnt]; omega) (by rw [ecnt]; simpa using hnc)
    (fun t ht => by cases ht) ⟨by rw [ev_lit, hsz]; simp, fun _ => by rw [ev_lit, hsz]; simp⟩
  rw [ecnt, ev_lit] at hs
  refine .tup _ _ (.cons _ _ _ _ hs (.cons _ _ _ _ (.bool _ _ ?_) (.cons _ _ _ _ (.agg _ _ ?_) .nil)))
  · rw [appT_ev, he.2.1]; rfl
  · exact .cons _ _ _ _ (int_vr (ereg 0)) (.cons _ _ _ _ (int_vr (ereg 1)) (.cons _ _ _ _ (int_vr (ereg 2)) (.cons _ _ _ _ (int_vr (ereg 3)) (.cons _ _ _ _ (int_vr (ereg 4)) (.cons _ _ _ _ (int_vr (ereg 5))
      (.cons _ _ _ _ (.bool _ _ (by rw [appT_ev, he.2.1]; rfl)) .nil))))))

theorem none_vr2 {w : World} {k vc vn : Nat} (hv : Seen w v []) (he : SeenE e v k vc vn) : ∃ m0, (∀ a n c, v = .slice (some a) n c → m0.map (·.1) = some a.block) ∧ VR e (baseS w m0).M0 (.nslice 0 (lenT (lvk k)) (.lit 0) (vr vc 0 top) 1 (vr vn 0 1)) v := by
  obtain ⟨e1, e2, e3⟩ := he
  generalize hS : ([] : List Int) = S at hv
  cases hv with
  | none => exact ⟨none, (fun a n c h => by cases h), .nnone 0 _ _ _ 1 _ (vr_id e3 (by decide) (by decide)) rfl (vr_id e2 (by show (0:Int) ≤ 0; omega) (by show (0:Int) ≤ top; decide))⟩
  | empty r off c hc =>
    have h1 : (lenT (lvk k)).ev e = (off : Int) := lens e1
    have h2 : (vr vc 0 top).ev e = (c : Int) := vr_id e2 (by show (0:Int) ≤ (c:Int); omega) hc
    have h3 : (vr vn 0 1).ev e = 0 := vr_id e3 (by decide) (by decide)
    refine ⟨some (r, off + c), (fun a n c h => by cases h; rfl), ?_⟩
    have := VR.nsome (e := e) (M := (baseS w (some (r, off + c))).M0) 0 (lenT (lvk k)) (.lit 0) (vr vc 0 top) 1 (vr vn 0 1) r (off + c) c h3 rfl (by rw [h1]; omega) (by rw [ev_lit]; omega) (by rw [ev_lit]; simp) h2 (by rw [h1]; simp)
    rw [h1, ev_lit] at this
    exact this
  | some r off n c arr el fr S h0 h1 h2 h3 h4 h5 h6 =>
    subst hS
    simp only [List.length_nil] at h5
    omega

theorem some_vrN {w : World} (hv : Seen w v S) (hne : S ≠ []) (he : SeenE e v 3 61 63) (hl : e.l 1 = S) : ∃ r arr el fr, w.heap[r]? = some (.cells arr el fr) ∧
    (∀ M, OR e M (.recs [(.u8, 8)] (lvk 1) (lenT (lvk 3))) (.cells arr el fr) arr.size) ∧ VR e (baseS w (some (r, arr.size))).M0 seenN v ∧ (∀ a n c, v = .slice (some a) n c → (some (r, arr.size)).map (·.1) = some a.block) := by
  obtain ⟨e1, e2, e3⟩ := he
  cases hv with
  | none => exact absurd rfl hne
  | empty r off c hc => exact absurd rfl hne
  | some r off n c arr el fr S h0 h1 h2 h3 h4 h5 h6 =>
    have g1 : offS.ev e = (off : Int) := lens e1
    have g2 : (vr 61 0 top).ev e = (c : Int) := vr_id e2 (by show (0:Int) ≤ (c:Int); omega) h2
    have g3 : (lenT (lvk 1)).ev e = (n : Int) := lens (by rw [hl]; exact h5)
    have g4 : (vr 63 0 1).ev e = 0 := vr_id e3 (by decide) (by decide)
    refine ⟨r, arr, el, fr, h4, ?_, ?_, fun a n c h => by cases h; rfl⟩
    · intro M
      refine .recs _ _ _ el arr fr (by rw [show (lenT (lvk 3)).ev e = (off : Int) from g1]; omega) ?_
      intro i x hx
      have hx' : S[i]? = Option.some x := by
        have : (lvk 1).evl e = S := hl
        rw [this] at hx; exact hx
      obtain ⟨j1, j2, j3⟩ := h6 i x hx'
      rw [show (lenT (lvk 3)).ev e = (off : Int) from g1]
      have hm : i % [(IntKind.u8, 8)].length = 0 := Nat.mod_one i
      rw [hm]
      refine ⟨?_, j2, by show x < 2 ^ 8; omega⟩
      simpa using j1
    · have := VR.nsome (e := e) (M := (baseS w (some (r, arr.size))).M0) 0 offS (lenT (lvk 1)) (vr 61 0 top) 1 (vr 63 0 1) r arr.size c g4 rfl (by rw [g1]; omega) (by rw [g3]; omega) (by rw [g3]; simpa using h1) g2 (by rw [g1]; simpa using h3)
      rw [g1, g3] at this
      exact this

/-- All answers. -/
structure Answers (q : Peg) (S : List Int) (o : Nat → Out) : Prop where
  ok : ∀ n, (o n).ok
  tune : ∀ n w v, Seen w v (S.take n) → Calls Tryz.prog 16 #[q.val, v] w (AnsIs w (o n))
  ref : ∀ n w v, Seen w v (S.take n) → Calls Tryz.prog 15 #[q.val, v] w (AnsIs w (o n))

theorem seen_at {w : World} {r off n c : Nat} {arr : Array Value} {el : TypeId} {fr : Nat × Nat} (hc : (c : Int) ≤ top) (hnc : n ≤ c) (hS : n ≤ S.length) (hcell : 0 < n → off + c ≤ arr.size ∧ w.heap[r]? = some (.cells arr el fr) ∧
    (∀ (i : Nat) (x : Int), S[i]? = some x → arr[off + i]? = some (.int .u8 x) ∧ 0 ≤ x ∧ x < 256)) : Seen w (.slice (some ⟨r, off, none⟩) n c) (S.take n) := by
  by_cases h0 : n = 0
  · subst h0
    rw [List.take_zero]
    exact .empty r off c hc
  · obtain ⟨g1, g2, g3⟩ := hcell (by omega)
    refine .some r off n c arr el fr _ (by omega) hnc hc g1 g2 (by simp; omega) ?_
    intro i x hi
    rw [List.getElem?_take] at hi
    split at hi
    · exact g3 i x hi
    · cases hi

theorem pegV_is {M : Lay} {x : Value} (hq : q.ok) (hh : q.h = false) (he : (lawE q v S o).near e) (h : VR e M pegV x) : x = q.val := by
  have hp : q.env e.ρ := by
    have := crsE_peg q v v S
    unfold Peg.env at this ⊢
    have g : ∀ i, i < 9000 → e.ρ i = (crsE q v v S).ρ i := he.2.2
    simp only [g 0 (by omega), g 1 (by omega), g 2 (by omega), g 3 (by omega), g 5 (by omega), g 10 (by omega), g 6 (by omega), g 100 (by omega), g 101 (by omega), g 102 (by omega), g 103 (by omega), g 104 (by omega), g 105 (by omega), g 106 (by omega), g 107 (by omega)]
    exact this
  have h2 := pegL_vr (e := e) (M := M) hq hp (halt := .lit 0) (by rw [ev_lit, hh]; rfl)
  exact same_ok 6 (show SV.same 6 pegV pegV = true by kernel_rfl) h h2

/-- The document's, called. -/
theorem c15_ok {w0 : World} {m0 : Option (Nat × Nat)} (hv : Seen w0 v S) (hm2 : ∀ a n c, v = .slice (some a) n c → m0.map (·.1) = some a.block) (hq : q.ok) (hh : q.h = false) (hA : Answers q S o)
    (he : (lawE q v S o).near e) (cf : CF) : CallOK Tryz.prog e (baseS w0 m0) (fun g args h k => if g = 15 then c15 cf args h k else .bad 65 []) := by
  intro M h w2 g args vs k hk H hargs
  simp only at hk
  split at hk
  · rename_i hg
    subst hg
    unfold c15 at hk
    split at hk
    · rename_i p x
      split at hk
      · rename_i ot n c nl
        cases hc : (SV.same 6 p pegV && T.same ot offS && T.same c (vr 61 0 top) && T.same nl (vr 63 0 1) && nonneg h.fs n && nonpos h.fs (T.sub n (lenT (lvk 1)))) with
        | false => rw [hc] at hk; cases hk
        | true =>
          rw [hc] at hk; simp only [cond_true] at hk
          simp only [Bool.and_eq_true] at hc
          obtain ⟨⟨⟨⟨⟨c1, c2⟩, c3⟩, c4⟩, c5⟩, c6⟩ := hc
          have := same_is 6 c1
          subst this
          have := T.same_eq c2
          subst this
          have := T.same_eq c3
          subst this
          have := T.same_eq c4
          subst this
          have hn0 := nonneg_ok H.fact c5
          have hn1 := nonpos_ok H.fact c6
          have hl1 : (lenT (lvk 1)).ev e = (S.length : Int) := lens (by rw [he.1]; rfl)
          rw [sub_ev, hl1] at hn1
          have hc61 : (vr 61 0 top).ev e = clamp 0 top (capV v) := by rw [vr_ev, he.2.2 61 (by omega)]; rfl
          have hc63 : (vr 63 0 1).ev e = clamp 0 1 (nilV v) := by rw [vr_ev, he.2.2 63 (by omega)]; rfl
          have hoff : offS.ev e = (offV v : Int) := lens (by rw [he.1]; exact List.length_replicate)
          obtain ⟨vs⟩ := vs
          cases hargs with | cons _ x1 _ _ g1 hargs => cases hargs with | cons _ x2 _ _ g2 hargs =>
          cases hargs
          have := pegV_is hq hh he g1
          subst this
          have hseen : Seen w2 x2 (S.take (n.ev e).toNat) := by
            cases g2 with
            | nnone _ _ _ _ _ _ j1 j2 j3 =>
              rw [show (n.ev e).toNat = 0 by omega, List.take_zero]
              exact .none
            | nsome _ _ _ _ _ _ r nn cc j1 j2 j3 j4 j5 j6 j7 =>
              have hM0 : M 0 = m0 := H.old 0 Nat.zero_lt_one
              rw [j2] at hM0
              generalize hcp : clamp 0 top (capV v) = cp at hc61
              cases hv with
              | none =>
                rw [hc63] at j1
                exact absurd j1 (by decide)
              | empty r0 off0 c0 k0 =>
                have : (n.ev e).toNat = 0 := by simp only [List.length_nil] at hn1; omega
                rw [this, List.take_zero]
                have : cp = c0 := by rw [← hcp]; exact clamp_id (by show (0:Int) ≤ (c0 : Int); omega) k0
                exact .empty r _ cc (by omega)
              | some r0 off0 n0 c0 arr el fr _ k0 k1 k2 k3 k4 k5 k6 =>
                have hcc : cp = c0 := by rw [← hcp]; exact clamp_id (by show (0:Int) ≤ (c0 : Int); omega) k2
                have hr := hm2 _ _ _ rfl
                rw [← hM0] at hr
                simp only [Option.map_some, Option.some.injEq] at hr
                subst hr
                have e1 : (offS.ev e).toNat = off0 := by rw [hoff]; simp [offV]
                have e2 : cc = c0 := by omega
                subst e2
                rw [e1]
                refine seen_at (arr := arr) (el := el) (fr := fr) k2 j5 (by omega) ?_
                intro _
                refine ⟨k3, ?_, k6⟩
                rw [← k4]
                exact H.frame.block r (Array.getElem?_eq_some_iff.1 k4).1 (fun i r' n' hi hw => by cases hw)
          exact ans_post he H (hA.ok _) (hA.ref _ _ _ hseen) hk
      · cases hk
    · cases hk
  · cases hk

/-- The program's, called. -/
theorem c16_ok {w0 : World} {m0 : Option (Nat × Nat)} (hlen : (S.length : Int) ≤ top) (hq : q.ok) (hh : q.h = false) (hA : Answers q S o)
    (he : (lawE q v S o).near e) (cf : CF) : CallOK Tryz.prog e (baseS w0 m0) (fun g args h k => if g = 16 then c16 cf args h k else .bad 65 []) := by
  intro M h w2 g args vs k hk H hargs
  simp only at hk
  split at hk
  · rename_i hg
    subst hg
    unfold c16 at hk
    split at hk
    · rename_i p x
      split at hk
      · rename_i b n c
        have hl1 : (lenT (lvk 1)).ev e = (S.length : Int) := lens (by rw [he.1]; rfl)
        obtain ⟨vs⟩ := vs
        cases hargs with | cons _ x1 _ _ g1 hargs => cases hargs with | cons _ x2 _ _ g2 hargs =>
        cases hargs
        split at hk
        · rename_i L el wr hrow
          cases hc : (SV.same 6 p pegV && T.same L (copyT n) && T.same c n && nonneg h.fs n && nonpos h.fs (T.sub n (lenT (lvk 1)))) with
          | false => rw [hc] at hk; cases hk
          | true =>
            rw [hc] at hk; simp only [cond_true] at hk
            simp only [Bool.and_eq_true] at hc
            obtain ⟨⟨⟨⟨c1, c2⟩, c3⟩, c5⟩, c6⟩ := hc
            have := same_is 6 c1
            subst this
            have := T.same_eq c2
            subst this
            have := T.same_eq c3
            subst this
            have hn0 := nonneg_ok H.fact c5
            have hn1 := nonpos_ok H.fact c6
            rw [sub_ev, hl1] at hn1
            have := pegV_is hq hh he g1
            subst this
            cases g2 with
            | slice _ _ _ _ _ r nn cc j1 j2 j3 j4 j5 j6 =>
              obtain ⟨r', n', ob, m1, m2, m3⟩ := H.live b _ hrow rfl
              rw [j1] at m1; cases m1
              cases m3 with
              | ints _ _ _ _ _ arr rest fr z1 z2 z3 =>
              have hcc := j5 _ rfl
              have hcopy : (copyT c).evl e = S.take (c.ev e).toNat := by
                have h1 : (copyT c).evl e = mixL ((lvk 1).evl e) (List.replicate (c.ev e).toNat 0) (c.ev e).toNat := rfl
                have h2 : (lvk 1).evl e = S := by show e.l 1 = S; rw [he.1]; rfl
                rw [h1, h2]
                apply List.ext_getElem?
                intro i
                rw [List.getElem?_take]
                by_cases hi : i < (c.ev e).toNat
                · rw [if_pos hi]
                  unfold mixL
                  rw [List.length_replicate, List.getElem?_map, List.getElem?_range hi]
                  simp only [Option.map_some, if_pos hi]
                  rw [List.getElem?_eq_getElem (by omega), List.getD_eq_getElem?_getD, List.getElem?_eq_getElem (by omega)]; rfl
                · rw [if_neg hi, List.getElem?_eq_none (by rw [mixL_length, List.length_replicate]; omega)]
              rw [hcopy] at z1 z2
              have hfit := j6.1
              rw [ev_lit] at hfit
              have hseen : Seen w2 (.slice (some ⟨r, ((T.lit (Int.ofNat 0)).ev e).toNat, none⟩) (c.ev e).toNat cc) (S.take (c.ev e).toNat) := by
                have e0 : ((T.lit (Int.ofNat 0)).ev e).toNat = 0 := rfl
                rw [e0]
                by_cases h0 : (c.ev e).toNat = 0
                · rw [h0, List.take_zero]
                  exact .empty r 0 cc (by omega)
                · refine .some r 0 _ cc arr _ fr _ (by omega) j4 (by omega) (by simpa using hfit) m2 (by simp; omega) ?_
                  intro i x hi
                  have hz : arr[0 + i]? = some (.int .u8 x) := by
                    rw [Nat.zero_add, ← Array.getElem?_toList, z1, List.getElem?_append_left (by rw [List.length_map]; exact (List.getElem?_eq_some_iff.1 hi).1), List.getElem?_map, hi]; rfl
                  have hr := z2 x (List.mem_of_getElem? hi)
                  exact ⟨hz, hr.1, by have := hr.2; omega⟩
              exact ans_post he H (hA.ok _) (hA.tune _ _ _ hseen) hk
        · rename_i el wr hrow
          cases hc : (SV.same 6 p pegV && T.same n (.lit 0) && T.same c n) with
          | false => rw [hc] at hk; cases hk
          | true =>
            rw [hc] at hk; simp only [cond_true] at hk
            simp only [Bool.and_eq_true] at hc
            obtain ⟨⟨c1, c2⟩, c3⟩ := hc
            have := same_is 6 c1
            subst this
            have := T.same_eq c3
            subst this
            have := T.same_eq c2
            subst this
            have := pegV_is hq hh he g1
            subst this
            cases g2 with
            | slice _ _ _ _ _ r nn cc j1 j2 j3 j4 j5 j6 =>
              have hcc := j5 _ rfl
              rw [ev_lit] at hcc
              have ht : top = 140737488355328 := rfl
              have hseen : Seen w2 (.slice (some ⟨r, ((T.lit (Int.ofNat 0)).ev e).toNat, none⟩) ((T.lit 0).ev e).toNat cc) (S.take ((T.lit 0).ev e).toNat) := by
                rw [show ((T.lit 0).ev e).toNat = 0 from rfl, List.take_zero]
                exact .empty r _ cc (by omega)
              exact ans_post (n := .lit 0) he H (hA.ok _) (hA.tune _ _ _ hseen) hk
        · cases hk
      · cases hk
    · cases hk
  · cases hk

theorem lawSums_ok {w0 : World} {m0 : Option (Nat × Nat)} (hv : Seen w0 v S) (hm2 : ∀ a n c, v = .slice (some a) n c → m0.map (·.1) = some a.block) (hlen : (S.length : Int) ≤ top) (hq : q.ok) (hh : q.h = false) (hA : Answers q S o) :
    SumsOK Tryz.prog (baseS w0 m0) (lawE q v S o) lawSums := by
  intro f sm h cf _ e hne
  unfold lawSums at h
  cases h15 : Nat.beq f 15 with
  | true =>
    rw [h15] at h
    have := Nat.eq_of_beq_eq_true h15
    subst this; cases h
    exact c15_ok hv hm2 hq hh hA hne cf
  | false =>
    rw [h15] at h; simp only [cond_false] at h
    cases h16 : Nat.beq f 16 with
    | true =>
      rw [h16] at h
      have := Nat.eq_of_beq_eq_true h16
      subst this; cases h
      exact c16_ok hlen hq hh hA hne cf
    | false => rw [h16] at h; cases h

theorem seen_len {w : World} (hv : Seen w v S) : (S.length : Int) ≤ top ∧ (S.length : Int) ≤ clamp 0 top (capV v) := by
  have ht : top = 140737488355328 := rfl
  cases hv with
  | none => exact ⟨by simp; omega, by show ((0 : Nat) : Int) ≤ _; exact clamp_ge (by omega)⟩
  | empty r off c hc => exact ⟨by simp; omega, by show ((0 : Nat) : Int) ≤ _; exact clamp_ge (by omega)⟩
  | some r off n c arr el fr S h0 h1 h2 h3 h4 h5 h6 =>
    refine ⟨by omega, ?_⟩
    show _ ≤ clamp 0 top (c : Int)
    rw [clamp_id (by omega) h2]
    omega

/-- TuneCourses, called. -/
theorem courses_calls (hr : RelsOK) (hq : q.ok) {w : World} (hv : Seen w v S) : Calls Tryz.prog 4 #[q.val, v] w fun en w' => en = .returned (.bool true) ∧ Go.Sx.Grown w w' := by
  have hl := seen_len hv
  have hmm : ∀ a n c r s, v = .slice (some a) n c → v = .slice (some ⟨r, s, none⟩) n c → a.block = r := by
    intro a n c r s h1 h2
    rw [h1] at h2
    simp only [Value.slice.injEq, Option.some.injEq, and_true] at h2
    rw [h2]
  have peg : ∀ (e : Env) (halt : T), (∀ i, e.ρ i = (crsE q v v S).ρ i) → halt.ev e = bint q.h → ∀ M, VR e M (.agg (pegL halt)) q.val := by
    intro e halt hρ hh M
    refine pegL_vr hq ?_ hh
    have := crsE_peg q v v S
    unfold Peg.env at this ⊢
    simp only [hρ]
    exact this
  have factsN : ∀ e : Env, (∀ i, e.ρ i = (crsE q v v S).ρ i) → e.l = (crsE q v v S).l → S ≠ [] → Facts.ok e lawF := by
    intro e hρ hle hne x hx
    have hlen : (T.op .len (lvk 1) (.lit 0) 0).ev e = (S.length : Int) := by show ((e.l 1).length : Int) = _; rw [hle]; rfl
    have h1 : 1 ≤ S.length := List.length_pos_iff.2 hne
    have hx' : x ∈ [(T.op .len (lvk 1) (.lit 0) 0, (1 : Int), top), (T.sub (lenT (lvk 1)) (vr 61 0 top), -top, 0)] := hx
    rcases List.mem_cons.1 hx' with rfl | hx'
    · simp only [hlen]; omega
    · rcases List.mem_cons.1 hx' with rfl | hx'
      · simp only [sub_ev]
        have : (lenT (lvk 1)).ev e = (S.length : Int) := lens (by rw [hle]; rfl)
        rw [this, vr_ev, hρ 61]
        have hcl : clamp 0 top (capV v) ≤ top := clamp_le (by decide)
        refine ⟨?_, ?_⟩
        · show -top ≤ (S.length : Int) - clamp 0 top (capV v); omega
        · show (S.length : Int) - clamp 0 top (capV v) ≤ 0; omega
      · cases hx'
  have factsE : ∀ e : Env, e.l = (crsE q v v S).l → S = [] → Facts.ok e emptyF := by
    intro e hle hne x hx
    have hlen : (T.op .len (lvk 1) (.lit 0) 0).ev e = 0 := by show ((e.l 1).length : Int) = _; rw [hle, hne]; rfl
    have hx' : x ∈ [(T.op .len (lvk 1) (.lit 0) 0, (0 : Int), (0 : Int))] := hx
    rcases List.mem_cons.1 hx' with rfl | hx'
    · simp only [hlen]; omega
    · cases hx'
  by_cases hne : S = []
  · -- no bytes
    cases hh : q.h with
    | true =>
      let e := crsE q v v S
      obtain ⟨m0, a1⟩ : ∃ m0, VR e (baseS w m0).M0 seenE v := none_vr (by rw [← hne]; exact hv) ⟨List.length_replicate, rfl, rfl⟩
      exact calls_true' (F := baseS w m0) (e := e) mixed ext_ok no_sums haltEmpty_run (noHeap (factsE e rfl hne)) rfl (fun _ => rfl)
        (.cons _ _ _ _ (peg e (.lit 1) (fun _ => rfl) (by rw [ev_lit, hh]; rfl) _) (.cons _ _ _ _ a1 .nil))
    | false =>
      have hex := fun n => course_one hr hq hh (S.take n)
      obtain ⟨o, ho⟩ : ∃ o : Nat → Out, ∀ n, (o n).ok ∧ (∀ w v, Seen w v (S.take n) → Calls Tryz.prog 16 #[q.val, v] w (AnsIs w (o n))) ∧ (∀ w v, Seen w v (S.take n) → Calls Tryz.prog 15 #[q.val, v] w (AnsIs w (o n))) :=
        ⟨fun n => (hex n).choose, fun n => (hex n).choose_spec⟩
      let e := lawE q v S o
      obtain ⟨m0, hm, a1⟩ : ∃ m0, (∀ a n c, v = .slice (some a) n c → m0.map (·.1) = some a.block) ∧ VR e (baseS w m0).M0 seenE v := by
        have hse : SeenE e v 3 61 63 := ⟨List.length_replicate, rfl, rfl⟩
        rw [hne] at hv
        exact none_vr2 hv hse
      exact calls_true' (F := baseS w m0) (e := e) mixed ext_ok (lawSums_ok hv hm hl.1 hq hh ⟨fun n => (ho n).1, fun n => (ho n).2.1, fun n => (ho n).2.2⟩) empty_run (noHeap (factsE e rfl hne)) rfl (fun _ => rfl)
        (.cons _ _ _ _ (peg e (.lit 0) (fun _ => rfl) (by rw [ev_lit, hh]; rfl) _) (.cons _ _ _ _ a1 .nil))
  · cases hh : q.h with
    | true =>
      let e := crsE q v v S
      obtain ⟨r, arr, el, fr, b1, c1, a1⟩ := some_vrN (e := e) hv hne ⟨List.length_replicate, rfl, rfl⟩ rfl
      exact calls_true' (F := baseS w (some (r, arr.size))) (e := e) mixed ext_ok no_sums halt_run (rowHeap b1 c1 (factsN e (fun _ => rfl) rfl hne)) rfl (fun _ => rfl)
        (.cons _ _ _ _ (peg e (.lit 1) (fun _ => rfl) (by rw [ev_lit, hh]; rfl) _) (.cons _ _ _ _ a1.1 .nil))
    | false =>
      have hex := fun n => course_one hr hq hh (S.take n)
      obtain ⟨o, ho⟩ : ∃ o : Nat → Out, ∀ n, (o n).ok ∧ (∀ w v, Seen w v (S.take n) → Calls Tryz.prog 16 #[q.val, v] w (AnsIs w (o n))) ∧ (∀ w v, Seen w v (S.take n) → Calls Tryz.prog 15 #[q.val, v] w (AnsIs w (o n))) :=
        ⟨fun n => (hex n).choose, fun n => (hex n).choose_spec⟩
      let e := lawE q v S o
      obtain ⟨r, arr, el, fr, b1, c1, a1⟩ := some_vrN (e := e) hv hne ⟨List.length_replicate, rfl, rfl⟩ rfl
      exact calls_true' (F := baseS w (some (r, arr.size))) (e := e) mixed ext_ok (lawSums_ok hv a1.2 hl.1 hq hh ⟨fun n => (ho n).1, fun n => (ho n).2.1, fun n => (ho n).2.2⟩) law_run (rowHeap b1 c1 (factsN e (fun _ => rfl) rfl hne)) rfl (fun _ => rfl)
        (.cons _ _ _ _ (peg e (.lit 0) (fun _ => rfl) (by rw [ev_lit, hh]; rfl) _) (.cons _ _ _ _ a1.1 .nil))
end
end Go.Proofs.YtnhphhlojkhlcaaGreatDoor

/- memory's first loop: what a round does, and all of them. -/
import Derived.Test.YtnhphhlojkhlcaaGreatDoorMemRun
namespace Go.Proofs.YtnhphhlojkhlcaaGreatDoor
open Go Go.Sx Go.RowKit

theorem roundK_ok {x : X} {s : St} (h : roundK x s = .ok) : ∃ p L, s.tm.get 0 = some keptS ∧ s.tm.get 1 = some byS ∧ s.tm.get 5 = some memSl ∧ s.tm.get 6 = some (.int .i64 p) ∧ s.h.hp.get 0 = some (.ints .u8 8 L 5 true) ∧ s.ds = [] ∧ s.nt = 41 ∧
    ((x = .normal ∧ p = T.addc 1 (vr 20 0 65536) ∧ L = lsetT (lvk 1) (vr 20 0 65536) valT ∧ nonpos s.h.fs (T.addc (-65535) (vr 20 0 65536)) = true) ∨
      (x = .exit 0 ∧ p = vr 20 0 65536 ∧ L = lvk 1 ∧ nonpos s.h.fs (T.sub (.lit 65536) (vr 20 0 65536)) = true)) := by
  unfold roundK at h
  split at h
  · rename_i v0 v1 v5 p L h0 h1 h5 h6 hh
    cases hc : (SV.same 6 v0 keptS && SV.same 6 v1 byS && SV.same 6 v5 memSl && s.ds.isEmpty && Nat.beq s.nt 41) with
    | false => rw [hc] at h; cases h
    | true =>
      rw [hc] at h; simp only [cond_true] at h
      simp only [Bool.and_eq_true] at hc
      have e0 := same_is 6 hc.1.1.1.1
      have e1 := same_is 6 hc.1.1.1.2
      have e5 := same_is 6 hc.1.1.2
      have ed : s.ds = [] := by simpa using hc.1.2
      have en := Nat.eq_of_beq_eq_true hc.2
      subst e0 e1 e5
      refine ⟨p, L, h0, h1, h5, h6, hh, ed, en, ?_⟩
      split at h
      · cases hd : (T.same p (T.addc 1 (vr 20 0 65536)) && T.same L (lsetT (lvk 1) (vr 20 0 65536) valT) && nonpos s.h.fs (T.addc (-65535) (vr 20 0 65536))) with
        | false => rw [hd] at h; cases h
        | true =>
          simp only [Bool.and_eq_true] at hd
          exact .inl ⟨rfl, T.same_eq hd.1.1, T.same_eq hd.1.2, hd.2⟩
      · cases hd : (T.same p (vr 20 0 65536) && T.same L (lvk 1) && nonpos s.h.fs (T.sub (.lit 65536) (vr 20 0 65536))) with
        | false => rw [hd] at h; cases h
        | true =>
          simp only [Bool.and_eq_true] at hd
          exact .inr ⟨rfl, T.same_eq hd.1.1, T.same_eq hd.1.2, hd.2⟩
      · cases h
  · cases h

def fB (b : Int) (i : Nat) : Int := ((i : Int) % 256 * b) % 256
def listAt (b : Int) (i : Nat) : List Int := (List.range 65536).map fun j => if j < i then fB b j else 0
theorem listAt_length (b : Int) (i : Nat) : (listAt b i).length = 65536 := by simp [listAt]
theorem fB_range (b : Int) (i : Nat) : 0 ≤ fB b i ∧ fB b i < 2 ^ 8 := by
  unfold fB
  exact ⟨Int.emod_nonneg _ (by omega), Int.emod_lt_of_pos _ (by omega)⟩
theorem listAt_range (b : Int) (i : Nat) : ∀ x ∈ listAt b i, 0 ≤ x ∧ x < 2 ^ 8 := by
  intro x hx
  simp only [listAt, List.mem_map] at hx
  obtain ⟨j, _, rfl⟩ := hx
  split
  · exact fB_range b j
  · omega
theorem listAt_succ (b : Int) (i : Nat) : (listAt b i).set i (fB b i) = listAt b (i + 1) := by
  apply List.ext_getElem
  · simp [listAt]
  · intro j h1 h2
    simp only [listAt, List.getElem_set, List.getElem_map, List.getElem_range]
    by_cases hj : i = j
    · subst hj; simp
    · rw [if_neg hj]
      by_cases h : j < i
      · rw [if_pos h, if_pos (by omega)]
      · rw [if_neg h, if_neg (by omega)]

/-- The environment of a round. -/
def envR (b : Int) (i off len c : Nat) : Env :=
  ⟨fun k => if k = 20 then i else if k = 21 then b else 0, fun k => if k = 1 then listAt b i else if k = 5 then List.replicate off 0 else if k = 6 then List.replicate len 0 else if k = 7 then List.replicate c 0 else [], fun _ _ _ => 0⟩

structure Inv (m rc nc off len c : Nat) (b : Int) (r : Nat) (w0 : World) (i : Nat) (a : Act) (w : World) : Prop where
  t0 : a.tmps[0]? = some (.slice (some ⟨rc, off, none⟩) len c)
  t1 : a.tmps[1]? = some (.int .u8 b)
  t5 : a.tmps[5]? = some (.slice (some ⟨r, 0, none⟩) 65536 65536)
  t6 : a.tmps[6]? = some (.int .i64 i)
  size : a.tmps.size = 41
  defs : a.defers = []
  blk : ∃ rest : List Value, rest.length = m ∧ w.heap[r]? = some (.cells ((listAt b i).map (Value.int .u8) ++ rest).toArray 5 (0, 0))
  os : w.os = w0.os
  tape : w.tape = w0.tape
  out : w.output = w0.output
  big : w0.heap.size ≤ w.heap.size
  oth : ∀ k, k < w0.heap.size → k ≠ r → w.heap[k]? = w0.heap[k]?

def layR (m r rc nc : Nat) : Lay := fun j => if j = 0 then some (r, 65536 + m) else if j = 1 then some (rc, nc) else none

set_option maxRecDepth 100000 in
theorem round_ok {m rc nc off len c : Nat} {b : Int} {r : Nat} {w0 : World} {i : Nat} {a : Act} {w : World} (hb : 0 ≤ b ∧ b ≤ 255) (hlc : len ≤ c) (hcn : off + c ≤ nc) (hi : i ≤ 65536) (h : Inv m rc nc off len c b r w0 i a w) :
    mRound.wp Tryz.prog (fun en a' w' => (en = .normal ∧ i < 65536 ∧ Inv m rc nc off len c b r w0 (i + 1) a' w') ∨ (en = .exit 0 ∧ i = 65536 ∧ Inv m rc nc off len c b r w0 i a' w')) a w := by
  let e := envR b i off len c
  let M := layR m r rc nc
  let F : Base := { w0 := w, B := w.heap.size, n0 := 2, ng := 0, M0 := M, wr := fun i => i == 0 }
  obtain ⟨rest0, hrl, hblk⟩ := h.blk
  have hlv : (lvk 1).evl e = listAt b i := rfl
  have ev20 : (vr 20 0 65536).ev e = i := vr_id rfl (by omega) (by omega)
  have ev21 : (vr 21 0 255).ev e = b := vr_id rfl hb.1 hb.2
  have hget : ∀ j o, roundH.hp.get j = some o → j = 0 ∧ o = .ints .u8 8 (lvk 1) 5 true := by
    intro j o hj
    simp only [roundH] at hj
    rw [Tr.get_set] at hj
    split at hj
    · rename_i he; cases hj; exact ⟨he.symm, rfl⟩
    · cases hj
  have H : HeapOK e F M roundH w := by
    refine ⟨?_, ?_, ?_, ?_, fun _ _ => rfl, Nat.le_refl _, rfl, rfl, Nat.zero_le _, ?_, ?_, fun j _ _ hj => (by cases hj), ?_⟩
    · intro j o hj _
      obtain ⟨rfl, rfl⟩ := hget j o hj
      refine ⟨r, 65536 + m, _, rfl, hblk, ?_⟩
      have := OR.ints (e := e) (M := M) .u8 8 (lvk 1) 5 true ((listAt b i).map (Value.int .u8) ++ rest0).toArray rest0 (0, 0) (by rw [hlv]) (by rw [hlv]; exact listAt_range b i) (fun _ => rfl)
      have hsz : ((listAt b i).map (Value.int .u8) ++ rest0).toArray.size = 65536 + m := by simp [listAt_length, hrl]
      rw [hsz] at this
      exact this
    · intro j k oj ok rj rk nj nk hj _ hk _ _ _ _ _
      rw [(hget j oj hj).1, (hget k ok hk).1]
    · intro j hj
      have : 2 ≤ j := hj
      show layR m r rc nc j = none
      unfold layR; rw [if_neg (by omega), if_neg (by omega)]
    · intro x hx
      simp only [roundH, List.mem_singleton] at hx
      subst hx
      have : (T.op .len (lvk 1) (.lit 0) 0).ev e = ((listAt b i).length : Int) := rfl
      simp only [this, listAt_length]
      omega
    · intro j o rj nj hj _ hn
      have := (hget j o hj).1
      subst this
      exact absurd hn (by show ¬ (2 ≤ 0); omega)
    · intro j o hj _ _
      rw [(hget j o hj).1]; rfl
    · exact ⟨rfl, rfl, rfl, Nat.le_refl _, fun _ _ _ => rfl⟩
  have l5 : (lenT (lvk 5)).ev e = off := by rw [lenT_ev]; show ((List.replicate off (0 : Int)).length : Int) = off; simp
  have l6 : (lenT (lvk 6)).ev e = len := by rw [lenT_ev]; show ((List.replicate len (0 : Int)).length : Int) = len; simp
  have l7 : (lenT (lvk 7)).ev e = c := by rw [lenT_ev]; show ((List.replicate c (0 : Int)).length : Int) = c; simp
  have hs : StOK e F M [] roundS a w := by
    refine ⟨?_, h.size, H, by rw [h.defs]; exact .nil⟩
    intro t v hv
    simp only [roundS, roundTm] at hv
    rw [Tr.get_set] at hv
    split at hv
    · rename_i he; subst he; cases hv
      exact ⟨_, h.t6, int_vr ev20⟩
    · rw [Tr.get_set] at hv
      split at hv
      · rename_i he; subst he; cases hv
        refine ⟨_, h.t5, ?_⟩
        have := VR.slice (e := e) (M := M) 0 (.lit 0) (.lit 65536) (some (.lit 65536)) 1 r (65536 + m) 65536 rfl (Int.le_refl _) (by rw [ev_lit]; omega) (by rw [ev_lit]; omega) (fun t ht => by cases ht; rfl) ⟨by rw [ev_lit]; omega, fun h => by cases h⟩
        simp only [ev_lit] at this
        exact this
      · rw [Tr.get_set] at hv
        split at hv
        · rename_i he; subst he; cases hv
          exact ⟨_, h.t1, int_vr ev21⟩
        · rw [Tr.get_set] at hv
          split at hv
          · rename_i he; subst he; cases hv
            refine ⟨_, h.t0, ?_⟩
            have := VR.slice (e := e) (M := M) 1 (lenT (lvk 5)) (lenT (lvk 6)) (some (lenT (lvk 7))) 1 rc nc c rfl (by rw [l5]; omega) (by rw [l6]; omega) (by rw [l6]; omega) (fun t ht => by cases ht; exact l7) ⟨by rw [l5]; omega, fun h => by cases h⟩
            rw [l5, l6] at this
            simpa [keptS] using this
          · cases hv
  refine wp_mono (execC_ok mixed (noCalls_ok e F) 0 mRound M roundS a w roundK round_run hs) ?_
  rintro en a' w' ⟨M', x, s', hM, ho, hx, hk⟩
  obtain ⟨p, L, g0, g1, g5, g6, gh, gd, gn, hcase⟩ := roundK_ok hk
  -- what stands in the frame
  have q0 : a'.tmps[0]? = some (.slice (some ⟨rc, off, none⟩) len c) := by
    obtain ⟨y, y1, y2⟩ := ho.tm 0 _ g0
    rw [y1]
    simp only [keptS] at y2
    cases y2 with
    | slice _ _ _ _ _ r' n' c' k1 k2 k3 k4 k5 k6 =>
      have : M' 1 = some (rc, nc) := hM 1 _ rfl
      rw [this] at k1; cases k1
      have k7 := k5 _ rfl
      rw [l7] at k7
      have : c' = c := by omega
      subst this
      rw [l5, l6]; simp
  have q1 : a'.tmps[1]? = some (.int .u8 b) := by
    obtain ⟨y, y1, y2⟩ := ho.tm 1 _ g1
    rw [y1]; simp only [byS] at y2; cases y2; rw [ev21]
  have q5 : a'.tmps[5]? = some (.slice (some ⟨r, 0, none⟩) 65536 65536) := by
    obtain ⟨y, y1, y2⟩ := ho.tm 5 _ g5
    rw [y1]
    simp only [memSl] at y2
    cases y2 with
    | slice _ _ _ _ _ r' n' c' k1 k2 k3 k4 k5 k6 =>
      have : M' 0 = some (r, 65536 + m) := hM 0 _ rfl
      rw [this] at k1; cases k1
      have k7 := k5 _ rfl
      rw [ev_lit] at k7
      have : c' = 65536 := by omega
      subst this
      simp [ev_lit]
  have q6 : a'.tmps[6]? = some (.int .i64 (p.ev e)) := by
    obtain ⟨y, y1, y2⟩ := ho.tm 6 _ g6
    rw [y1]; cases y2; rfl
  have qd : a'.defers = [] := by
    have := ho.defs
    rw [gd] at this
    generalize a'.defers = z at this
    cases this; rfl
  have qb : ∀ l, L.evl e = l → l.length = 65536 → ∃ rest : List Value, rest.length = m ∧ w'.heap[r]? = some (.cells (l.map (Value.int .u8) ++ rest).toArray 5 (0, 0)) := by
    intro l hl hlen
    obtain ⟨r', n', y, y1, y2, y3⟩ := ho.heap.live 0 _ gh rfl
    have : M' 0 = some (r, 65536 + m) := hM 0 _ rfl
    rw [this] at y1
    simp only [Option.some.injEq, Prod.mk.injEq] at y1
    obtain ⟨rfl, hn⟩ := y1
    cases y3 with
    | ints _ _ _ _ _ c' rest fr z1 z2 z3 =>
      have hz := z3 rfl
      subst hz
      have hsz := congrArg List.length z1
      simp only [Array.length_toList, List.length_append, List.length_map, hl, hlen] at hsz
      refine ⟨rest, by omega, ?_⟩
      have : c' = (l.map (Value.int .u8) ++ rest).toArray := by apply Array.ext'; rw [z1, hl]
      rw [y2, this]
  have oth : ∀ k, k < w0.heap.size → k ≠ r → w'.heap[k]? = w0.heap[k]? := by
    intro k hk hne
    rw [← h.oth k hk hne]
    refine ho.heap.frame.block k (Nat.lt_of_lt_of_le hk h.big) ?_
    intro j r' n' hj hw hm
    have : j = 0 := by simpa [F] using hw
    subst this
    have : (r, 65536 + m) = (r', n') := Option.some.inj (show some (r, 65536 + m) = some (r', n') from hm)
    cases this
    exact Ne.symm hne
  have fin : ∀ (j : Nat) (l : List Int), p.ev e = j → L.evl e = l → l = listAt b j → Inv m rc nc off len c b r w0 j a' w' := by
    intro j l hp hl hlj
    exact ⟨q0, q1, q5, by rw [q6, hp], by rw [ho.nt]; exact gn, qd, by rw [← hlj]; exact qb l hl (by rw [hlj, listAt_length]), ho.heap.frame.os.trans h.os, ho.heap.frame.tape.trans h.tape, ho.heap.frame.output.trans h.out,
      Nat.le_trans h.big ho.heap.frame.size, oth⟩
  rcases hcase with ⟨rfl, rfl, rfl, hnp⟩ | ⟨rfl, rfl, rfl, hnp⟩
  · cases hx
    have hn := nonpos_ok ho.heap.fact hnp
    rw [addc_ev, ev20] at hn
    have hlt : i < 65536 := by omega
    refine .inl ⟨rfl, hlt, fin (i + 1) ((listAt b i).set i (fB b i)) (by rw [addc_ev, ev20]; omega) ?_ (listAt_succ b i)⟩
    rw [lsetT_evl, hlv, ev20]
    have hval : valT.ev e = fB b i := by
      unfold valT
      have hf : Facts.ok e [] := fun x hx => by cases hx
      rw [mod_ev hf (by omega), mul_ev hf, mod_ev hf (by omega), ev20, ev21]; rfl
    rw [hval]; simp
  · cases hx
    have hn := nonpos_ok ho.heap.fact hnp
    rw [sub_ev, ev_lit, ev20] at hn
    exact .inr ⟨rfl, by omega, fin i (listAt b i) ev20 hlv rfl⟩

/-- All rounds. -/
theorem loop1_ok {m rc nc off len c : Nat} {b : Int} {r : Nat} {w0 : World} {a : Act} {w : World} (hb : 0 ≤ b ∧ b ≤ 255) (hlc : len ≤ c) (hcn : off + c ≤ nc) (h : Inv m rc nc off len c b r w0 0 a w) :
    (Code.block 0 (.loop mRound)).wp Tryz.prog (fun en a' w' => en = .normal ∧ Inv m rc nc off len c b r w0 65536 a' w') a w := by
  refine wp_block (wp_mono (loop_inv (id := 0) (n := 65536) (Inv := fun i a w => Inv m rc nc off len c b r w0 i a w) (Post := fun a w => Inv m rc nc off len c b r w0 65536 a w) ?_ ?_ h) ?_)
  · intro i hi a w hinv
    refine wp_mono (round_ok hb hlc hcn (by omega) hinv) ?_
    rintro en a' w' (⟨rfl, _, h1⟩ | ⟨rfl, h0, _⟩)
    · exact ⟨rfl, h1⟩
    · omega
  · intro a w hinv
    refine wp_mono (round_ok hb hlc hcn (Nat.le_refl _) hinv) ?_
    rintro en a' w' (⟨rfl, h0, _⟩ | ⟨rfl, _, h1⟩)
    · omega
    · exact ⟨rfl, h1⟩
  · rintro en a' w' ⟨rfl, h1⟩
    simpa [Exit.inBlock] using h1
end Go.Proofs.YtnhphhlojkhlcaaGreatDoor

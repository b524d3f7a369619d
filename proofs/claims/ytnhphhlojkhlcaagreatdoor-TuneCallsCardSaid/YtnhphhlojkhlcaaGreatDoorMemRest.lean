/- memory behind its first loop, over four cells, on symbols. -/
import Derived.Test.YtnhphhlojkhlcaaGreatDoorMemPre
namespace Go.Proofs.YtnhphhlojkhlcaaGreatDoor
open Go Go.Sx Go.RowKit

def aS (j : Nat) : T := vr (30 + j) 0 65535
def cS (j : Nat) : T := vr (40 + j) 0 255
def cellsS : SV := .slice 1 (.lit 0) (.lit 4) (some (lenT (lvk 7))) 2
def cellsRow : List SV := [.int .u16 (aS 0), .int .u8 (cS 0), .int .u16 (aS 1), .int .u8 (cS 1), .int .u16 (aS 2), .int .u8 (cS 2), .int .u16 (aS 3), .int .u8 (cS 3)]
def four (L : T) : T := lsetT (lsetT (lsetT (lsetT L (aS 0) (cS 0)) (aS 1) (cS 1)) (aS 2) (cS 2)) (aS 3) (cS 3)
def restTm : Tr SV := (((Tr.e.set (some cellsS) 0).set (some byS) 1).set (some memSl) 5)
def restH : Hs := { hp := (Tr.e.set (some (.ints .u8 8 (lvk 1) 5 true)) 0).set (some (.row cellsRow 47 false)) 1, hn := 2, fs := [(.op .len (lvk 1) (.lit 0) 0, 65536, 65536)], n0 := 2, ng := 0 }
def restS : St := ⟨restTm, 41, restH, []⟩
def restK (x : X) (s : St) : V :=
  match s.tm.get 4, s.h.hp.get 0, s.ds with
  | some v4, some (.ints .u8 8 L 5 true), [] => bif SV.same 6 v4 memSl && T.same L (four (lvk 1)) && Nat.beq s.nt 41 then (match x with
    | .ret => .ok
    | .normal => .ok
    | _ => .bad 1 []) else .bad 2 [v4, .int .u8 L, .int .u8 (four (lvk 1))]
  | _, _, _ => .bad 3 []
theorem rest_run : execC Tryz.prog noCalls 6 mRest restS restK = V.ok := by kernel_rfl

theorem restK_ok {x : X} {s : St} (h : restK x s = .ok) : s.tm.get 4 = some memSl ∧ s.h.hp.get 0 = some (.ints .u8 8 (four (lvk 1)) 5 true) ∧ s.ds = [] ∧ s.nt = 41 ∧ (x = .ret ∨ x = .normal) := by
  unfold restK at h
  split at h
  · rename_i v4 L h4 hh hd
    cases hc : (SV.same 6 v4 memSl && T.same L (four (lvk 1)) && Nat.beq s.nt 41) with
    | false => rw [hc] at h; cases h
    | true =>
      rw [hc] at h; simp only [cond_true] at h
      simp only [Bool.and_eq_true] at hc
      have e4 := same_is 6 hc.1.1
      have eL := T.same_eq hc.1.2
      subst e4 eL
      refine ⟨h4, hh, hd, Nat.eq_of_beq_eq_true hc.2, ?_⟩
      split at h
      · exact .inl rfl
      · exact .inr rfl
      · cases h
  · cases h

def fourL (l : List Int) (av cv : Nat → Int) : List Int := (((l.set (av 0).toNat (cv 0)).set (av 1).toNat (cv 1)).set (av 2).toNat (cv 2)).set (av 3).toNat (cv 3)

def envF (b : Int) (c : Nat) (av cv : Nat → Int) : Env :=
  ⟨fun k => if k = 21 then b else if 40 ≤ k then cv (k - 40) else if 30 ≤ k then av (k - 30) else 0, fun k => if k = 1 then listAt b 65536 else if k = 7 then List.replicate c 0 else [], fun _ _ _ => 0⟩

set_option maxRecDepth 100000 in
theorem rest_ok {m rc nc c : Nat} {b : Int} {r : Nat} {w0 : World} {a : Act} {w : World} {av cv : Nat → Int} {cc : Array Value} {tail : List Value} {fr : Nat × Nat} (hb : 0 ≤ b ∧ b ≤ 255)
    (ha : ∀ j, 0 ≤ av j ∧ av j ≤ 65535) (hv : ∀ j, 0 ≤ cv j ∧ cv j ≤ 255) (hc : 4 ≤ c) (hcn : c * 2 ≤ cc.size) (hcells : w.heap[rc]? = some (.cells cc 47 fr))
    (hpre : cc.toList = [.int .u16 (av 0), .int .u8 (cv 0), .int .u16 (av 1), .int .u8 (cv 1), .int .u16 (av 2), .int .u8 (cv 2), .int .u16 (av 3), .int .u8 (cv 3)] ++ tail)
    (hne : rc ≠ r) (h : Inv m rc nc 0 4 c b r w0 65536 a w) :
    mRest.wp Tryz.prog (fun en a' w' => (en = .ret ∨ en = .normal) ∧ a'.defers = [] ∧ a'.tmps[4]? = some (.slice (some ⟨r, 0, none⟩) 65536 65536) ∧
      (∃ rest : List Value, rest.length = m ∧ w'.heap[r]? = some (.cells ((fourL (listAt b 65536) av cv).map (Value.int .u8) ++ rest).toArray 5 (0, 0))) ∧
      w'.os = w0.os ∧ w'.tape = w0.tape ∧ w'.output = w0.output ∧ w0.heap.size ≤ w'.heap.size ∧ ∀ k, k < w0.heap.size → k ≠ r → w'.heap[k]? = w0.heap[k]?) a w := by
  let e := envF b c av cv
  let M := layR m r rc cc.size
  let F : Base := { w0 := w, B := w.heap.size, n0 := 2, ng := 0, M0 := M, wr := fun i => i == 0 }
  obtain ⟨rest0, hrl, hblk⟩ := h.blk
  have hlv : (lvk 1).evl e = listAt b 65536 := rfl
  have evb : (vr 21 0 255).ev e = b := vr_id rfl hb.1 hb.2
  have eva : ∀ j, j < 4 → (aS j).ev e = av j := by
    intro j hj
    refine vr_id ?_ (ha j).1 (ha j).2
    show (if 30 + j = 21 then b else if 40 ≤ 30 + j then cv (30 + j - 40) else if 30 ≤ 30 + j then av (30 + j - 30) else 0) = av j
    rw [if_neg (by omega), if_neg (by omega), if_pos (by omega)]; congr 1; omega
  have evc : ∀ j, (cS j).ev e = cv j := by
    intro j
    refine vr_id ?_ (hv j).1 (hv j).2
    show (if 40 + j = 21 then b else if 40 ≤ 40 + j then cv (40 + j - 40) else if 30 ≤ 40 + j then av (40 + j - 30) else 0) = cv j
    rw [if_neg (by omega), if_pos (by omega)]; congr 1; omega
  have l7 : (lenT (lvk 7)).ev e = c := by rw [lenT_ev]; show ((List.replicate c (0 : Int)).length : Int) = c; simp
  have hget : ∀ j o, restH.hp.get j = some o → (j = 0 ∧ o = .ints .u8 8 (lvk 1) 5 true) ∨ (j = 1 ∧ o = .row cellsRow 47 false) := by
    intro j o hj
    simp only [restH] at hj
    rw [Tr.get_set] at hj
    split at hj
    · rename_i he; cases hj; exact .inr ⟨he.symm, rfl⟩
    · rw [Tr.get_set] at hj
      split at hj
      · rename_i he; cases hj; exact .inl ⟨he.symm, rfl⟩
      · cases hj
  have H : HeapOK e F M restH w := by
    refine ⟨?_, ?_, ?_, ?_, fun _ _ => rfl, Nat.le_refl _, rfl, rfl, Nat.zero_le _, ?_, ?_, fun j _ _ hj => (by cases hj), ?_⟩
    · intro j o hj _
      rcases hget j o hj with ⟨rfl, rfl⟩ | ⟨rfl, rfl⟩
      · refine ⟨r, 65536 + m, _, rfl, hblk, ?_⟩
        have := OR.ints (e := e) (M := M) .u8 8 (lvk 1) 5 true ((listAt b 65536).map (Value.int .u8) ++ rest0).toArray rest0 (0, 0) (by rw [hlv]) (by rw [hlv]; exact listAt_range b 65536) (fun _ => rfl)
        have hsz : ((listAt b 65536).map (Value.int .u8) ++ rest0).toArray.size = 65536 + m := by simp [listAt_length, hrl]
        rw [hsz] at this
        exact this
      · refine ⟨rc, cc.size, _, rfl, hcells, .row cellsRow 47 false cc _ tail fr hpre ?_ (fun h => by cases h)⟩
        exact .cons _ _ _ _ (int_vr (eva 0 (by omega))) (.cons _ _ _ _ (int_vr (evc 0)) (.cons _ _ _ _ (int_vr (eva 1 (by omega))) (.cons _ _ _ _ (int_vr (evc 1))
          (.cons _ _ _ _ (int_vr (eva 2 (by omega))) (.cons _ _ _ _ (int_vr (evc 2)) (.cons _ _ _ _ (int_vr (eva 3 (by omega))) (.cons _ _ _ _ (int_vr (evc 3)) .nil)))))))
    · intro j k oj ok rj rk nj nk hj _ hk _ _ hMj hMk hr
      rcases hget j oj hj with ⟨rfl, rfl⟩ | ⟨rfl, rfl⟩ <;> rcases hget k ok hk with ⟨rfl, rfl⟩ | ⟨rfl, rfl⟩
      · rfl
      · cases (Option.some.inj (show some (r, 65536 + m) = some (rj, nj) from hMj)); cases (Option.some.inj (show some (rc, cc.size) = some (rk, nk) from hMk)); exact absurd hr.symm hne
      · cases (Option.some.inj (show some (rc, cc.size) = some (rj, nj) from hMj)); cases (Option.some.inj (show some (r, 65536 + m) = some (rk, nk) from hMk)); exact absurd hr hne
      · rfl
    · intro j hj
      have : 2 ≤ j := hj
      show layR m r rc cc.size j = none
      unfold layR; rw [if_neg (by omega), if_neg (by omega)]
    · intro x hx
      simp only [restH, List.mem_singleton] at hx
      subst hx
      have : (T.op .len (lvk 1) (.lit 0) 0).ev e = ((listAt b 65536).length : Int) := rfl
      simp only [this, listAt_length]
      omega
    · intro j o rj nj hj _ hn
      have h2 : 2 ≤ j := hn
      rcases hget j o hj with ⟨h1, _⟩ | ⟨h1, _⟩ <;> omega
    · intro j o hj hw _
      rcases hget j o hj with ⟨h1, _⟩ | ⟨_, rfl⟩
      · subst h1; rfl
      · cases hw
    · exact ⟨rfl, rfl, rfl, Nat.le_refl _, fun _ _ _ => rfl⟩
  have hs : StOK e F M [] restS a w := by
    refine ⟨?_, h.size, H, by rw [h.defs]; exact .nil⟩
    intro t v hv
    simp only [restS, restTm] at hv
    rw [Tr.get_set] at hv
    split at hv
    · rename_i he; subst he; cases hv
      refine ⟨_, h.t5, ?_⟩
      have := VR.slice (e := e) (M := M) 0 (.lit 0) (.lit 65536) (some (.lit 65536)) 1 r (65536 + m) 65536 rfl (Int.le_refl _) (by rw [ev_lit]; omega) (by rw [ev_lit]; omega) (fun t ht => by cases ht; rfl) ⟨by rw [ev_lit]; omega, fun h => by cases h⟩
      simp only [ev_lit] at this
      exact this
    · rw [Tr.get_set] at hv
      split at hv
      · rename_i he; subst he; cases hv
        exact ⟨_, h.t1, int_vr evb⟩
      · rw [Tr.get_set] at hv
        split at hv
        · rename_i he; subst he; cases hv
          refine ⟨_, h.t0, ?_⟩
          have := VR.slice (e := e) (M := M) 1 (.lit 0) (.lit 4) (some (lenT (lvk 7))) 2 rc cc.size c rfl (Int.le_refl _) (by rw [ev_lit]; omega) (by rw [ev_lit]; omega) (fun t ht => by cases ht; exact l7) ⟨by rw [ev_lit]; omega, fun h => by cases h⟩
          simp only [ev_lit] at this
          exact this
        · cases hv
  refine wp_mono (execC_ok mixed (noCalls_ok e F) 6 mRest M restS a w restK rest_run hs) ?_
  rintro en a' w' ⟨M', x, s', hM, ho, hx, hk⟩
  obtain ⟨g4, gh, gd, gn, gx⟩ := restK_ok hk
  refine ⟨?_, ?_, ?_, ?_, ho.heap.frame.os.trans h.os, ho.heap.frame.tape.trans h.tape, ho.heap.frame.output.trans h.out, Nat.le_trans h.big ho.heap.frame.size, ?_⟩
  · rcases gx with rfl | rfl
    · cases hx; exact .inl rfl
    · cases hx; exact .inr rfl
  · have := ho.defs
    rw [gd] at this
    generalize a'.defers = z at this
    cases this; rfl
  · obtain ⟨y, y1, y2⟩ := ho.tm 4 _ g4
    rw [y1]
    simp only [memSl] at y2
    cases y2 with
    | slice _ _ _ _ _ r' n' c' k1 k2 k3 k4 k5 k6 =>
      have : M' 0 = some (r, 65536 + m) := hM 0 _ rfl
      rw [this] at k1; cases k1
      have k7 := k5 _ rfl
      rw [ev_lit] at k7
      have : c' = 65536 := by omega
      subst this
      simp [ev_lit]
  · obtain ⟨r', n', y, y1, y2, y3⟩ := ho.heap.live 0 _ gh rfl
    have : M' 0 = some (r, 65536 + m) := hM 0 _ rfl
    rw [this] at y1
    simp only [Option.some.injEq, Prod.mk.injEq] at y1
    obtain ⟨rfl, hn⟩ := y1
    have hl : (four (lvk 1)).evl e = fourL (listAt b 65536) av cv := by
      unfold four fourL
      simp only [lsetT_evl, hlv, eva 0 (by omega), eva 1 (by omega), eva 2 (by omega), eva 3 (by omega), evc]
    have hlen : (fourL (listAt b 65536) av cv).length = 65536 := by unfold fourL; simp only [List.length_set, listAt_length]
    cases y3 with
    | ints _ _ _ _ _ c' rest fr' z1 z2 z3 =>
      have hz := z3 rfl
      subst hz
      have hsz := congrArg List.length z1
      simp only [Array.length_toList, List.length_append, List.length_map, hl, hlen] at hsz
      refine ⟨rest, by omega, ?_⟩
      have : c' = ((fourL (listAt b 65536) av cv).map (Value.int .u8) ++ rest).toArray := by apply Array.ext'; rw [z1, hl]
      rw [y2, this]
  · intro k hk hne'
    rw [← h.oth k hk hne']
    refine ho.heap.frame.block k (Nat.lt_of_lt_of_le hk h.big) ?_
    intro j r' n' hj hw hm
    have : j = 0 := by simpa [F] using hw
    subst this
    have : (r, 65536 + m) = (r', n') := Option.some.inj (show some (r, 65536 + m) = some (r', n') from hm)
    cases this
    exact Ne.symm hne'
end Go.Proofs.YtnhphhlojkhlcaaGreatDoor

/- TuneGrows as a call. Nothing is claimed here beyond the call. -/
import Derived.Test.YtnhphhlojkhlcaaGreatDoorGrowS
namespace Go.Proofs.YtnhphhlojkhlcaaGreatDoor
open Go Go.Sx Go.RowKit

/-! ## What is known of the looks at a code -/

theorem byTbl_at {f lo n c : Nat} {v : SV} (h : byTbl f lo n = true) (h1 : lo ≤ c) (h2 : c < lo + n) (hv : noteTbl c = some v) :
    plainS 6 v = true ∧ callN Tryz.prog ext (fun _ => none) (fun _ _ => none) 600 60 f [.int .u8 (.lit (c : Int))] h0 (finIs v) = .ok := by
  have := List.all_eq_true.1 h c (List.mem_range'_1.2 ⟨h1, h2⟩)
  rw [hv] at this
  simp only [Bool.and_eq_true] at this
  exact ⟨this.1, isOk_eq this.2⟩

theorem noteL_length : noteL.length = 256 := by kernel_rfl
theorem noteTbl_lt {c : Nat} {v : SV} (h : noteTbl c = some v) : c < 256 := by
  unfold noteTbl at h
  split at h
  · rename_i hx; rw [← noteL_length]; exact (List.getElem?_eq_some_iff.1 hx).1
  · cases h

/-- A function's answers are the table's. -/
def LooksOK (f : Nat) : Prop := ∀ c v, noteTbl c = some v → plainS 6 v = true ∧ callN Tryz.prog ext (fun _ => none) (fun _ _ => none) 600 60 f [.int .u8 (.lit (c : Int))] h0 (finIs v) = .ok

theorem of_run {f : Nat} (h0' : kByTbl f 0 64 = true) (h1 : kByTbl f 64 64 = true) (h2 : kByTbl f 128 64 = true) (h3 : kByTbl f 192 64 = true) : LooksOK f := by
  intro c v hv
  rw [← kByTbl_eq] at h0' h1 h2 h3
  have hc := noteTbl_lt hv
  by_cases g1 : c < 64
  · exact byTbl_at h0' (by omega) (by omega) hv
  · by_cases g2 : c < 128
    · exact byTbl_at h1 (by omega) (by omega) hv
    · by_cases g3 : c < 192
      · exact byTbl_at h2 (by omega) (by omega) hv
      · exact byTbl_at h3 (by omega) (by omega) hv

/-! ## Bytes as a world has them -/

inductive Seen (w : World) : Value → List Int → Prop
  | none : Seen w (.slice none 0 0) []
  | empty (r off c : Nat) : (c : Int) ≤ top → Seen w (.slice (some ⟨r, off, none⟩) 0 c) []
  | some (r off n c : Nat) (arr : Array Value) (el : TypeId) (fr : Nat × Nat) (S : List Int) : 0 < n → n ≤ c → (c : Int) ≤ top → off + c ≤ arr.size → w.heap[r]? = some (.cells arr el fr) → S.length = n →
      (∀ (i : Nat) (x : Int), S[i]? = some x → arr[off + i]? = some (.int .u8 x) ∧ 0 ≤ x ∧ x < 256) → Seen w (.slice (some ⟨r, off, none⟩) n c) S

theorem Seen.kept {w w' : World} {v : Value} {S : List Int} (h : Seen w v S) (hk : ∀ k, k < w.heap.size → w'.heap[k]? = w.heap[k]?) : Seen w' v S := by
  cases h with
  | none => exact .none
  | empty r off c h1 => exact .empty r off c h1
  | some r off n c arr el fr S h1 h2 h3 h4 h5 h6 h7 => exact .some r off n c arr el fr S h1 h2 h3 h4 (by rw [hk r (Array.getElem?_eq_some_iff.1 h5).1]; exact h5) h6 h7

def capV : Value → Int
  | .slice _ _ c => (c : Int)
  | _ => 0
def nilV : Value → Int
  | .slice none _ _ => 1
  | _ => 0
def offV : Value → Nat
  | .slice (some a) _ _ => a.off
  | _ => 0

/-- Registers whose halt is told. -/
theorem pegL_vr {e : Env} {M : Lay} {q : Peg} (hq : q.ok) (he : q.env e.ρ) {halt : T} (hh : halt.ev e = bint q.h) : VR e M (.agg (pegL halt)) q.val := by
  obtain ⟨h0, h1, h2, h3, h4, h5⟩ := hq
  obtain ⟨e0, e1, e2, e3, e5, e10, e6, b0, b1, b2, b3, b4, b5, b6, b7⟩ := he
  have hp : pswT.ev e = q.p := by
    unfold pswT
    simp only [add_ev, scale_ev]
    rw [vr_id b0 (by omega) (by omega), vr_id b1 (by omega) (by omega), vr_id b2 (by omega) (by omega), vr_id b3 (by omega) (by omega), vr_id b4 (by omega) (by omega), vr_id b5 (by omega) (by omega), vr_id b6 (by omega) (by omega), vr_id b7 (by omega) (by omega)]
    omega
  refine .agg _ _ (.cons _ _ _ _ (int_vr (vr_id e0 h0.1 h0.2)) (.cons _ _ _ _ (int_vr (vr_id e1 h1.1 h1.2)) (.cons _ _ _ _ (int_vr (vr_id e2 h2.1 h2.2)) (.cons _ _ _ _ (int_vr (vr_id e3 h3.1 h3.2))
    (.cons _ _ _ _ (int_vr hp) (.cons _ _ _ _ (int_vr (bytes2_ev e5 e10 h5.1 h5.2)) (.cons _ _ _ _ (.bool _ _ hh) .nil)))))))

theorem lens {e : Env} {k n : Nat} (h : (e.l k).length = n) : (lenT (lvk k)).ev e = (n : Int) := by
  unfold lenT
  show 1 * (((e.l k).length : Int) * 1) + 0 = _
  rw [h]; omega

def growE (q : Peg) (v1 v2 : Value) (S R : List Int) : Env := ⟨fun i => match i with
    | 0 => q.a | 1 => q.x | 2 => q.y | 3 => q.s | 5 => q.pc % 256 | 10 => q.pc / 256 | 6 => bint q.h | 61 => capV v1 | 63 => nilV v1 | 65 => capV v2 | 66 => nilV v2
    | 100 => q.p % 2 | 101 => q.p / 2 % 2 | 102 => q.p / 4 % 2 | 103 => q.p / 8 % 2 | 104 => q.p / 16 % 2 | 105 => q.p / 32 % 2 | 106 => q.p / 64 % 2 | 107 => q.p / 128 % 2 | _ => 0,
  fun k => if k = 1 then S else if k = 2 then R else if k = 3 then List.replicate (offV v1) 0 else if k = 4 then List.replicate (offV v2) 0 else [], fun _ _ _ => 0⟩
theorem growE_peg (q : Peg) (v1 v2 : Value) (S R : List Int) : q.env (growE q v1 v2 S R).ρ := ⟨rfl, rfl, rfl, rfl, rfl, rfl, rfl, rfl, rfl, rfl, rfl, rfl, rfl, rfl, rfl⟩

def base2 (w : World) (m0 m1 : Option (Nat × Nat)) : Base := { w0 := w, B := w.heap.size, n0 := 2, ng := 0, M0 := fun i => if i = 0 then m0 else if i = 1 then m1 else none, wr := fun _ => false }

/-- A row of the memory that came in. -/
def RowAt (e : Env) (w : World) (m : Option (Nat × Nat)) (o : SObj) : Prop := o.wr = false ∧ ∃ r n x, m = some (r, n) ∧ w.heap[r]? = some x ∧ ∀ M, OR e M o x n

theorem roHeap {e : Env} {w : World} {m0 m1 : Option (Nat × Nat)} {hp : Tr SObj} {fs : Facts} (hrow : ∀ i o, hp.get i = some o → (i = 0 ∧ RowAt e w m0 o) ∨ (i = 1 ∧ RowAt e w m1 o)) (hf : fs.ok e) :
    HeapOK e (base2 w m0 m1) (base2 w m0 m1).M0 { hp := hp, hn := 2, fs := fs, n0 := 2, ng := 0 } w := by
  have nowr : ∀ i o, hp.get i = some o → o.wr = false := by
    intro i o h
    rcases hrow i o h with ⟨_, h1, _⟩ | ⟨_, h1, _⟩ <;> exact h1
  refine ⟨fun i o h _ => ?_, fun i j oi oj ri rj ni nj hi _ hj _ hwr => ?_, fun i hi => ?_, hf, fun _ _ => rfl, Nat.le_refl _, rfl, rfl, Nat.zero_le _, fun i o r n h _ hn => ?_, fun i o h hwr => ?_, fun i r n hi => ?_, ?_⟩
  · rcases hrow i o h with ⟨rfl, _, r, n, x, h1, h2, h3⟩ | ⟨rfl, _, r, n, x, h1, h2, h3⟩
    · exact ⟨r, n, x, h1, h2, h3 _⟩
    · exact ⟨r, n, x, h1, h2, h3 _⟩
  · exfalso
    rcases hwr with hwr | hwr
    · rw [nowr i oi hi] at hwr; cases hwr
    · rw [nowr j oj hj] at hwr; cases hwr
  · have : 2 ≤ i := hi
    show (if i = 0 then m0 else if i = 1 then m1 else Option.none) = Option.none
    rw [if_neg (by omega), if_neg (by omega)]
  · exfalso
    have : 2 ≤ i := hn
    rcases hrow i o h with ⟨h1, _⟩ | ⟨h1, _⟩ <;> omega
  · rw [nowr i o h] at hwr; cases hwr
  · cases hi
  · exact ⟨rfl, rfl, rfl, Nat.le_refl _, fun _ _ _ => rfl⟩

theorem none_vrG {e : Env} {w : World} {v : Value} {ko vc vn b : Nat} (hv : Seen w v []) (h1 : (e.l ko).length = offV v) (h2 : e.ρ vc = capV v) (h3 : e.ρ vn = nilV v) :
    ∃ m, ∀ M : Lay, M b = m → VR e M (.nslice b (lenT (lvk ko)) (.lit 0) (vr vc 0 top) 1 (vr vn 0 1)) v := by
  generalize hS : ([] : List Int) = S at hv
  cases hv with
  | none => exact ⟨none, fun M _ => .nnone b _ _ _ 1 _ (vr_id h3 (by decide) (by decide)) rfl (vr_id h2 (by show (0:Int) ≤ 0; omega) (by show (0:Int) ≤ top; decide))⟩
  | empty r off c hc =>
    have g1 : (lenT (lvk ko)).ev e = (off : Int) := lens h1
    have g2 : (vr vc 0 top).ev e = (c : Int) := vr_id h2 (by show (0:Int) ≤ (c:Int); omega) hc
    have g3 : (vr vn 0 1).ev e = 0 := vr_id h3 (by decide) (by decide)
    refine ⟨some (r, off + c), fun M hM => ?_⟩
    have := VR.nsome (e := e) (M := M) b (lenT (lvk ko)) (.lit 0) (vr vc 0 top) 1 (vr vn 0 1) r (off + c) c g3 hM (by rw [g1]; omega) (by rw [ev_lit]; omega) (by rw [ev_lit]; simp) g2 (by rw [g1]; simp)
    rw [g1, ev_lit] at this
    exact this
  | some r off n c arr el fr S k0 k1 k2 k3 k4 k5 k6 =>
    subst hS
    simp only [List.length_nil] at k5
    omega

theorem some_vrG {e : Env} {w : World} {v : Value} {S : List Int} {k ko vc b : Nat} (hv : Seen w v S) (hne : S ≠ []) (h1 : (e.l ko).length = offV v) (h2 : e.ρ vc = capV v) (hl : e.l k = S) :
    ∃ m, RowAt e w m (.recs [(.u8, 8)] (lvk k) (lenT (lvk ko))) ∧ ∀ M : Lay, M b = m → VR e M (.slice b (lenT (lvk ko)) (lenT (lvk k)) (some (vr vc 0 top)) 1) v := by
  cases hv with
  | none => exact absurd rfl hne
  | empty r off c hc => exact absurd rfl hne
  | some r off n c arr el fr S k0 k1 k2 k3 k4 k5 k6 =>
    have g1 : (lenT (lvk ko)).ev e = (off : Int) := lens h1
    have g2 : (vr vc 0 top).ev e = (c : Int) := vr_id h2 (by show (0:Int) ≤ (c:Int); omega) k2
    have g3 : (lenT (lvk k)).ev e = (n : Int) := lens (by rw [hl]; exact k5)
    refine ⟨some (r, arr.size), ⟨rfl, r, arr.size, _, rfl, k4, ?_⟩, fun M hM => ?_⟩
    · intro M
      refine .recs _ _ _ el arr fr (by rw [g1]; omega) ?_
      intro i x hx
      have hx' : S[i]? = Option.some x := by
        have : (lvk k).evl e = S := hl
        rw [this] at hx; exact hx
      obtain ⟨j1, j2, j3⟩ := k6 i x hx'
      rw [g1]
      have hm : i % [(IntKind.u8, 8)].length = 0 := Nat.mod_one i
      rw [hm]
      refine ⟨?_, j2, by show x < 2 ^ 8; omega⟩
      simpa using j1
    · have := VR.slice (e := e) (M := M) b (lenT (lvk ko)) (lenT (lvk k)) (some (vr vc 0 top)) 1 r arr.size c hM (by rw [g1]; omega) (by rw [g3]; omega) (by rw [g3]; simpa using k1)
        (fun t ht => by cases ht; exact g2) ⟨by rw [g1]; simpa using k3, fun hc => by cases hc⟩
      rw [g1, g3] at this
      exact this

theorem closed_calls (w : World) : Calls Tryz.prog 17 #[] w fun en w' => en = .returned (.bool true) ∧ Go.Sx.Grown w w' := by
  let e : Env := ⟨fun _ => 0, fun _ => [], fun _ _ _ => 0⟩
  exact calls_true (e := e) mixed ext_ok no_sums closed_run .nil

theorem growSums_ok (hL : LooksOK 49) {F : Base} {e0 : Env} : SumsOK Tryz.prog F e0 growSums := by
  intro f sm h cf _ e hne
  unfold growSums at h
  cases h49 : Nat.beq f 49 with
  | true =>
    rw [h49] at h
    have := Nat.eq_of_beq_eq_true h49
    subst this; cases h
    exact oneS_ok mixed ext_ok hL cf e
  | false =>
    rw [h49] at h; simp only [cond_false] at h
    cases h17 : Nat.beq f 17 with
    | true =>
      rw [h17] at h
      have := Nat.eq_of_beq_eq_true h17
      subst this; cases h
      exact yes_ok closed_calls cf
    | false => rw [h17] at h; cases h

/-- All runs. -/
def GrowsOK : Prop := (∀ c, c < 256 → grAZ c = .ok ∧ grZA c = .ok ∧ grAA c = .ok) ∧ (grZZ 0 = .ok ∧ grZZ 1 = .ok ∧ grHAZ = .ok ∧ grHZA = .ok ∧ grHAA = .ok) ∧ LooksOK 49

theorem get2 {a b : SObj} {i : Nat} {o : SObj} (h : ((Tr.e.set (some a) 0).set (some b) 1).get i = some o) : (i = 0 ∧ o = a) ∨ (i = 1 ∧ o = b) := by
  rw [Tr.get_set] at h
  split at h
  · rename_i he; cases h; exact .inr ⟨he.symm, rfl⟩
  · rw [Tr.get_set] at h
    split at h
    · rename_i he; cases h; exact .inl ⟨he.symm, rfl⟩
    · cases h
theorem get1 {a : SObj} {j i : Nat} {o : SObj} (h : (Tr.e.set (some a) j).get i = some o) : i = j ∧ o = a := by
  rw [Tr.get_set] at h
  split at h
  · rename_i he; cases h; exact ⟨he.symm, rfl⟩
  · cases h

/-- TuneGrows, called. -/
theorem grow_calls (hr : GrowsOK) {q : Peg} (hq : q.ok) {w : World} {v1 v2 : Value} {S R : List Int} (h1 : Seen w v1 S) (h2 : Seen w v2 R) (b1 : S.length ≤ 1048576) (b2 : R.length ≤ 1048576) :
    Calls Tryz.prog 5 #[q.val, v1, v2] w fun en w' => en = .returned (.bool true) ∧ Go.Sx.Grown w w' := by
  obtain ⟨hall, ⟨z0, z1, haz, hza, haa⟩, hL⟩ := hr
  let e := growE q v1 v2 S R
  have hbk : bulk = 1048576 := rfl
  have hpv : ∀ halt : T, halt.ev e = bint q.h → ∀ M, VR e M (.agg (pegL halt)) q.val := fun halt hh M => pegL_vr hq (growE_peg q v1 v2 S R) hh
  have lenS : S ≠ [] → 1 ≤ (T.op .len (lvk 1) (.lit 0) 0).ev e ∧ (T.op .len (lvk 1) (.lit 0) 0).ev e ≤ bulk := by
    intro hne
    have h3 : 1 ≤ S.length := List.length_pos_iff.2 hne
    have : (T.op .len (lvk 1) (.lit 0) 0).ev e = (S.length : Int) := rfl
    omega
  have lenR : R ≠ [] → 1 ≤ (T.op .len (lvk 2) (.lit 0) 0).ev e ∧ (T.op .len (lvk 2) (.lit 0) 0).ev e ≤ bulk := by
    intro hne
    have h3 : 1 ≤ R.length := List.length_pos_iff.2 hne
    have : (T.op .len (lvk 2) (.lit 0) 0).ev e = (R.length : Int) := rfl
    omega
  have code : ∀ k : Nat, ∃ c : Nat, c < 256 ∧ (T.op .rd (lvk k) (.lit 0) 8).ev e = (c : Int) := by
    intro k
    have g0 : 0 ≤ (T.op .rd (lvk k) (.lit 0) 8).ev e := clamp_ge (by decide)
    have g1 : (T.op .rd (lvk k) (.lit 0) 8).ev e ≤ 255 := clamp_le (by decide)
    obtain ⟨c, hc⟩ := Int.eq_ofNat_of_zero_le g0
    exact ⟨c, by omega, hc⟩
  have l3 : (e.l 3).length = offV v1 := List.length_replicate
  have l4 : (e.l 4).length = offV v2 := List.length_replicate
  have rdok : ∀ k c : Nat, (T.op .rd (lvk k) (.lit 0) 8).ev e = (c : Int) → (c : Int) ≤ (T.op .rd (lvk k) (.lit 0) 8).ev e ∧ (T.op .rd (lvk k) (.lit 0) 8).ev e ≤ (c : Int) := fun k c h => by omega
  by_cases hS : S = []
  · obtain ⟨m0, a0⟩ := none_vrG (e := e) (ko := 3) (vc := 61) (vn := 63) (b := 0) (by rw [← hS]; exact h1) l3 rfl rfl
    by_cases hR : R = []
    · obtain ⟨m1, a1⟩ := none_vrG (e := e) (ko := 4) (vc := 65) (vn := 66) (b := 1) (by rw [← hR]; exact h2) l4 rfl rfl
      have args : ∀ halt : T, halt.ev e = bint q.h → VRs e (base2 w m0 m1).M0 [.agg (pegL halt), seenZ, moreZ] (#[q.val, v1, v2] : Array Value).toList := fun halt hh =>
        .cons _ _ _ _ (hpv halt hh _) (.cons _ _ _ _ (a0 _ rfl) (.cons _ _ _ _ (a1 _ rfl) .nil))
      have heap : HeapOK e (base2 w m0 m1) (base2 w m0 m1).M0 (hN []) w := roHeap (fun i o h => by cases h) (fun x hx => by cases hx)
      cases hh : q.h with
      | true => unfold grZZ at z1; rw [← kGrowV_eq] at z1; exact calls_true' (F := base2 w m0 m1) mixed ext_ok (growSums_ok hL) z1 heap rfl (fun _ => rfl) (args _ (by rw [ev_lit, hh]; rfl))
      | false => unfold grZZ at z0; rw [← kGrowV_eq] at z0; exact calls_true' (F := base2 w m0 m1) mixed ext_ok (growSums_ok hL) z0 heap rfl (fun _ => rfl) (args _ (by rw [ev_lit, hh]; rfl))
    · obtain ⟨m1, r1, a1⟩ := some_vrG (e := e) (k := 2) (ko := 4) (vc := 65) (b := 1) h2 hR l4 rfl rfl
      have args : ∀ halt : T, halt.ev e = bint q.h → VRs e (base2 w m0 m1).M0 [.agg (pegL halt), seenZ, moreA] (#[q.val, v1, v2] : Array Value).toList := fun halt hh =>
        .cons _ _ _ _ (hpv halt hh _) (.cons _ _ _ _ (a0 _ rfl) (.cons _ _ _ _ (a1 _ rfl) .nil))
      have heap : ∀ fs : Facts, fs.ok e → HeapOK e (base2 w m0 m1) (base2 w m0 m1).M0 (hM fs) w := fun fs hf => roHeap (fun i o h => by
        obtain ⟨rfl, rfl⟩ := get1 h; exact .inr ⟨rfl, r1⟩) hf
      cases hh : q.h with
      | true =>
        have hf : Facts.ok e [lenF 2] := fun x hx => by
          rcases List.mem_cons.1 hx with rfl | hx
          · exact lenR hR
          · cases hx
        unfold grHZA at hza; rw [← kGrowV_eq] at hza
        exact calls_true' (F := base2 w m0 m1) mixed ext_ok (growSums_ok hL) hza (heap _ hf) rfl (fun _ => rfl) (args _ (by rw [ev_lit, hh]; rfl))
      | false =>
        obtain ⟨c, hc, hce⟩ := code 2
        have hf : Facts.ok e [lenF 2, rdF 2 c] := fun x hx => by
          rcases List.mem_cons.1 hx with rfl | hx
          · exact lenR hR
          · rcases List.mem_cons.1 hx with rfl | hx
            · exact rdok 2 c hce
            · cases hx
        have hrun := (hall c hc).2.1
        unfold grZA at hrun; rw [← kGrowV_eq] at hrun
        exact calls_true' (F := base2 w m0 m1) mixed ext_ok (growSums_ok hL) hrun (heap _ hf) rfl (fun _ => rfl) (args _ (by rw [ev_lit, hh]; rfl))
  · obtain ⟨m0, r0, a0⟩ := some_vrG (e := e) (k := 1) (ko := 3) (vc := 61) (b := 0) h1 hS l3 rfl rfl
    by_cases hR : R = []
    · obtain ⟨m1, a1⟩ := none_vrG (e := e) (ko := 4) (vc := 65) (vn := 66) (b := 1) (by rw [← hR]; exact h2) l4 rfl rfl
      have args : ∀ halt : T, halt.ev e = bint q.h → VRs e (base2 w m0 m1).M0 [.agg (pegL halt), seenA, moreZ] (#[q.val, v1, v2] : Array Value).toList := fun halt hh =>
        .cons _ _ _ _ (hpv halt hh _) (.cons _ _ _ _ (a0 _ rfl) (.cons _ _ _ _ (a1 _ rfl) .nil))
      have heap : ∀ fs : Facts, fs.ok e → HeapOK e (base2 w m0 m1) (base2 w m0 m1).M0 (hA fs) w := fun fs hf => roHeap (fun i o h => by
        obtain ⟨rfl, rfl⟩ := get1 h; exact .inl ⟨rfl, r0⟩) hf
      cases hh : q.h with
      | true =>
        have hf : Facts.ok e [lenF 1] := fun x hx => by
          rcases List.mem_cons.1 hx with rfl | hx
          · exact lenS hS
          · cases hx
        unfold grHAZ at haz; rw [← kGrowV_eq] at haz
        exact calls_true' (F := base2 w m0 m1) mixed ext_ok (growSums_ok hL) haz (heap _ hf) rfl (fun _ => rfl) (args _ (by rw [ev_lit, hh]; rfl))
      | false =>
        obtain ⟨c, hc, hce⟩ := code 1
        have hf : Facts.ok e [lenF 1, rdF 1 c] := fun x hx => by
          rcases List.mem_cons.1 hx with rfl | hx
          · exact lenS hS
          · rcases List.mem_cons.1 hx with rfl | hx
            · exact rdok 1 c hce
            · cases hx
        have hrun := (hall c hc).1
        unfold grAZ at hrun; rw [← kGrowV_eq] at hrun
        exact calls_true' (F := base2 w m0 m1) mixed ext_ok (growSums_ok hL) hrun (heap _ hf) rfl (fun _ => rfl) (args _ (by rw [ev_lit, hh]; rfl))
    · obtain ⟨m1, r1, a1⟩ := some_vrG (e := e) (k := 2) (ko := 4) (vc := 65) (b := 1) h2 hR l4 rfl rfl
      have args : ∀ halt : T, halt.ev e = bint q.h → VRs e (base2 w m0 m1).M0 [.agg (pegL halt), seenA, moreA] (#[q.val, v1, v2] : Array Value).toList := fun halt hh =>
        .cons _ _ _ _ (hpv halt hh _) (.cons _ _ _ _ (a0 _ rfl) (.cons _ _ _ _ (a1 _ rfl) .nil))
      have heap : ∀ fs : Facts, fs.ok e → HeapOK e (base2 w m0 m1) (base2 w m0 m1).M0 (hAM fs) w := fun fs hf => roHeap (fun i o h => by
        rcases get2 h with ⟨rfl, rfl⟩ | ⟨rfl, rfl⟩
        · exact .inl ⟨rfl, r0⟩
        · exact .inr ⟨rfl, r1⟩) hf
      cases hh : q.h with
      | true =>
        have hf : Facts.ok e [lenF 1, lenF 2] := fun x hx => by
          rcases List.mem_cons.1 hx with rfl | hx
          · exact lenS hS
          · rcases List.mem_cons.1 hx with rfl | hx
            · exact lenR hR
            · cases hx
        unfold grHAA at haa; rw [← kGrowV_eq] at haa
        exact calls_true' (F := base2 w m0 m1) mixed ext_ok (growSums_ok hL) haa (heap _ hf) rfl (fun _ => rfl) (args _ (by rw [ev_lit, hh]; rfl))
      | false =>
        obtain ⟨c, hc, hce⟩ := code 1
        have hf : Facts.ok e [lenF 1, rdF 1 c, lenF 2] := fun x hx => by
          rcases List.mem_cons.1 hx with rfl | hx
          · exact lenS hS
          · rcases List.mem_cons.1 hx with rfl | hx
            · exact rdok 1 c hce
            · rcases List.mem_cons.1 hx with rfl | hx
              · exact lenR hR
              · cases hx
        have hrun := (hall c hc).2.2
        unfold grAA at hrun; rw [← kGrowV_eq] at hrun
        exact calls_true' (F := base2 w m0 m1) mixed ext_ok (growSums_ok hL) hrun (heap _ hf) rfl (fun _ => rfl) (args _ (by rw [ev_lit, hh]; rfl))
end Go.Proofs.YtnhphhlojkhlcaaGreatDoor

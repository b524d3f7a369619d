/- One instruction called, the program's and the document's: they answer the same, whatever the world. Nothing is claimed here beyond the calls. -/
import Derived.Test.YtnhphhlojkhlcaaGreatDoorCrs
namespace Go.Proofs.YtnhphhlojkhlcaaGreatDoor
open Go Go.Sx Go.RowKit

/-! ## What is known of the looks at a code -/

theorem byTbl_at {f lo n c : Nat} {v : SV} (h : byTbl f lo n = true) (h1 : lo ≤ c) (h2 : c < lo + n) (hv : noteTbl c = some v) :
    plainS 6 v = true ∧ callN Tryz.prog ext (fun _ => none) (fun _ _ => none) 600 60 f [.int .u8 (.lit (c : Int))] h0 (finIs v) = .ok := by
  have := List.all_eq_true.1 h c (List.mem_range'_1.2 ⟨h1, h2⟩)
  rw [hv] at this
  simp only [Bool.and_eq_true] at this
  exact ⟨this.1, isOk_eq this.2⟩

theorem noteL_length : noteL.length = 256 := by kernel_rfl
theorem noteTbl_lt {c : Nat} {v : SV} (h : noteTbl c = some v) : c < 256 := by
  unfold noteTbl at h
  split at h
  · rename_i hx; rw [← noteL_length]; exact (List.getElem?_eq_some_iff.1 hx).1
  · cases h

/-- A function's answers are the table's. -/
def LooksOK (f : Nat) : Prop := ∀ c v, noteTbl c = some v → plainS 6 v = true ∧ callN Tryz.prog ext (fun _ => none) (fun _ _ => none) 600 60 f [.int .u8 (.lit (c : Int))] h0 (finIs v) = .ok

theorem of_run {f : Nat} (h0' : kByTbl f 0 64 = true) (h1 : kByTbl f 64 64 = true) (h2 : kByTbl f 128 64 = true) (h3 : kByTbl f 192 64 = true) : LooksOK f := by
  intro c v hv
  rw [← kByTbl_eq] at h0' h1 h2 h3
  have hc := noteTbl_lt hv
  by_cases g1 : c < 64
  · exact byTbl_at h0' (by omega) (by omega) hv
  · by_cases g2 : c < 128
    · exact byTbl_at h1 (by omega) (by omega) hv
    · by_cases g3 : c < 192
      · exact byTbl_at h2 (by omega) (by omega) hv
      · exact byTbl_at h3 (by omega) (by omega) hv

theorem ofSums_ok (hA : LooksOK 49) (hB : LooksOK 21) {F : Base} {e0 : Env} : SumsOK Tryz.prog F e0 ofSums := by
  intro f sm h cf _ e hne
  unfold ofSums at h
  cases h49 : Nat.beq f 49 with
  | true =>
    rw [h49] at h
    have := Nat.eq_of_beq_eq_true h49
    subst this; cases h
    exact oneS_ok mixed ext_ok hA cf e
  | false =>
    rw [h49] at h; simp only [cond_false] at h
    cases h21 : Nat.beq f 21 with
    | true =>
      rw [h21] at h
      have := Nat.eq_of_beq_eq_true h21
      subst this; cases h
      exact oneS_ok mixed ext_ok hB cf e
    | false => rw [h21] at h; cases h

/-! ## Bytes as a world has them -/

inductive Seen (w : World) : Value → List Int → Prop
  | none : Seen w (.slice none 0 0) []
  | empty (r off c : Nat) : (c : Int) ≤ top → Seen w (.slice (some ⟨r, off, none⟩) 0 c) []
  | some (r off n c : Nat) (arr : Array Value) (el : TypeId) (fr : Nat × Nat) (S : List Int) : 0 < n → n ≤ c → (c : Int) ≤ top → off + c ≤ arr.size → w.heap[r]? = some (.cells arr el fr) → S.length = n →
      (∀ (i : Nat) (x : Int), S[i]? = some x → arr[off + i]? = some (.int .u8 x) ∧ 0 ≤ x ∧ x < 256) → Seen w (.slice (some ⟨r, off, none⟩) n c) S

theorem Seen.kept {w w' : World} {v : Value} {S : List Int} (h : Seen w v S) (hk : ∀ k, k < w.heap.size → w'.heap[k]? = w.heap[k]?) : Seen w' v S := by
  cases h with
  | none => exact .none
  | empty r off c h1 => exact .empty r off c h1
  | some r off n c arr el fr S h1 h2 h3 h4 h5 h6 h7 => exact .some r off n c arr el fr S h1 h2 h3 h4 (by rw [hk r (Array.getElem?_eq_some_iff.1 h5).1]; exact h5) h6 h7

def capV : Value → Int
  | .slice _ _ c => (c : Int)
  | _ => 0
def nilV : Value → Int
  | .slice none _ _ => 1
  | _ => 0
def offV : Value → Nat
  | .slice (some a) _ _ => a.off
  | _ => 0

def crsE (q : Peg) (v1 v2 : Value) (S : List Int) : Env := ⟨fun i => match i with
    | 0 => q.a | 1 => q.x | 2 => q.y | 3 => q.s | 5 => q.pc % 256 | 10 => q.pc / 256 | 6 => bint q.h | 61 => capV v1 | 63 => nilV v1 | 65 => capV v2 | 66 => nilV v2
    | 100 => q.p % 2 | 101 => q.p / 2 % 2 | 102 => q.p / 4 % 2 | 103 => q.p / 8 % 2 | 104 => q.p / 16 % 2 | 105 => q.p / 32 % 2 | 106 => q.p / 64 % 2 | 107 => q.p / 128 % 2 | _ => 0,
  fun k => if k = 1 then S else if k = 3 then List.replicate (offV v1) 0 else if k = 4 then List.replicate (offV v2) 0 else [], fun _ _ _ => 0⟩
theorem crsE_peg (q : Peg) (v1 v2 : Value) (S : List Int) : q.env (crsE q v1 v2 S).ρ := ⟨rfl, rfl, rfl, rfl, rfl, rfl, rfl, rfl, rfl, rfl, rfl, rfl, rfl, rfl, rfl⟩

/-- Registers whose halt is told. -/
theorem pegL_vr {e : Env} {M : Lay} {q : Peg} (hq : q.ok) (he : q.env e.ρ) {halt : T} (hh : halt.ev e = bint q.h) : VR e M (.agg (pegL halt)) q.val := by
  obtain ⟨h0, h1, h2, h3, h4, h5⟩ := hq
  obtain ⟨e0, e1, e2, e3, e5, e10, e6, b0, b1, b2, b3, b4, b5, b6, b7⟩ := he
  have hp : pswT.ev e = q.p := by
    unfold pswT
    simp only [add_ev, scale_ev]
    rw [vr_id b0 (by omega) (by omega), vr_id b1 (by omega) (by omega), vr_id b2 (by omega) (by omega), vr_id b3 (by omega) (by omega), vr_id b4 (by omega) (by omega), vr_id b5 (by omega) (by omega), vr_id b6 (by omega) (by omega), vr_id b7 (by omega) (by omega)]
    omega
  refine .agg _ _ (.cons _ _ _ _ (int_vr (vr_id e0 h0.1 h0.2)) (.cons _ _ _ _ (int_vr (vr_id e1 h1.1 h1.2)) (.cons _ _ _ _ (int_vr (vr_id e2 h2.1 h2.2)) (.cons _ _ _ _ (int_vr (vr_id e3 h3.1 h3.2))
    (.cons _ _ _ _ (int_vr hp) (.cons _ _ _ _ (int_vr (bytes2_ev e5 e10 h5.1 h5.2)) (.cons _ _ _ _ (.bool _ _ hh) .nil)))))))

def baseS (w : World) (m0 : Option (Nat × Nat)) : Base := { w0 := w, B := w.heap.size, n0 := 1, ng := 0, M0 := fun i => if i = 0 then m0 else none, wr := fun _ => false }

theorem noHeap {e : Env} {w : World} {m0 : Option (Nat × Nat)} {fs : Facts} (hf : fs.ok e) : HeapOK e (baseS w m0) (baseS w m0).M0 (noH fs) w := by
  refine ⟨fun i o h => ?_, fun i j oi oj ri rj ni nj h => ?_, fun i hi => ?_, hf, fun _ _ => rfl, Nat.le_refl _, rfl, rfl, Nat.zero_le _, fun i o r n h => ?_, fun i o h => ?_, fun i r n hi => ?_, ?_⟩
  · cases h
  · cases h
  · have : 1 ≤ i := hi
    show (if i = 0 then m0 else Option.none) = Option.none
    rw [if_neg (by omega)]
  · cases h
  · cases h
  · cases hi
  · exact ⟨rfl, rfl, rfl, Nat.le_refl _, fun _ _ _ => rfl⟩

theorem rowHeap {e : Env} {w : World} {v r : Nat} {arr : Array Value} {el : TypeId} {fr : Nat × Nat} {fs : Facts} (hw : w.heap[r]? = some (.cells arr el fr)) (ho : ∀ M, OR e M (.recs [(.u8, 8)] (lvk 1) (lenT (lvk v))) (.cells arr el fr) arr.size) (hf : fs.ok e) :
    HeapOK e (baseS w (some (r, arr.size))) (baseS w (some (r, arr.size))).M0 (rowH v fs) w := by
  have hget : ∀ i o, (rowH v fs).hp.get i = some o → i = 0 ∧ o = .recs [(.u8, 8)] (lvk 1) (lenT (lvk v)) := by
    intro i o h
    have h' : (Tr.e.set (some (SObj.recs [(.u8, 8)] (lvk 1) (lenT (lvk v)))) 0).get i = some o := h
    rw [Tr.get_set] at h'
    split at h'
    · rename_i he; cases h'; exact ⟨he.symm, rfl⟩
    · cases h'
  refine ⟨fun i o h hl => ?_, fun i j oi oj ri rj ni nj hi _ hj _ hwr => ?_, fun i hi => ?_, hf, fun _ _ => rfl, Nat.le_refl _, rfl, rfl, Nat.zero_le _, fun i o r n h _ hn => ?_, fun i o h hwr => ?_, fun i r n hi => ?_, ?_⟩
  · obtain ⟨rfl, rfl⟩ := hget i o h
    exact ⟨r, arr.size, _, rfl, hw, ho _⟩
  · obtain ⟨rfl, rfl⟩ := hget i oi hi
    obtain ⟨rfl, rfl⟩ := hget j oj hj
    intro _ _ _; rfl
  · have : 1 ≤ i := hi
    show (if i = 0 then some (r, arr.size) else Option.none) = Option.none
    rw [if_neg (by omega)]
  · obtain ⟨rfl, rfl⟩ := hget i o h
    cases hn
  · obtain ⟨rfl, rfl⟩ := hget i o h
    cases hwr
  · cases hi
  · exact ⟨rfl, rfl, rfl, Nat.le_refl _, fun _ _ _ => rfl⟩

theorem lens {e : Env} {k n : Nat} (h : (e.l k).length = n) : (lenT (lvk k)).ev e = (n : Int) := by
  unfold lenT
  show 1 * (((e.l k).length : Int) * 1) + 0 = _
  rw [h]; omega

/-- A place's list, a slice's room, whether there is one. -/
def SeenE (e : Env) (v : Value) (k vc vn : Nat) : Prop := (e.l k).length = offV v ∧ e.ρ vc = capV v ∧ e.ρ vn = nilV v

theorem none_vr {e : Env} {w : World} {v : Value} {k vc vn : Nat} (hv : Seen w v []) (he : SeenE e v k vc vn) : ∃ m0, VR e (baseS w m0).M0 (.nslice 0 (lenT (lvk k)) (.lit 0) (vr vc 0 top) 1 (vr vn 0 1)) v := by
  obtain ⟨e1, e2, e3⟩ := he
  have ht : (top : Int) = 140737488355328 := rfl
  generalize hS : ([] : List Int) = S at hv
  cases hv with
  | none => exact ⟨none, .nnone 0 _ _ _ 1 _ (vr_id e3 (by decide) (by decide)) rfl (vr_id e2 (by show (0:Int) ≤ 0; omega) (by show (0:Int) ≤ top; omega))⟩
  | empty r off c hc =>
    have h1 : (lenT (lvk k)).ev e = (off : Int) := lens e1
    have h2 : (vr vc 0 top).ev e = (c : Int) := vr_id e2 (by show (0:Int) ≤ (c:Int); omega) hc
    have h3 : (vr vn 0 1).ev e = 0 := vr_id e3 (by decide) (by decide)
    refine ⟨some (r, off + c), ?_⟩
    have := VR.nsome (e := e) (M := (baseS w (some (r, off + c))).M0) 0 (lenT (lvk k)) (.lit 0) (vr vc 0 top) 1 (vr vn 0 1) r (off + c) c h3 rfl (by rw [h1]; omega) (by rw [ev_lit]; omega) (by rw [ev_lit]; simp) h2 (by rw [h1]; simp)
    rw [h1, ev_lit] at this
    exact this
  | some r off n c arr el fr S h0 h1 h2 h3 h4 h5 h6 =>
    subst hS
    simp only [List.length_nil] at h5
    omega

theorem some_vr {e : Env} {w : World} {v : Value} {S : List Int} {k vc vn : Nat} (hv : Seen w v S) (hne : S ≠ []) (he : SeenE e v k vc vn) (hl : e.l 1 = S) : ∃ r arr el fr, w.heap[r]? = some (.cells arr el fr) ∧
    (∀ M, OR e M (.recs [(.u8, 8)] (lvk 1) (lenT (lvk k))) (.cells arr el fr) arr.size) ∧ VR e (baseS w (some (r, arr.size))).M0 (.slice 0 (lenT (lvk k)) (lenT (lvk 1)) (some (vr vc 0 top)) 1) v := by
  obtain ⟨e1, e2, e3⟩ := he
  cases hv with
  | none => exact absurd rfl hne
  | empty r off c hc => exact absurd rfl hne
  | some r off n c arr el fr S h0 h1 h2 h3 h4 h5 h6 =>
    have g1 : (lenT (lvk k)).ev e = (off : Int) := lens e1
    have g2 : (vr vc 0 top).ev e = (c : Int) := vr_id e2 (by show (0:Int) ≤ (c:Int); omega) h2
    have g3 : (lenT (lvk 1)).ev e = (n : Int) := lens (by rw [hl]; exact h5)
    refine ⟨r, arr, el, fr, h4, ?_, ?_⟩
    · intro M
      refine .recs _ _ _ el arr fr (by rw [g1]; omega) ?_
      intro i x hx
      have hx' : S[i]? = Option.some x := by
        have : (lvk 1).evl e = S := hl
        rw [this] at hx; exact hx
      obtain ⟨j1, j2, j3⟩ := h6 i x hx'
      rw [g1]
      have hm : i % [(IntKind.u8, 8)].length = 0 := Nat.mod_one i
      rw [hm]
      refine ⟨?_, j2, by show x < 2 ^ 8; omega⟩
      simpa using j1
    · have := VR.slice (e := e) (M := (baseS w (some (r, arr.size))).M0) 0 (lenT (lvk k)) (lenT (lvk 1)) (some (vr vc 0 top)) 1 r arr.size c rfl (by rw [g1]; omega) (by rw [g3]; omega) (by rw [g3]; simpa using h1)
        (fun t ht => by cases ht; exact g2) ⟨by rw [g1]; simpa using h3, fun hc => by cases hc⟩
      rw [g1, g3] at this
      exact this

theorem inits15 : Tryz.prog.inits.idxOf? 15 = none := by kernel_rfl

/-- All runs. -/
def RelsOK : Prop := (∀ c, c < 256 → relAt c = .ok) ∧ relNone = .ok ∧ LooksOK 49 ∧ LooksOK 21

/-- Whatever the registers, whichever the bytes, whatever the worlds: the same answer. -/
theorem courses_same (hr : RelsOK) {q : Peg} (hq : q.ok) (hh : q.h = false) {w1 w2 : World} {v1 v2 : Value} {S : List Int} (h1 : Seen w1 v1 S) (h2 : Seen w2 v2 S) :
    ∃ o, Calls Tryz.prog 16 #[q.val, v1] w1 (AnsIs w1 o) ∧ Calls Tryz.prog 15 #[q.val, v2] w2 (AnsIs w2 o) := by
  obtain ⟨hall, hnone, hA, hB⟩ := hr
  let e := crsE q v1 v2 S
  have hp := crsE_peg q v1 v2 S
  have s1 : SeenE e v1 3 61 63 := ⟨List.length_replicate, rfl, rfl⟩
  have s2 : SeenE e v2 4 65 66 := ⟨List.length_replicate, rfl, rfl⟩
  have hpv : ∀ M, VR e M (.agg (pegL (.lit 0))) q.val := fun M => pegL_vr hq hp (by rw [ev_lit, hh]; rfl)
  by_cases hne : S = []
  · subst hne
    obtain ⟨m1, a1⟩ := none_vr h1 s1
    obtain ⟨m2, a2⟩ := none_vr h2 s2
    have hrun := hnone
    unfold relNone at hrun
    rw [← kRelV_eq] at hrun
    exact rel_ok (F1 := baseS w1 m1) (F2 := baseS w2 m2) mixed ext_ok (ofSums_ok hA hB) (ofSums_ok hA hB) hrun (noHeap (fun x hx => by cases hx)) (fun fs hfs => noHeap hfs) rfl rfl rfl rfl (fun _ => rfl) (fun _ => rfl)
      (.cons _ _ _ _ (hpv _) (.cons _ _ _ _ a1 .nil)) (.cons _ _ _ _ (hpv _) (.cons _ _ _ _ a2 .nil)) inits15
  · obtain ⟨r1, arr1, el1, fr1, b1, c1, a1⟩ := some_vr h1 hne s1 rfl
    obtain ⟨r2, arr2, el2, fr2, b2, c2, a2⟩ := some_vr h2 hne s2 rfl
    have g0 : 0 ≤ (T.op .rd (lvk 1) (.lit 0) 8).ev e := clamp_ge (by decide)
    have g1 : (T.op .rd (lvk 1) (.lit 0) 8).ev e ≤ 255 := clamp_le (by decide)
    obtain ⟨c, hc⟩ := Int.eq_ofNat_of_zero_le g0
    have hc' : c < 256 := by omega
    have hlen : 1 ≤ (T.op .len (lvk 1) (.lit 0) 0).ev e ∧ (T.op .len (lvk 1) (.lit 0) 0).ev e ≤ top := by
      have : (T.op .len (lvk 1) (.lit 0) 0).ev e = (S.length : Int) := rfl
      rw [this]
      have ht : top = 140737488355328 := rfl
      cases h1 with
      | none => exact absurd rfl hne
      | empty r off c hc => exact absurd rfl hne
      | some r off n c arr el fr S k0 k1 k2 k3 k4 k5 k6 => omega
    have hf : Facts.ok e (crsF c) := by
      intro x hx
      have hx' : x ∈ [(T.op .len (lvk 1) (.lit 0) 0, (1 : Int), top), (.op .rd (lvk 1) (.lit 0) 8, (c : Int), (c : Int))] := hx
      rcases List.mem_cons.1 hx' with rfl | hx'
      · exact hlen
      · rcases List.mem_cons.1 hx' with rfl | hx'
        · simp only [hc]; omega
        · cases hx'
    have hrun := hall c hc'
    unfold relAt at hrun
    rw [← kRelV_eq] at hrun
    exact rel_ok (F1 := baseS w1 (some (r1, arr1.size))) (F2 := baseS w2 (some (r2, arr2.size))) mixed ext_ok (ofSums_ok hA hB) (ofSums_ok hA hB) hrun (rowHeap b1 c1 hf) (fun fs hfs => rowHeap b2 c2 hfs) rfl rfl rfl rfl (fun _ => rfl) (fun _ => rfl)
      (.cons _ _ _ _ (hpv _) (.cons _ _ _ _ a1 .nil)) (.cons _ _ _ _ (hpv _) (.cons _ _ _ _ a2 .nil)) inits15

/-- THE ANSWER: one for all worlds. -/
theorem course_one (hr : RelsOK) {q : Peg} (hq : q.ok) (hh : q.h = false) (S : List Int) :
    ∃ o : Out, o.ok ∧ (∀ w v, Seen w v S → Calls Tryz.prog 16 #[q.val, v] w (AnsIs w o)) ∧ (∀ w v, Seen w v S → Calls Tryz.prog 15 #[q.val, v] w (AnsIs w o)) := by
  by_cases hex : ∃ w0 v0, Seen w0 v0 S
  · obtain ⟨w0, v0, h0⟩ := hex
    obtain ⟨o, ho1, ho2⟩ := courses_same hr hq hh h0 h0
    refine ⟨o, ?_, ?_, ?_⟩
    · obtain ⟨_, _, _, ha, _⟩ := ho1 []
      exact ha.2.1
    · intro w v hv
      obtain ⟨o', g1, g2⟩ := courses_same hr hq hh hv h0
      have := one_answer inits15 ho2 g2
      subst this; exact g1
    · intro w v hv
      obtain ⟨o1, g1, g2⟩ := courses_same hr hq hh h0 hv
      have h16 : Tryz.prog.inits.idxOf? 16 = none := by kernel_rfl
      have := one_answer h16 ho1 g1
      subst this; exact g2
  · exact ⟨⟨1, [0, 0, 0], false, [0, 0, 0, 0, 0, 0], false⟩, ⟨⟨by decide, by decide⟩, rfl, rfl, fun i x hx => by match i, hx with | 0, hx => cases hx; decide | 1, hx => cases hx; decide | 2, hx => cases hx; decide | 3, hx => cases hx; decide | 4, hx => cases hx; decide | 5, hx => cases hx; decide | i + 6, hx => simp at hx⟩, fun w v hv => absurd ⟨w, v, hv⟩ hex, fun w v hv => absurd ⟨w, v, hv⟩ hex⟩
end Go.Proofs.YtnhphhlojkhlcaaGreatDoor

/- Symbolic states, the worlds they stand for, and what loads, stores, new blocks do to them. -/
import Derived.Test.YtnhphhlojkhlcaaGreatDoorGxVal
namespace Go.Sx
open Go Go.RowKit

def SObj.live : SObj → Bool
  | .dead => false
  | _ => true
def SObj.wr : SObj → Bool
  | .row _ _ w => w
  | .ints _ _ _ _ w => w
  | .recs _ _ _ => false
  | .dead => false
  | _ => true

/-- The memory of a symbolic state: rows, the next row's number, what is known. -/
structure Hs where
  hp : Tr SObj
  hn : Nat
  fs : Facts
  n0 : Nat
  ng : Nat

/-- Where it began: the world, the first new block's number, the rows that were there (which may be written), the package variables. -/
structure Base where
  w0 : World
  B : Nat
  n0 : Nat
  ng : Nat
  M0 : Lay
  wr : Nat → Bool

/-- What a world has still of the one where it began. -/
structure Frame0 (F : Base) (w : World) : Prop where
  os : w.os = F.w0.os
  tape : w.tape = F.w0.tape
  output : w.output = F.w0.output
  size : F.B ≤ w.heap.size
  block : ∀ k, k < F.B → (∀ i r n, i < F.n0 → F.wr i = true → F.M0 i = some (r, n) → r ≠ k) → w.heap[k]? = F.w0.heap[k]?

structure HeapOK (e : Env) (F : Base) (M : Lay) (h : Hs) (w : World) : Prop where
  live : ∀ i o, h.hp.get i = some o → o.live = true → ∃ r n x, M i = some (r, n) ∧ w.heap[r]? = some x ∧ OR e M o x n
  inj : ∀ i j oi oj ri rj ni nj, h.hp.get i = some oi → oi.live = true → h.hp.get j = some oj → oj.live = true → (oi.wr = true ∨ oj.wr = true) → M i = some (ri, ni) → M j = some (rj, nj) → ri = rj → i = j
  fresh : ∀ i, h.hn ≤ i → M i = none
  fact : h.fs.ok e
  old : ∀ i, i < F.n0 → M i = F.M0 i
  n0 : F.n0 ≤ h.hn
  cn0 : h.n0 = F.n0
  cng : h.ng = F.ng
  ng : F.ng ≤ F.n0
  new : ∀ i o r n, h.hp.get i = some o → o.live = true → F.n0 ≤ i → M i = some (r, n) → F.B ≤ r
  wr : ∀ i o, h.hp.get i = some o → o.wr = true → i < F.n0 → F.wr i = true
  glob : ∀ i r n, i < F.ng → M i = some (r, n) → r = i
  frame : Frame0 F w

section
variable {e : Env} {F : Base} {M : Lay} {h : Hs} {w : World}

/-- A world whose heap reads the same. -/
theorem Frame0.same {w' : World} (hf : Frame0 F w) (h1 : w'.heap = w.heap) (h2 : w'.os = w.os) (h3 : w'.tape = w.tape) (h4 : w'.output = w.output) : Frame0 F w' :=
  ⟨h2.trans hf.os, h3.trans hf.tape, h4.trans hf.output, by rw [h1]; exact hf.size, by rw [h1]; exact hf.block⟩

theorem HeapOK.same {w' : World} (H : HeapOK e F M h w) (h1 : w'.heap = w.heap) (h2 : w'.os = w.os) (h3 : w'.tape = w.tape) (h4 : w'.output = w.output) : HeapOK e F M h w' :=
  ⟨by rw [h1]; exact H.live, H.inj, H.fresh, H.fact, H.old, H.n0, H.cn0, H.cng, H.ng, H.new, H.wr, H.glob, H.frame.same h1 h2 h3 h4⟩

/-- More blocks behind: what was there is as it was. -/
def Grown (w w' : World) : Prop := w'.os = w.os ∧ w'.tape = w.tape ∧ w'.output = w.output ∧ w.heap.size ≤ w'.heap.size ∧ ∀ k, k < w.heap.size → w'.heap[k]? = w.heap[k]?

theorem HeapOK.grown {w' : World} (H : HeapOK e F M h w) (g : Grown w w') : HeapOK e F M h w' := by
  obtain ⟨g1, g2, g3, g4, g5⟩ := g
  refine ⟨?_, H.inj, H.fresh, H.fact, H.old, H.n0, H.cn0, H.cng, H.ng, H.new, H.wr, H.glob, g1.trans H.frame.os, g2.trans H.frame.tape, g3.trans H.frame.output, Nat.le_trans H.frame.size g4, ?_⟩
  · intro i o hi hl
    obtain ⟨r, n, x, h1, h2, h3⟩ := H.live i o hi hl
    exact ⟨r, n, x, h1, by rw [g5 r (Array.getElem?_eq_some_iff.1 h2).1]; exact h2, h3⟩
  · intro k hk hx
    rw [g5 k (Nat.lt_of_lt_of_le hk H.frame.size)]
    exact H.frame.block k hk hx

theorem HeapOK.drew (H : HeapOK e F M h w) (n : Nat) : HeapOK e F M h { w with drawn := n } := H.same rfl rfl rfl rfl

theorem HeapOK.facts (H : HeapOK e F M h w) {fs : Facts} (hf : fs.ok e) : HeapOK e F M { h with fs := fs } w :=
  ⟨H.live, H.inj, H.fresh, hf, H.old, H.n0, H.cn0, H.cng, H.ng, H.new, H.wr, H.glob, H.frame⟩

/-- One row more. -/
def Lay.put (M : Lay) (i r n : Nat) : Lay := fun j => if j = i then some (r, n) else M j
theorem Lay.put_le {i r n : Nat} (hi : M i = none) : M.le (M.put i r n) := by
  intro j x hx
  unfold Lay.put
  split
  · rename_i hj; subst hj; rw [hi] at hx; cases hx
  · exact hx
theorem Lay.put_same (i r n : Nat) : (M.put i r n) i = some (r, n) := by unfold Lay.put; rw [if_pos rfl]
theorem Lay.put_other {i j r n : Nat} (hj : j ≠ i) : (M.put i r n) j = M j := by unfold Lay.put; rw [if_neg hj]

def Hs.alloc (h : Hs) (o : SObj) : Hs := { h with hp := h.hp.set (some o) h.hn, hn := h.hn + 1 }

theorem HeapOK.block_lt (H : HeapOK e F M h w) {i r n : Nat} {o : SObj} (hi : h.hp.get i = some o) (hl : o.live = true) (hM : M i = some (r, n)) : r < w.heap.size := by
  obtain ⟨r', n', x, h1, h2, _⟩ := H.live i o hi hl
  rw [hM] at h1; cases h1
  exact (Array.getElem?_eq_some_iff.1 h2).1

theorem HeapOK.alloc (H : HeapOK e F M h w) (o : SObj) (x : Obj) (n : Nat) (ho : ∀ M', M.le M' → OR e M' o x n) :
    M.le (M.put h.hn w.heap.size n) ∧ HeapOK e F (M.put h.hn w.heap.size n) (h.alloc o) { w with heap := w.heap.push x } := by
  have hle : M.le (M.put h.hn w.heap.size n) := Lay.put_le (H.fresh h.hn (Nat.le_refl _))
  have hnone : M h.hn = none := H.fresh h.hn (Nat.le_refl _)
  have hlt : ∀ i o', h.hp.get i = some o' → o'.live = true → i ≠ h.hn := by
    intro i o' hi hl he
    subst he
    obtain ⟨r, n', x', h1, _⟩ := H.live _ o' hi hl
    rw [hnone] at h1; cases h1
  have hget : ∀ i, (h.alloc o).hp.get i = if h.hn = i then some o else h.hp.get i := fun i => Tr.get_set _ _ _ _
  refine ⟨hle, ⟨?_, ?_, ?_, H.fact, ?_, Nat.le_succ_of_le H.n0, H.cn0, H.cng, H.ng, ?_, ?_, ?_, ?_⟩⟩
  · intro i o' hi hl
    rw [hget] at hi
    split at hi
    · rename_i he; subst he; cases hi
      exact ⟨w.heap.size, n, x, Lay.put_same _ _ _, by simp, ho _ hle⟩
    · obtain ⟨r, n', x', h1, h2, h3⟩ := H.live i o' hi hl
      refine ⟨r, n', x', hle _ _ h1, ?_, h3.mono hle⟩
      have hr := (Array.getElem?_eq_some_iff.1 h2).1
      show (w.heap.push x)[r]? = some x'
      rw [Array.getElem?_push, if_neg (by omega)]; exact h2
  · intro i j oi oj ri rj ni nj hi hli hj hlj hwr hMi hMj hr
    rw [hget] at hi hj
    split at hi
    · rename_i hei
      split at hj
      · rename_i hej; omega
      · subst hei
        rw [Lay.put_same] at hMi; cases hMi
        rw [Lay.put_other (hlt j oj hj hlj)] at hMj
        have := H.block_lt hj hlj hMj
        omega
    · split at hj
      · rename_i hej; subst hej
        rw [Lay.put_same] at hMj; cases hMj
        rw [Lay.put_other (hlt i oi hi hli)] at hMi
        have := H.block_lt hi hli hMi
        omega
      · rw [Lay.put_other (hlt i oi hi hli)] at hMi
        rw [Lay.put_other (hlt j oj hj hlj)] at hMj
        exact H.inj i j oi oj ri rj ni nj hi hli hj hlj hwr hMi hMj hr
  · intro i hi
    have : h.hn + 1 ≤ i := hi
    rw [Lay.put_other (by omega)]
    exact H.fresh i (by omega)
  · intro i hi
    have := H.n0
    rw [Lay.put_other (by omega)]
    exact H.old i hi
  · intro i o' r n' hi hl hin hM
    rw [hget] at hi
    split at hi
    · rename_i he; subst he
      rw [Lay.put_same] at hM; cases hM
      exact H.frame.size
    · rw [Lay.put_other (hlt i o' hi hl)] at hM
      exact H.new i o' r n' hi hl hin hM
  · intro i o' hi hw hin
    rw [hget] at hi
    split at hi
    · rename_i he
      have := H.n0
      omega
    · exact H.wr i o' hi hw hin
  · intro i r n' hi hM
    have := H.n0
    have := H.ng
    rw [Lay.put_other (by omega)] at hM
    exact H.glob i r n' hi hM
  · refine ⟨H.frame.os, H.frame.tape, H.frame.output, ?_, ?_⟩
    · show F.B ≤ (w.heap.push x).size
      have := H.frame.size
      rw [Array.size_push]; omega
    · intro k hk hx
      have := H.frame.size
      show (w.heap.push x)[k]? = _
      rw [Array.getElem?_push, if_neg (by omega)]
      exact H.frame.block k hk hx

def Hs.upd (h : Hs) (i : Nat) (o : SObj) : Hs := { h with hp := h.hp.set (some o) i }

/-- A row changed in place (or dead from here on, if its block does not change). -/
theorem HeapOK.upd (H : HeapOK e F M h w) {i r n : Nat} {o o' : SObj} {x : Obj} {w' : World} (hi : h.hp.get i = some o) (hl : o.live = true) (hw : o.wr = true) (hM : M i = some (r, n))
    (hheap : ∀ k, w'.heap[k]? = if k = r then some x else w.heap[k]?) (hos : w'.os = w.os) (htape : w'.tape = w.tape) (hout : w'.output = w.output)
    (ho : o'.live = true → OR e M o' x n) : HeapOK e F M (h.upd i o') w' := by
  have hget : ∀ j, (h.upd i o').hp.get j = if i = j then some o' else h.hp.get j := fun j => Tr.get_set _ _ _ _
  have hr := H.block_lt hi hl hM
  have hsize : w'.heap.size = w.heap.size := by
    have h1 : ∀ k, k < w'.heap.size ↔ k < w.heap.size := by
      intro k
      have h2 := hheap k
      constructor
      · intro hk
        rw [Array.getElem?_eq_getElem hk] at h2
        by_cases hkr : k = r
        · omega
        · rw [if_neg hkr] at h2
          exact (Array.getElem?_eq_some_iff.1 h2.symm).1
      · intro hk
        by_cases hkr : k = r
        · rw [if_pos hkr] at h2; exact (Array.getElem?_eq_some_iff.1 h2).1
        · rw [if_neg hkr, Array.getElem?_eq_getElem hk] at h2; exact (Array.getElem?_eq_some_iff.1 h2).1
    have := h1 w'.heap.size
    have := h1 w.heap.size
    omega
  refine ⟨?_, ?_, H.fresh, H.fact, H.old, H.n0, H.cn0, H.cng, H.ng, ?_, ?_, H.glob, ?_⟩
  · intro j oj hj hlj
    rw [hget] at hj
    split at hj
    · rename_i he; subst he; cases hj
      exact ⟨r, n, x, hM, by rw [hheap, if_pos rfl], ho hlj⟩
    · rename_i hne
      obtain ⟨r', n', x', h1, h2, h3⟩ := H.live j oj hj hlj
      refine ⟨r', n', x', h1, ?_, h3⟩
      rw [hheap, if_neg ?_]
      · exact h2
      · intro he; exact hne (H.inj i j o oj r r' n n' hi hl hj hlj (.inl hw) hM h1 he.symm)
  · intro a b oa ob ra rb na nb ha hla hb hlb hwr hMa hMb hab
    rw [hget] at ha hb
    have fix : ∀ c oc, (if i = c then some o' else h.hp.get c) = some oc → oc.live = true → ∃ oc', h.hp.get c = some oc' ∧ oc'.live = true ∧ (oc.wr = true → oc'.wr = true) := by
      intro c oc hc hlc
      split at hc
      · rename_i he; subst he; exact ⟨o, hi, hl, fun _ => hw⟩
      · exact ⟨oc, hc, hlc, id⟩
    obtain ⟨oa', h1, h2, w1⟩ := fix a oa ha hla
    obtain ⟨ob', h3, h4, w2⟩ := fix b ob hb hlb
    exact H.inj a b oa' ob' ra rb na nb h1 h2 h3 h4 (hwr.imp w1 w2) hMa hMb hab
  · intro j oj rj nj hj hlj hin hMj
    rw [hget] at hj
    split at hj
    · rename_i he; subst he; exact H.new i o rj nj hi hl hin hMj
    · exact H.new j oj rj nj hj hlj hin hMj
  · intro j oj hj hwj hin
    rw [hget] at hj
    split at hj
    · rename_i he; subst he; exact H.wr i o hi hw hin
    · exact H.wr j oj hj hwj hin
  · refine ⟨hos.trans H.frame.os, htape.trans H.frame.tape, hout.trans H.frame.output, by rw [hsize]; exact H.frame.size, ?_⟩
    intro k hk hx
    rw [hheap]
    split
    · rename_i he; subst he
      exfalso
      by_cases hin : i < F.n0
      · refine hx i k n hin (H.wr i o hi hw hin) ?_ rfl
        rw [← H.old i hin]; exact hM
      · have := H.new i o k n hi hl (by omega) hM
        omega
    · exact H.frame.block k hk hx

/-- A row goes on under another number (its block the same, or changed). -/
theorem HeapOK.move (H : HeapOK e F M h w) {i r n : Nat} {o o' : SObj} {x : Obj} {w' : World} (hi : h.hp.get i = some o) (hl : o.live = true) (hw : o.wr = true) (hM : M i = some (r, n)) (hin : F.n0 ≤ i)
    (hheap : ∀ k, w'.heap[k]? = if k = r then some x else w.heap[k]?) (hos : w'.os = w.os) (htape : w'.tape = w.tape) (hout : w'.output = w.output)
    (ho : ∀ M', M.le M' → OR e M' o' x n) : M.le (M.put h.hn r n) ∧ HeapOK e F (M.put h.hn r n) ((h.upd i .dead).alloc o') w' := by
  have hnone : M h.hn = none := H.fresh h.hn (Nat.le_refl _)
  have hle : M.le (M.put h.hn r n) := Lay.put_le hnone
  have Hd := H.upd (o' := .dead) hi hl hw hM hheap hos htape hout (fun hx => by cases hx)
  have hlt : ∀ j oj, (h.upd i .dead).hp.get j = some oj → oj.live = true → j ≠ h.hn ∧ j ≠ i := by
    intro j oj hj hlj
    constructor
    · intro he
      subst he
      obtain ⟨r', n', x', h1, _⟩ := Hd.live _ oj hj hlj
      rw [hnone] at h1; cases h1
    · intro he
      subst he
      have : (h.upd j .dead).hp.get j = some .dead := by show (h.hp.set _ _).get _ = _; rw [Tr.get_set, if_pos rfl]
      rw [this] at hj; cases hj; cases hlj
  have hapart : ∀ j oj rj nj, (h.upd i .dead).hp.get j = some oj → oj.live = true → M j = some (rj, nj) → rj ≠ r := by
    intro j oj rj nj hj hlj hMj hr
    have hji := (hlt j oj hj hlj).2
    have hget : (h.upd i .dead).hp.get j = h.hp.get j := by show (h.hp.set _ _).get _ = _; rw [Tr.get_set, if_neg (fun he => hji he.symm)]
    rw [hget] at hj
    exact hji (H.inj j i oj o rj r nj n hj hlj hi hl (.inr hw) hMj hM hr)
  have hget : ∀ j, ((h.upd i .dead).alloc o').hp.get j = if h.hn = j then some o' else (h.upd i .dead).hp.get j := fun j => Tr.get_set _ _ _ _
  refine ⟨hle, ⟨?_, ?_, ?_, H.fact, ?_, Nat.le_succ_of_le H.n0, H.cn0, H.cng, H.ng, ?_, ?_, ?_, Hd.frame⟩⟩
  · intro j oj hj hlj
    rw [hget] at hj
    split at hj
    · rename_i he; subst he; cases hj
      exact ⟨r, n, x, Lay.put_same _ _ _, by rw [hheap, if_pos rfl], ho _ hle⟩
    · obtain ⟨r', n', x', h1, h2, h3⟩ := Hd.live j oj hj hlj
      exact ⟨r', n', x', hle _ _ h1, h2, h3.mono hle⟩
  · intro a b oa ob ra rb na nb ha hla hb hlb hwr hMa hMb hab
    rw [hget] at ha hb
    split at ha
    · rename_i hea
      split at hb
      · rename_i heb; omega
      · subst hea
        rw [Lay.put_same] at hMa; cases hMa
        rw [Lay.put_other (hlt b ob hb hlb).1] at hMb
        exact absurd hab.symm (hapart b ob rb nb hb hlb hMb)
    · split at hb
      · rename_i heb; subst heb
        rw [Lay.put_same] at hMb; cases hMb
        rw [Lay.put_other (hlt a oa ha hla).1] at hMa
        exact absurd hab (hapart a oa ra na ha hla hMa)
      · rw [Lay.put_other (hlt a oa ha hla).1] at hMa
        rw [Lay.put_other (hlt b ob hb hlb).1] at hMb
        exact Hd.inj a b oa ob ra rb na nb ha hla hb hlb hwr hMa hMb hab
  · intro j hj
    have : h.hn + 1 ≤ j := hj
    rw [Lay.put_other (by omega)]
    exact H.fresh j (by omega)
  · intro j hj
    have := H.n0
    rw [Lay.put_other (by omega)]
    exact H.old j hj
  · intro j oj rj nj hj hlj hjn hMj
    rw [hget] at hj
    split at hj
    · rename_i he; subst he
      rw [Lay.put_same] at hMj; cases hMj
      exact H.new i o r n hi hl hin hM
    · rw [Lay.put_other (hlt j oj hj hlj).1] at hMj
      exact Hd.new j oj rj nj hj hlj hjn hMj
  · intro j oj hj hwj hjn
    rw [hget] at hj
    split at hj
    · rename_i he
      have := H.n0
      omega
    · exact Hd.wr j oj hj hwj hjn
  · intro j rj nj hj hMj
    have := H.n0
    have := H.ng
    rw [Lay.put_other (by omega)] at hMj
    exact H.glob j rj nj hj hMj

/-! ## Values of a frame -/

def TmOK (e : Env) (M : Lay) (tm : Tr SV) (tmps : Array Value) : Prop := ∀ t v, tm.get t = some v → ∃ x, tmps[t]? = some x ∧ VR e M v x

theorem TmOK.mono {M' : Lay} (hM : M.le M') {tm : Tr SV} {tmps : Array Value} (h : TmOK e M tm tmps) : TmOK e M' tm tmps :=
  fun t v hv => let ⟨x, h1, h2⟩ := h t v hv; ⟨x, h1, h2.mono hM⟩

theorem TmOK.set {tm : Tr SV} {tmps : Array Value} (h : TmOK e M tm tmps) {t : Nat} (ht : t < tmps.size) {v : SV} {x : Value} (hv : VR e M v x) :
    TmOK e M (tm.set (some v) t) (tmps.setIfInBounds t x) := by
  intro j u hu
  rw [Tr.get_set] at hu
  split at hu
  · rename_i he; subst he; cases hu
    exact ⟨x, by simp [ht], hv⟩
  · rename_i he
    obtain ⟨y, h1, h2⟩ := h j u hu
    exact ⟨y, by rw [Array.getElem?_setIfInBounds_ne he]; exact h1, h2⟩

/-- A constant as a symbolic value. -/
def scal : Value → SV
  | .int k n => .int k (.lit n)
  | .bool b => .bool (.lit (bint b))
  | .string s => .str (natsOf s)
  | .pointer none => .nilp
  | .slice none 0 0 => .nils
  | .map none => .nilm
  | .nilFunc => .nilf
  | .nilIface => .nili
  | _ => .junk
def konst : Value → SV
  | .agg cs => .agg (cs.toList.map scal)
  | .tuple cs => .tup (cs.toList.map scal)
  | .iface t v => .iface t (scal v)
  | v => scal v

theorem scal_ok (v : Value) : VR e M (scal v) v := by
  unfold scal
  split
  · exact .int _ (.lit _)
  · exact .bool _ _ rfl
  · rename_i s
    have := VR.str (e := e) (M := M) (natsOf s) (natsOf_lt s)
    rw [bytesOf_natsOf] at this; exact this
  · exact .nilp
  · exact .nils
  · exact .nilm
  · exact .nilf
  · exact .nili
  · exact .junk _

theorem scals_ok (l : List Value) : VRs e M (l.map scal) l := by
  induction l with
  | nil => exact .nil
  | cons v l ih => exact .cons _ _ _ _ (scal_ok v) ih

theorem konst_ok (v : Value) : VR e M (konst v) v := by
  unfold konst
  split
  · exact .agg _ _ (scals_ok _)
  · exact .tup _ _ (scals_ok _)
  · exact .iface _ _ _ (scal_ok _)
  · exact scal_ok _

/-- An operand's value. -/
def evS (h : Hs) (tm : Tr SV) : Operand → SV
  | .tmp t => match tm.get t with
    | some (.when q v) => match known h.fs q with
      | some true => v
      | _ => .when q v
    | some v => v
    | none => .junk
  | .const v => konst v
  | .func f => .fn f [] []
  | .global g => bif Nat.blt g h.ng then (match h.hp.get g with
    | some o => bif o.live then .ptr g (.lit 0) else .junk
    | none => .junk) else .junk

theorem evS_ok (H : HeapOK e F M h w) {tm : Tr SV} {a : Act} (ht : TmOK e M tm a.tmps) (x : Operand) : VR e M (evS h tm x) (a.eval x) := by
  cases x with
  | tmp t =>
    simp only [evS, Act.eval]
    cases hg : tm.get t with
    | none => exact .junk _
    | some v =>
      obtain ⟨y, h1, h2⟩ := ht t v hg
      simp only [Array.getD_eq_getD_getElem?, h1, Option.getD_some]
      split
      · rename_i q u heq
        cases heq
        split
        · rename_i hk
          cases h2 with
          | «when» _ _ _ g => exact g (known_ne H.fact hk)
        · exact h2
      · rename_i heq; cases heq; exact h2
      · rename_i heq; cases heq
  | const v => exact konst_ok v
  | func f => exact .fn f [] [] #[] #[] .nil .nil
  | global g =>
    simp only [evS, Act.eval]
    cases hb : Nat.blt g h.ng with
    | false => exact .junk _
    | true =>
      simp only [cond_true]
      cases hg : h.hp.get g with
      | none => exact .junk _
      | some o =>
        simp only
        cases hl : o.live with
        | false => exact .junk _
        | true =>
          simp only [cond_true]
          obtain ⟨r, n, x, h1, h2, h3⟩ := H.live g o hg hl
          have hlt : g < F.ng := by rw [← H.cng]; simpa [Nat.blt_eq] using hb
          have := H.glob g r n hlt h1
          subst this
          have h0 : ((T.lit 0).ev e).toNat = 0 := rfl
          have := VR.ptr (e := e) (M := M) r (.lit 0) r n h1 (Int.le_refl _)
          rw [h0] at this
          exact this

end
end Go.Sx

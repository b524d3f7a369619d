/- Two calls that answer the same: a row of records, a truth, registers. -/
import Derived.Test.YtnhphhlojkhlcaaGreatDoorGxAdopt
import Derived.Barred
namespace Go.Sx
open Go Go.RowKit

theorem ncmp_self (a : Nat) : ncmp a a = 1 := by unfold ncmp; rw [Nat.beq_refl]; rfl
theorem icmp_self (a : Int) : icmp a a = 1 := by cases a <;> exact ncmp_self _
theorem T.cmp_self : ∀ t : T, T.cmp t t = 1 := by
  intro t
  induction t with
  | lit n => simp only [T.cmp, icmp_self]
  | one => rfl
  | term c m r ihm ihr => simp only [T.cmp, ihm, icmp_self, ihr]
  | prod a m iha ihm => simp only [T.cmp, iha, ihm]
  | var i lo hi => simp only [T.cmp, ncmp_self, icmp_self]
  | op o a b k iha ihb => simp only [T.cmp, ncmp_self, iha, ihb]
theorem T.same_refl (t : T) : T.same t t = true := by unfold T.same; rw [T.cmp_self]; rfl

/-- Are two numbers the same? -/
def pairT (fs : Facts) (p q : T) : Bool := T.same p q || (match knownD fs (T.eq0 fs (T.sub p q)) with
  | some b => b
  | none => false)
def eqCell (fs : Facts) : SV → SV → Bool
  | .int k p, .int k' q => decide (k = k') && pairT fs p q
  | .bool p, .bool q => pairT fs p q
  | _, _ => false
def eqCells (fs : Facts) : List SV → List SV → Bool
  | [], [] => true
  | a :: l, b :: r => eqCell fs a b && eqCells fs l r
  | _, _ => false
/-- Does a number lie within so many bits? -/
def inB (fs : Facts) (bits : Nat) (p : T) : Bool := inBits fs bits p || within fs 0 (((2 ^ bits - 1 : Nat)) : Int) p
theorem inB_ok {e : Env} {fs : Facts} (hf : fs.ok e) {bits : Nat} {p : T} (h : inB fs bits p = true) : 0 ≤ p.ev e ∧ p.ev e < 2 ^ bits := by
  unfold inB at h
  rw [Bool.or_eq_true] at h
  rcases h with h | h
  · exact inBits_ok hf h
  · obtain ⟨h1, h2⟩ := within_ok hf h
    refine ⟨h1, ?_⟩
    have : 0 < 2 ^ bits := Nat.two_pow_pos bits
    have h3 : ((2 ^ bits : Nat) : Int) = 2 ^ bits := by simp
    omega
/-- Are these records of a byte, a word of 32 bits, a byte? -/
def accOK (fs : Facts) : List SV → Bool
  | [] => true
  | .int .u8 a :: r => (match r with
    | .int .u32 b :: r => (match r with
      | .int .u8 c :: l => inB fs 8 a && inB fs 32 b && inB fs 8 c && accOK fs l
      | _ => false)
    | _ => false)
  | _ => false
/-- Are these registers? -/
def pegOK (fs : Facts) : List SV → Bool
  | [.int .u8 a, .int .u8 x, .int .u8 y, .int .u8 s, .int .u8 p, .int .u16 pc, .bool _] => inB fs 8 a && inB fs 8 x && inB fs 8 y && inB fs 8 s && inB fs 8 p && inB fs 16 pc
  | _ => false

/-- What was answered: how many records, their cells, a truth, registers. -/
structure Ans where
  n : Nat
  cs : List SV
  d : SV
  q : List SV
def ansS (r : FR) (h : Hs) : Option Ans := match r with
  | .ret v => (match v with
    | .tup [.slice b (.lit (.ofNat 0)) (.lit (.ofNat n)) none 3, .bool d, .agg q] => (match h.hp.get b with
      | some (.row cs _ _) => bif Nat.ble h.n0 b && Nat.ble (3 * n) cs.length then some ⟨n, cs.take (3 * n), .bool d, q⟩ else none
      | _ => none)
    | _ => none)
  | _ => none
def finRel (r1 : FR) (h1 : Hs) (r2 : FR) (h2 : Hs) : V := match ansS r1 h1 with
  | some a => (match ansS r2 h2 with
    | some b => bif Nat.beq a.n b.n && Nat.ble 1 a.n && Nat.ble a.n 64 && accOK h1.fs a.cs && pegOK h1.fs a.q && eqCells h2.fs a.cs b.cs && eqCell h2.fs a.d b.d && eqCells h2.fs a.q b.q then .ok else .bad 600 (a.d :: b.d :: (a.cs ++ b.cs ++ a.q ++ b.q))
    | none => .bad 601 (match r2 with
      | .ret v => [v]
      | .pan v => [v]))
  | none => .bad 602 (match r1 with
      | .ret v => [v]
      | .pan v => [v])

/-! ## What it says -/

def accK : List (IntKind × Nat) := [(.u8, 8), (.u32, 32), (.u8, 8)]
/-- An answer. -/
structure Out where
  n : Nat
  cs : List Int
  d : Bool
  q : List Int
  h : Bool

def Out.regs (o : Out) : Value := .agg #[.int .u8 (o.q.getD 0 0), .int .u8 (o.q.getD 1 0), .int .u8 (o.q.getD 2 0), .int .u8 (o.q.getD 3 0), .int .u8 (o.q.getD 4 0), .int .u16 (o.q.getD 5 0), .bool o.h]
def Out.ok (o : Out) : Prop := (1 ≤ o.n ∧ o.n ≤ 64) ∧ o.cs.length = 3 * o.n ∧ o.q.length = 6 ∧ ∀ (i : Nat) (x : Int), o.q[i]? = some x → 0 ≤ x ∧ x < 2 ^ (if i = 5 then 16 else 8)

/-- It is answered so: a new block holds the records. -/
def AnsIs (w : World) (o : Out) (en : Ending) (w' : World) : Prop :=
  Grown w w' ∧ o.ok ∧ ∃ b c arr el fr, en = .returned (.tuple #[.slice (some ⟨b, 0, none⟩) o.n c, .bool o.d, o.regs]) ∧ w.heap.size ≤ b ∧ o.n ≤ c ∧ w'.heap[b]? = some (.cells arr el fr) ∧ arr.size = c * 3 ∧
    ∀ (i : Nat) (x : Int), o.cs[i]? = some x → arr[i]? = some (.int (accK.getD (i % 3) (.u8, 0)).1 x) ∧ 0 ≤ x ∧ x < 2 ^ (accK.getD (i % 3) (.u8, 0)).2

theorem AnsIs.inj {w w' : World} {o o' : Out} {en : Ending} (h : AnsIs w o en w') (h' : AnsIs w o' en w') : o = o' := by
  obtain ⟨_, ⟨_, l1, l2, _⟩, b, c, arr, el, fr, he, _, _, hb, _, hc⟩ := h
  obtain ⟨_, ⟨_, l1', l2', _⟩, b', c', arr', el', fr', he', _, _, hb', _, hc'⟩ := h'
  rw [he] at he'
  simp only [Ending.returned.injEq, Value.tuple.injEq] at he'
  have h3 := congrArg Array.toList he'
  simp only [List.cons.injEq, Value.slice.injEq, Option.some.injEq, Addr.mk.injEq, Value.bool.injEq, and_true] at h3
  obtain ⟨⟨rfl, hn, rfl⟩, hd, hq⟩ := h3
  rw [hb] at hb'
  cases hb'
  obtain ⟨n, cs, d, q, hh⟩ := o
  obtain ⟨n', cs', d', q', hh'⟩ := o'
  simp only at l1 l2 l1' l2' hn hd hq hc hc'
  subst hn hd
  have e1 : cs = cs' := by
    apply List.ext_getElem?
    intro i
    by_cases hi : i < 3 * n
    · have h1 := List.getElem?_eq_getElem (l := cs) (i := i) (by omega)
      have h2 := List.getElem?_eq_getElem (l := cs') (i := i) (by omega)
      have g1 := (hc i _ h1).1
      have g2 := (hc' i _ h2).1
      rw [g1] at g2
      simp only [Option.some.injEq, Value.int.injEq, true_and] at g2
      rw [h1, h2, g2]
    · rw [List.getElem?_eq_none (by omega), List.getElem?_eq_none (by omega)]
  subst e1
  simp only [Out.regs, Value.agg.injEq] at hq
  have h4 := congrArg Array.toList hq
  simp only [List.cons.injEq, Value.int.injEq, Value.bool.injEq, true_and, and_true] at h4
  obtain ⟨a0, a1, a2, a3, a4, a5, rfl⟩ := h4
  match q, l2, q', l2' with
  | [_, _, _, _, _, _], _, [_, _, _, _, _, _], _ =>
    simp only [List.getD_cons_zero, List.getD_cons_succ] at a0 a1 a2 a3 a4 a5
    subst a0 a1 a2 a3 a4 a5
    rfl

section
variable {P : Program} {e : Env}

theorem pairT_ok {fs : Facts} (hf : fs.ok e) {p q : T} (h : pairT fs p q = true) : p.ev e = q.ev e := by
  unfold pairT at h
  cases hs : T.same p q with
  | true => rw [T.same_eq hs]
  | false =>
    rw [hs] at h
    simp only [Bool.false_or] at h
    split at h
    · rename_i b hb
      subst h
      have hev : (T.eq0 fs (T.sub p q)).ev e = bint (decide (p.ev e = q.ev e)) := by
        rw [eq0_ev hf, sub_ev]
        by_cases hpq : p.ev e = q.ev e
        · simp [hpq, bint]
        · rw [if_neg (by omega)]; simp [hpq, bint]
      have := knownD_ok hf hev hb
      simpa using this
    · cases h

theorem pairT_self (fs : Facts) (p : T) : pairT fs p p = true := by unfold pairT; rw [T.same_refl]; rfl
theorem eqCell_self {fs fs' : Facts} {x y : SV} (h : eqCell fs' x y = true) : eqCell fs x x = true := by
  unfold eqCell at h
  split at h
  · simp [eqCell, pairT_self]
  · simp [eqCell, pairT_self]
  · cases h
theorem eqCells_self {fs fs' : Facts} : ∀ {l r : List SV}, eqCells fs' l r = true → eqCells fs l l = true := by
  intro l
  induction l with
  | nil => intro r _; rfl
  | cons x l ih =>
    intro r hr
    cases r with
    | nil => cases hr
    | cons y r =>
      simp only [eqCells, Bool.and_eq_true] at hr ⊢
      exact ⟨eqCell_self hr.1, ih hr.2⟩

/-- The number of a value. -/
def SV.num (e : Env) : SV → Int
  | .int _ p => p.ev e
  | .bool p => p.ev e
  | _ => 0

theorem eqCell_ok {fs : Facts} (hf : fs.ok e) {M M' : Lay} {a b : SV} {x : Value} (h : eqCell fs a b = true) (hb : VR e M b x) : VR e M' a x := by
  unfold eqCell at h
  split at h
  · simp only [Bool.and_eq_true, decide_eq_true_eq] at h
    obtain ⟨rfl, h⟩ := h
    cases hb
    rw [← pairT_ok hf h]
    exact .int _ _
  · cases hb with
    | bool _ v hv => exact .bool _ v (by rw [pairT_ok hf h]; exact hv)
  · cases h

theorem eqCells_ok {fs : Facts} (hf : fs.ok e) {M M' : Lay} : ∀ {l r : List SV} {xs : List Value}, eqCells fs l r = true → VRs e M r xs → VRs e M' l xs := by
  intro l
  induction l with
  | nil =>
    intro r xs h hr
    cases r with
    | nil => cases hr; exact .nil
    | cons => cases h
  | cons a l ih =>
    intro r xs h hr
    cases r with
    | nil => cases h
    | cons b r =>
      simp only [eqCells, Bool.and_eq_true] at h
      cases hr with
      | cons _ x _ xs h1 h2 => exact .cons _ _ _ _ (eqCell_ok hf h.1 h1) (ih h.2 h2)

theorem accOK_ok {fs : Facts} (hf : fs.ok e) {M : Lay} : ∀ (n : Nat) {l : List SV} {xs : List Value}, l.length = 3 * n → accOK fs l = true → VRs e M l xs →
    xs.length = 3 * n ∧ ∀ i x, (l.map (SV.num e))[i]? = some x → xs[i]? = some (.int (accK.getD (i % 3) (.u8, 0)).1 x) ∧ 0 ≤ x ∧ x < 2 ^ (accK.getD (i % 3) (.u8, 0)).2 := by
  intro n
  induction n with
  | zero =>
    intro l xs hl _ hv
    have : l = [] := List.eq_nil_of_length_eq_zero (by omega)
    subst this
    cases hv
    exact ⟨rfl, fun i x h => by simp at h⟩
  | succ n ih =>
    intro l xs hl h hv
    match l, hl with
    | a :: b :: c :: l, hl =>
      unfold accOK at h
      split at h
      · rename_i hx; cases hx
      · rename_i p r hx
        cases hx
        split at h
        · rename_i q r hx
          cases hx
          split at h
          · rename_i s r hx
            cases hx
            simp only [Bool.and_eq_true] at h
            obtain ⟨⟨⟨h1, h2⟩, h3⟩, h4⟩ := h
            cases hv with | cons _ v1 _ xs g1 hv => cases hv with | cons _ v2 _ xs g2 hv => cases hv with | cons _ v3 _ xs g3 hv =>
            cases g1; cases g2; cases g3
            obtain ⟨i1, i2⟩ := ih (by simp only [List.length_cons] at hl; omega) h4 hv
            refine ⟨by simp only [List.length_cons]; omega, ?_⟩
            intro i x hi
            match i with
            | 0 => simp only [List.map_cons, List.getElem?_cons_zero, Option.some.injEq, SV.num] at hi ⊢; subst hi; exact ⟨rfl, inB_ok hf h1⟩
            | 1 => simp only [List.map_cons, List.getElem?_cons_succ, List.getElem?_cons_zero, Option.some.injEq, SV.num] at hi ⊢; subst hi; exact ⟨rfl, inB_ok hf h2⟩
            | 2 => simp only [List.map_cons, List.getElem?_cons_succ, List.getElem?_cons_zero, Option.some.injEq, SV.num] at hi ⊢; subst hi; exact ⟨rfl, inB_ok hf h3⟩
            | i + 3 =>
              simp only [List.map_cons, List.getElem?_cons_succ] at hi ⊢
              rw [show (i + 3) % 3 = i % 3 by omega]
              exact i2 i x hi
          · cases h
        · cases h
      · cases h

/-- What an answer stands for. -/
def Ans.out (e : Env) (a : Ans) : Out := ⟨a.n, a.cs.map (SV.num e), decide (a.d.num e ≠ 0), (a.q.take 6).map (SV.num e), decide ((a.q.getD 6 .junk).num e ≠ 0)⟩

theorem bint_ne {b : Bool} {x : Int} (h : x = bint b) : decide (x ≠ 0) = b := by subst h; cases b <;> rfl

/-- An answer is what it stands for. -/
theorem ans_ok {F : Base} {M : Lay} {h : Hs} {w w' : World} {r : FR} {en : Ending} {a b : Ans} {fs fs' : Facts} (hB : F.B = F.w0.heap.size) (hw : F.w0 = w) (hg : Grown w w') (hb : ansS r h = some b) (hf : fs.ok e) (hf' : fs'.ok e)
    (hn : a.n = b.n) (hn1 : 1 ≤ a.n) (hn2 : a.n ≤ 64) (h1 : accOK fs a.cs = true) (h2 : pegOK fs a.q = true) (h3 : eqCells fs' a.cs b.cs = true) (h4 : eqCell fs' a.d b.d = true) (h5 : eqCells fs' a.q b.q = true)
    (H : HeapOK e F M h w') (hr : FRel e M r en) : AnsIs w (a.out e) en w' := by
  unfold ansS at hb
  split at hb
  · rename_i v
    split at hb
    · rename_i i n d q
      split at hb
      · rename_i cs el wr hrow
        cases hc : (Nat.ble h.n0 i && Nat.ble (3 * n) cs.length) with
        | false => rw [hc] at hb; cases hb
        | true =>
          rw [hc] at hb
          cases hb
          simp only [Bool.and_eq_true] at hc
          have c1 := Nat.le_of_ble_eq_true hc.1
          have c2 := Nat.le_of_ble_eq_true hc.2
          simp only at hn h3 h4 h5
          cases hr with
          | ret _ x hx => cases hx with
            | tup _ x hx =>
              obtain ⟨xl⟩ := x
              cases hx with | cons _ x1 _ _ g1 hx => cases hx with | cons _ x2 _ _ g2 hx => cases hx with | cons _ x3 _ _ g3 hx =>
              cases hx
              cases g1 with
              | slice _ _ _ _ _ blk nn c k1 k2 k3 k4 k5 k6 =>
              cases g3 with
              | agg _ y hy =>
              obtain ⟨yl⟩ := y
              simp only at hy
              obtain ⟨blk', nn', ob, m1, m2, m3⟩ := H.live i _ hrow rfl
              rw [k1] at m1; cases m1
              have hnew : F.B ≤ blk := H.new i _ blk nn hrow rfl (by rw [← H.cn0]; exact c1) k1
              cases m3 with
              | row _ _ _ arr pre rest fr z1 z2 z3 =>
              have hlen : a.cs.length = 3 * a.n := by
                have := (eqCells_ok (M := M) (M' := M) hf' h3 (z2.take (3 * n))).length
                have h6 := (z2.take (3 * n)).length
                rw [List.length_take] at h6
                rw [hn]; omega
              obtain ⟨j1, j2⟩ := accOK_ok (M := M) hf a.n hlen h1 (eqCells_ok hf' h3 (z2.take (3 * n)))
              have hd : VR e M a.d x2 := eqCell_ok hf' h4 g2
              have hq := eqCells_ok (M := M) (M' := M) hf' h5 hy
              have hex : c * 3 = arr.size := by have := k6.2 rfl; rw [ev_lit] at this; simpa using this
              unfold pegOK at h2
              split at h2
              · rename_i p0 p1 p2 p3 p4 p5 p6 haq
                simp only [Bool.and_eq_true] at h2
                obtain ⟨⟨⟨⟨⟨b0, b1⟩, b2⟩, b3⟩, b4⟩, b5⟩ := h2
                rw [haq] at hq
                cases hq with | cons _ v0 _ _ q0 hq => cases hq with | cons _ v1 _ _ q1 hq => cases hq with | cons _ v2 _ _ q2 hq => cases hq with | cons _ v3 _ _ q3 hq => cases hq with | cons _ v4 _ _ q4 hq => cases hq with | cons _ v5 _ _ q5 hq => cases hq with | cons _ v6 _ _ q6 hq =>
                cases hq
                cases q0; cases q1; cases q2; cases q3; cases q4; cases q5
                cases q6 with
                | bool _ bh hbh =>
                have hdb : ∃ bd, x2 = .bool bd ∧ a.d.num e = bint bd := by
                  cases g2 with
                  | bool _ bd hbd =>
                    refine ⟨bd, rfl, ?_⟩
                    generalize a.d = ad at hd h4
                    cases ad <;> simp only [eqCell, Bool.false_eq_true] at h4
                    cases hd with
                    | bool _ _ hbd' => exact hbd'
                obtain ⟨bd, rfl, hbd⟩ := hdb
                refine ⟨hg, ⟨⟨hn1, hn2⟩, by simp only [Ans.out, List.length_map]; exact hlen, by simp only [Ans.out, haq]; rfl, ?_⟩, blk, c, arr, _, fr, ?_, ?_, ?_, m2, hex.symm, ?_⟩
                · intro i x hi
                  simp only [Ans.out, haq] at hi
                  match i, hi with
                  | 0, hi => cases hi; exact inB_ok hf b0
                  | 1, hi => cases hi; exact inB_ok hf b1
                  | 2, hi => cases hi; exact inB_ok hf b2
                  | 3, hi => cases hi; exact inB_ok hf b3
                  | 4, hi => cases hi; exact inB_ok hf b4
                  | 5, hi => cases hi; exact inB_ok hf b5
                  | i + 6, hi => simp at hi
                · simp only [Ans.out, Out.regs, haq, bint_ne hbd]
                  rw [hn]
                  have hhb : decide ((SV.num e (SV.bool p6)) ≠ 0) = bh := bint_ne hbh
                  simp only [List.getD_cons_succ, List.getD_cons_zero, hhb]
                  simp [ev_lit, SV.num]
                · rw [← hw, ← hB]; exact hnew
                · simp only [Ans.out]; rw [hn]; have := k4; rw [ev_lit] at this; simpa using this
                · intro i x hi
                  obtain ⟨l1, l2⟩ := j2 i x hi
                  refine ⟨?_, l2⟩
                  have h7 := l1
                  rw [List.getElem?_take] at h7
                  split at h7
                  · rw [← Array.getElem?_toList, z1, List.getElem?_append_left (List.getElem?_eq_some_iff.1 h7).1]; exact h7
                  · cases h7
              · cases h2
      · cases hb
    · cases hb
  · cases hb

/-- Of one run of a call there is one answer. -/
theorem one_answer {f : FuncId} {vs : Array Value} {w : World} {o o' : Out} (hi : P.inits.idxOf? f = none) (h : Calls P f vs w (AnsIs w o)) (h' : Calls P f vs w (AnsIs w o')) : o = o' := by
  have key : ∀ o, Calls P f vs w (AnsIs w o) → Calls P f vs w fun | .returned v, w' => AnsIs w o (.returned v) w' | _, _ => False := by
    intro o h
    refine Calls.mono h ?_
    intro en w' ha
    obtain ⟨g1, g2, b, c, arr, el, fr, rfl, rest⟩ := ha
    exact ⟨g1, g2, b, c, arr, el, fr, rfl, rest⟩
  obtain ⟨n1, v1, w1, r1, a1⟩ := Calls.done (key o h) hi
  obtain ⟨n2, v2, w2, r2, a2⟩ := Calls.done (key o' h') hi
  have h1 := runN_ended r1 n2
  have h2 := runN_ended r2 n1
  rw [Nat.add_comm n2 n1] at h2
  rw [h1] at h2
  cases h2
  exact a1.inj a2

/-- Two calls, run one behind the other on symbols, answer the same, from whatever worlds. -/
theorem rel_ok (hm : P.follows .mixedOrders = true) {ext : FuncId → List SV → Option SV} (hext : ∀ e, ExtOK P e ext) {F1 F2 : Base} {M1 M2 : Lay} {h1 : Hs} {w1 w2 : World} {sums : Sums}
    (hs1 : SumsOK P F1 e sums) (hs2 : SumsOK P F2 e sums) {loops : FuncId → Nat → Option LSpec} {rounds depth : Nat} {f1 f2 : FuncId} {args1 args2 : List SV} {vs1 vs2 : Array Value} {hB : Facts → Hs}
    (hrun : callN P ext sums loops rounds depth f1 args1 h1 (fun r g => callN P ext sums loops rounds depth f2 args2 (hB g.fs) (fun r' g' => finRel r g r' g')) = .ok)
    (H1 : HeapOK e F1 M1 h1 w1) (H2 : ∀ fs, fs.ok e → HeapOK e F2 M2 (hB fs) w2) (hB1 : F1.B = F1.w0.heap.size) (hB2 : F2.B = F2.w0.heap.size) (hw1 : F1.w0 = w1) (hw2 : F2.w0 = w2) (hr1 : ∀ i, F1.wr i = false) (hr2 : ∀ i, F2.wr i = false)
    (ha1 : VRs e M1 args1 vs1.toList) (ha2 : VRs e M2 args2 vs2.toList) (hi : P.inits.idxOf? f2 = none) :
    ∃ o, Calls P f1 vs1 w1 (AnsIs w1 o) ∧ Calls P f2 vs2 w2 (AnsIs w2 o) := by
  have hc := callN_ok (P := P) (F := F1) (loops := loops) hm hext (e0 := e) hs1 rounds depth e (Env.near_refl e) M1 h1 w1 f1 args1 vs1 _ hrun H1 ha1
  have step : Calls P f1 vs1 w1 fun en w' => ∃ o, AnsIs w1 o en w' ∧ Calls P f2 vs2 w2 (AnsIs w2 o) := by
    refine Calls.mono hc ?_
    rintro en w' ⟨M', g, r, _, HG, hr, hk⟩
    have hc2 := callN_ok (P := P) (F := F2) (loops := loops) hm hext (e0 := e) hs2 rounds depth e (Env.near_refl e) M2 (hB g.fs) w2 f2 args2 vs2 _ hk (H2 g.fs HG.fact) ha2
    have hgr : Grown w1 w' := by rw [← hw1]; exact left_of HG hB1 hr1
    have fin2 : ∀ en2 w2', (∃ M' h' r', M2.le M' ∧ HeapOK e F2 M' h' w2' ∧ FRel e M' r' en2 ∧ finRel r g r' h' = .ok) → ∃ a, ansS r g = some a ∧ AnsIs w1 (a.out e) en w' ∧ AnsIs w2 (a.out e) en2 w2' := by
      rintro en2 w2' ⟨M3, g', r', _, HG', hr', hk'⟩
      unfold finRel at hk'
      split at hk'
      · rename_i a ha
        split at hk'
        · rename_i b hb
          cases hcc : (Nat.beq a.n b.n && Nat.ble 1 a.n && Nat.ble a.n 64 && accOK g.fs a.cs && pegOK g.fs a.q && eqCells g'.fs a.cs b.cs && eqCell g'.fs a.d b.d && eqCells g'.fs a.q b.q) with
          | false => rw [hcc] at hk'; cases hk'
          | true =>
            simp only [Bool.and_eq_true] at hcc
            obtain ⟨⟨⟨⟨⟨⟨⟨d1, e1⟩, e2⟩, d2⟩, d3⟩, d4⟩, d5⟩, d6⟩ := hcc
            have self : eqCells g.fs a.cs a.cs = true ∧ eqCell g.fs a.d a.d = true ∧ eqCells g.fs a.q a.q = true := ⟨eqCells_self d4, eqCell_self d5, eqCells_self d6⟩
            refine ⟨a, ha, ?_, ?_⟩
            · exact ans_ok hB1 hw1 hgr ha HG.fact HG.fact rfl (Nat.le_of_ble_eq_true e1) (Nat.le_of_ble_eq_true e2) d2 d3 self.1 self.2.1 self.2.2 HG hr
            · exact ans_ok hB2 hw2 (by rw [← hw2]; exact left_of HG' hB2 hr2) hb HG.fact HG'.fact (Nat.eq_of_beq_eq_true d1) (Nat.le_of_ble_eq_true e1) (Nat.le_of_ble_eq_true e2) d2 d3 d4 d5 d6 HG' hr'
        · cases hk'
      · cases hk'
    obtain ⟨en2, w2', _, hx, _⟩ := hc2 []
    obtain ⟨a, ha, hA, _⟩ := fin2 en2 w2' hx
    refine ⟨a.out e, hA, Calls.mono hc2 ?_⟩
    intro en3 w3 hx3
    obtain ⟨a', ha', _, hA'⟩ := fin2 en3 w3 hx3
    rw [ha] at ha'
    cases ha'
    exact hA'
  obtain ⟨en0, w0', _, ⟨o, ho, ho2⟩, _⟩ := step []
  refine ⟨o, Calls.mono step ?_, ho2⟩
  rintro en w' ⟨o', h1', h2'⟩
  have := one_answer hi ho2 h2'
  subst this
  exact h1'
end
end Go.Sx

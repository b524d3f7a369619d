/- The operations that change nothing, on symbolic values. -/
import Derived.Test.YtnhphhlojkhlcaaGreatDoorGxInt
import Derived.Laws.StructEq
namespace Go.Sx
open Go Go.RowKit

section
variable (P : Program)

def isAggS (t : TypeId) : Option Bool := match P.underlying t with
  | some (.struct _) => some true
  | some (.array _ _) => some true
  | some _ => some false
  | none => none

/-- How many cells a type has. -/
def sizeS (t : TypeId) : Option Nat := (P.info? t).map (·.size)

variable {P} {e : Env} {F : Base} {M : Lay} {h : Hs} {w : World}

theorem isAggS_ok {t : TypeId} {b : Bool} (hb : isAggS P t = some b) : (isAgg t).run P w = .ok b w := by
  unfold isAggS at hb
  split at hb
  all_goals first | cases hb | skip
  · rename_i hu; simp [isAgg, run_underlying hu]
  · rename_i hu; simp [isAgg, run_underlying hu]
  · rename_i d hn1 hn2 hu
    simp only [isAgg, Sem.run_bind, run_underlying hu, Result.andThen_ok]
    cases d <;> first | rfl | exact absurd rfl (hn1 _) | exact absurd rfl (hn2 _ _)

theorem sizeS_ok {t : TypeId} {n : Nat} (hn : sizeS P t = some n) : (sizeOf t).run P w = .ok n w := by
  unfold sizeS at hn
  cases hi : P.info? t with
  | none => rw [hi] at hn; cases hn
  | some i =>
    rw [hi] at hn; cases hn
    simp [sizeOf, typeInfo, hi]

theorem typeInfo_ok {t : TypeId} {i : TypeInfo} (hi : P.info? t = some i) : (typeInfo t).run P w = .ok i w := by simp [typeInfo, hi]

variable (P)
/-- A part of a row of cells that is a value of a type. -/
def partS (t : TypeId) (l : List SV) (off : Nat) : Option SV :=
  match isAggS P t with
  | some true => match sizeS P t with
    | some n => some (.agg ((l.drop off).take n))
    | none => none
  | some false => l[off]?
  | none => none

variable {P}
theorem partS_ok {t : TypeId} {l : List SV} {cs : Array Value} {off : Nat} {v : SV} (hl : VRs e M l cs.toList) (hv : partS P t l off = some v) :
    ∃ x, (part t cs off).run P w = .ok x w ∧ VR e M v x := by
  unfold partS at hv
  split at hv
  · rename_i ha
    split at hv
    · rename_i n hn
      cases hv
      refine ⟨.agg (cs.extract off (off + n)), by simp [part, isAggS_ok ha, sizeS_ok hn], .agg _ _ ?_⟩
      rw [Array.toList_extract, List.extract_eq_take_drop, show off + n - off = n by omega]
      exact (hl.drop off).take n
    · cases hv
  · rename_i ha
    obtain ⟨x, h1, h2⟩ := hl.get hv
    refine ⟨x, ?_, h2⟩
    rw [Array.getElem?_toList] at h1
    simp [part, isAggS_ok ha, h1]
  · cases hv

/-! ## Equality -/

def seq : List Nat → List Nat → Bool
  | [], [] => true
  | a :: x, b :: y => bif Nat.beq a b then seq x y else false
  | _, _ => false

theorem seq_iff : ∀ {a b : List Nat}, seq a b = true ↔ a = b := by
  intro a
  induction a with
  | nil => intro b; cases b <;> simp [seq]
  | cons x a ih =>
    intro b
    cases b with
    | nil => simp [seq]
    | cons y b =>
      simp only [seq]
      cases hb : Nat.beq x y with
      | true => simp only [cond_true, ih, Nat.eq_of_beq_eq_true hb]; simp
      | false => simp only [cond_false]; constructor
                 · intro hf; cases hf
                 · intro hf; cases hf; rw [Nat.beq_refl] at hb; cases hb

theorem toList_bytesOf {l : List Nat} : (bytesOf l).toList = l.map (fun n => UInt8.ofNat n) := by
  unfold bytesOf; rw [ByteArray.toList_mk]

theorem bytes_beq {a b : List Nat} (ha : ∀ x ∈ a, x < 256) (hb : ∀ x ∈ b, x < 256) : ((bytesOf a).toList == (bytesOf b).toList) = seq a b := by
  rw [Bool.eq_iff_iff, seq_iff, beq_iff_eq]
  constructor
  · intro hx
    have h1 : bytesOf a = bytesOf b := by
      rw [ByteArray.toList_eq, ByteArray.toList_eq] at hx
      exact ByteArray.ext (Array.toList_inj.1 hx)
    rw [← natsOf_bytesOf ha, ← natsOf_bytesOf hb, h1]
  · intro hx; rw [hx]

/-- 0 or 1: are two the same? -/
def eqT (fs : Facts) (p q : T) : T := T.eq0 fs (T.sub p q)
theorem eqT_ev {fs : Facts} (hf : fs.ok e) (p q : T) : (eqT fs p q).ev e = if p.ev e = q.ev e then 1 else 0 := by
  unfold eqT; rw [eq0_ev hf, sub_ev]; split <;> split <;> omega

variable (P)
/-- A test, decided where it can be. -/
def sure (fs : Facts) (c : T) : T := match c with
  | .lit n => .lit n
  | c => match knownD fs c with
    | some b => .lit (bint b)
    | none => c
theorem sure_ev {fs : Facts} (hf : fs.ok e) {c : T} {v : Bool} (hc : c.ev e = bint v) : (sure fs c).ev e = bint v := by
  unfold sure
  split
  · exact hc
  · split
    · rename_i b hb
      rw [ev_lit, knownD_ok hf hc hb]
    · exact hc

def eqF (fs : Facts) (eq : TypeId → SV → SV → Option T) (a b : List SV) : List Field → Option T
  | [] => some (.lit 1)
  | f :: fl => bif decide (f.name ≠ "_") then
      (match partS P f.type a f.offset with
      | none => none
      | some x => match partS P f.type b f.offset with
        | none => none
        | some y => match eq f.type x y with
          | none => none
          | some r => match eqF fs eq a b fl with
            | none => none
            | some s => some (T.mul fs (sure fs r) s))
      else eqF fs eq a b fl
def eqS (fs : Facts) : Nat → TypeId → SV → SV → Option T
  | 0, _, _, _ => none
  | d + 1, t, x, y => match P.underlying t with
    | some (.int _) => match x, y with
      | .int k p, .int k' q => if k = k' then some (eqT fs p q) else none
      | _, _ => none
    | some .bool => match x, y with
      | .bool p, .bool q => some (eqT fs p q)
      | _, _ => none
    | some .string => match x, y with
      | .str a, .str b => some (.lit (bint (seq a b)))
      | _, _ => none
    | some (.struct fl) => match x, y with
      | .agg a, .agg b => bif P.stoodInHeld t then none else eqF P fs (eqS fs d) a b fl.toList
      | _, _ => none
    | some (.pointer _) => match x, y with
      | .nilp, .nilp => some (.lit 1)
      | .nilp, .ptr _ _ => some (.lit 0)
      | .ptr _ _, .nilp => some (.lit 0)
      | _, _ => none
    | some (.slice _) => match x, y with
      | .nils, .nils => some (.lit 1)
      | .slice .., .nils => some (.lit 0)
      | .nils, .slice .. => some (.lit 0)
      | _, _ => none
    | some (.interface _) => match x, y with
      | .nili, .nili => some (.lit 1)
      | .nili, .iface _ _ => some (.lit 0)
      | .iface _ _, .nili => some (.lit 0)
      | _, _ => none
    | some (.func _ _ _) => match x, y with
      | .nilf, .nilf => some (.lit 1)
      | .nilf, .fn _ _ _ => some (.lit 0)
      | .fn _ _ _, .nilf => some (.lit 0)
      | _, _ => none
    | _ => none

variable {P}

/-- What it means that a term tells whether two values are equal. -/
def EqOK (P : Program) (e : Env) (w : World) (d : Nat) (t : TypeId) (x y : Value) (r : T) : Prop :=
  ∃ b : Bool, (Op.equalIn d t x y).run P w = .ok b w ∧ r.ev e = bint b

theorem eqF_ok {fs : Facts} (hf : fs.ok e) {eq : TypeId → SV → SV → Option T} {d : Nat}
    (heq : ∀ t x y r vx vy, eq t x y = some r → VR e M x vx → VR e M y vy → EqOK P e w d t vx vy r) {a b : List SV} {ca cb : Array Value}
    (ha : VRs e M a ca.toList) (hb : VRs e M b cb.toList) : ∀ (fl : List Field) (r : T), eqF P fs eq a b fl = some r →
      ∃ v : Bool, (Op.eqFields d ca cb fl).run P w = .ok v w ∧ r.ev e = bint v := by
  intro fl
  induction fl with
  | nil => intro r h; simp only [eqF] at h; cases h; exact ⟨true, by simp [Op.eqFields], rfl⟩
  | cons f fl ih =>
    intro r h
    simp only [eqF] at h
    by_cases hn : f.name ≠ "_"
    · rw [decide_eq_true hn] at h; simp only [cond_true] at h
      split at h
      · cases h
      · rename_i x hx
        split at h
        · cases h
        · rename_i y hy
          split at h
          · cases h
          · rename_i r1 hr1
            split at h
            · cases h
            · rename_i s hs
              cases h
              obtain ⟨vx, hvx, hxr⟩ := partS_ok (P := P) (w := w) ha hx
              obtain ⟨vy, hvy, hyr⟩ := partS_ok (P := P) (w := w) hb hy
              obtain ⟨b1, hb1, hr⟩ := heq _ _ _ _ _ _ hr1 hxr hyr
              obtain ⟨b2, hb2, hr2⟩ := ih _ hs
              refine ⟨b1 && b2, ?_, ?_⟩
              · rw [Op.eqFields, if_pos hn]
                simp only [Sem.run_bind, hvx, hvy, hb1, Result.andThen_ok, Sem.run_ite, Sem.run_pure]
                cases b1
                · simp
                · simp [hb2]
              · rw [mul_ev hf, sure_ev hf hr, hr2]; cases b1 <;> cases b2 <;> rfl
    · rw [decide_eq_false hn] at h; simp only [cond_false] at h
      obtain ⟨v, h1, h2⟩ := ih _ h
      refine ⟨v, ?_, h2⟩
      rw [Op.eqFields, if_neg hn]; exact h1

theorem eqS_ok {fs : Facts} (hf : fs.ok e) : ∀ (n d : Nat), n ≤ d → ∀ (t : TypeId) (x y : SV) (r : T) (vx vy : Value), eqS P fs n t x y = some r → VR e M x vx → VR e M y vy → EqOK P e w d t vx vy r := by
  intro n
  induction n with
  | zero => intro d _ t x y r vx vy h; cases h
  | succ n ih =>
    intro d hd t x y r vx vy h hx hy
    obtain ⟨d, rfl⟩ : ∃ m, d = m + 1 := ⟨d - 1, by omega⟩
    simp only [eqS] at h
    split at h
    · rename_i k0 hu
      split at h
      · rename_i k p k' q
        split at h
        · rename_i hk
          cases h; cases hx; cases hy; subst hk
          refine ⟨p.ev e == q.ev e, run_equalIn_int w d t k k0 _ _ hu, ?_⟩
          rw [eqT_ev hf]
          by_cases hpq : p.ev e = q.ev e
          · simp [hpq, bint]
          · have : (p.ev e == q.ev e) = false := by simpa using hpq
            rw [this, if_neg hpq]; rfl
        · cases h
      · cases h
    · rename_i hu
      split at h
      · rename_i p q
        cases h
        cases hx with
        | bool _ a ha => cases hy with
          | bool _ b hb =>
            refine ⟨a == b, run_equalIn_bool' w d t a b hu, ?_⟩
            rw [eqT_ev hf, ha, hb]
            cases a <;> cases b <;> rfl
      · cases h
    · rename_i hu
      split at h
      · rename_i a b
        cases h
        cases hx with
        | str _ ha => cases hy with
          | str _ hb => exact ⟨_, run_equalIn_string w d t _ _ hu, by rw [bytes_beq ha hb]; rfl⟩
      · cases h
    · rename_i fl hu
      split at h
      · rename_i a b
        cases hst : P.stoodInHeld t with
        | true => rw [hst] at h; cases h
        | false =>
          rw [hst] at h; simp only [cond_false] at h
          cases hx with
          | agg _ ca ha => cases hy with
            | agg _ cb hb =>
              obtain ⟨v, h1, h2⟩ := eqF_ok (P := P) (w := w) hf (d := d) (fun t x y r vx vy h hx hy => ih d (by omega) t x y r vx vy h hx hy) ha hb _ _ h
              refine ⟨v, ?_, h2⟩
              have hfo : P.fieldsOf t = fl := by simp [Program.fieldsOf, hu]
              rw [run_equalIn_struct w d t ca cb (by rw [hfo]; exact hu) hst, hfo]
              exact h1
      · cases h
    · rename_i el hu
      split at h
      all_goals first | cases h | skip
      · cases hx; cases hy; exact ⟨true, by simp [Op.equalIn, run_underlying hu], rfl⟩
      · cases hx; cases hy; exact ⟨false, by simp [Op.equalIn, run_underlying hu], rfl⟩
      · cases hx; cases hy; exact ⟨false, by simp [Op.equalIn, run_underlying hu], rfl⟩
    · rename_i el hu
      split at h
      all_goals first | cases h | skip
      · cases hx; cases hy; exact ⟨true, by simp [Op.equalIn, run_underlying hu], rfl⟩
      · cases hx; cases hy; exact ⟨false, by simp [Op.equalIn, run_underlying hu], rfl⟩
      · cases hx; cases hy; exact ⟨false, by simp [Op.equalIn, run_underlying hu], rfl⟩
    · rename_i el hu
      split at h
      all_goals first | cases h | skip
      · cases hx; cases hy; exact ⟨true, by simp [Op.equalIn, run_underlying hu], rfl⟩
      · cases hx; cases hy; exact ⟨false, by simp [Op.equalIn, run_underlying hu], rfl⟩
      · cases hx; cases hy; exact ⟨false, by simp [Op.equalIn, run_underlying hu], rfl⟩
    · rename_i el hu
      split at h
      all_goals first | cases h | skip
      · cases hx; cases hy; exact ⟨true, by simp [Op.equalIn, run_underlying hu], rfl⟩
      · cases hx; cases hy; exact ⟨false, by simp [Op.equalIn, run_underlying hu], rfl⟩
      · cases hx; cases hy; exact ⟨false, by simp [Op.equalIn, run_underlying hu], rfl⟩
    · cases h

/-! ## Binary operations -/

variable (P)
/-- Both operands constants of nil that are no literals: Go's own guard. -/
def guardS (t : TypeId) (x y : Operand) (a b : SV) : Bool :=
  match a, b with
  | .nili, .nili => (x matches .const _) || (y matches .const _)
  | .agg _, .agg _ => !(P.eqGuardType P.depth t)
  | .junk, _ => false
  | _, .junk => false
  | .when _ _, _ => false
  | _, .when _ _ => false
  | _, _ => true

def binS (fs : Facts) (op : BinOp) (t : TypeId) (x y : Operand) (a b : SV) : Option SV :=
  match a with
  | .int k p => match b with
    | .int k' q => match op with
      | .shl => intShift fs .shl k p q
      | .shr => intShift fs .shr k p q
      | op => if k = k' then intBin fs op k p q else none
    | _ => none
  | .str s => match b with
    | .str u => match op with
      | .eql => some (.bool (.lit (bint (seq s u))))
      | .neq => some (.bool (.lit (bint (!seq s u))))
      | .add => bif Nat.ble (s.length + u.length) 1000000 then some (.str (s ++ u)) else none
      | _ => none
    | _ => none
  | .junk => none
  | .when _ _ => none
  | a => match op with
    | .eql => bif guardS P t x y a b then (match eqS P fs 8 t a b with
      | some r => some (.bool r)
      | none => none) else none
    | .neq => bif guardS P t x y a b then (match eqS P fs 8 t a b with
      | some r => some (.bool (T.not1 r))
      | none => none) else none
    | _ => none

variable {P}
theorem bytesOf_append (s u : List Nat) : bytesOf s ++ bytesOf u = bytesOf (s ++ u) := by
  refine ByteArray.ext ?_
  simp [bytesOf]

theorem bytesOf_size (s : List Nat) : (bytesOf s).size = s.length := by
  show (bytesOf s).data.size = _
  simp [bytesOf]

theorem guardS_ok {t : TypeId} {x y : Operand} {a b : SV} {va vb : Value} (h : guardS P t x y a b = true) (ha : VR e M a va) (hb : VR e M b vb) (op : BinOp) :
    (eqGuard op t x y va vb).run P w = .ok () w := by
  have key : ∀ op, op = .eql ∨ op = .neq → (eqGuard op t x y va vb).run P w = .ok () w := by
    intro op hop
    cases ha with
    | nili =>
      cases hb with
      | nili =>
        simp only [guardS, Bool.or_eq_true] at h
        rcases hop with rfl | rfl <;> (cases x <;> cases y <;> first | (simp [eqGuard]; done) | (simp at h))
      | junk => simp [guardS] at h
      | «when» => simp [guardS] at h
      | _ => rcases hop with rfl | rfl <;> simp [eqGuard]
    | agg l ca hca =>
      cases hb with
      | agg l' cb hcb =>
        simp only [guardS, Bool.not_eq_true'] at h
        exact run_eqGuard_agg w op t x y ca cb h
      | junk => simp [guardS] at h
      | «when» => simp [guardS] at h
      | _ => rcases hop with rfl | rfl <;> simp [eqGuard]
    | junk => simp [guardS] at h
    | «when» => cases hb <;> simp [guardS] at h
    | _ => cases hb <;> first | (simp [guardS] at h; done) | (rcases hop with rfl | rfl <;> simp [eqGuard])
  cases op <;> first | exact key _ (.inl rfl) | exact key _ (.inr rfl) | rfl


def vplain : Value → Bool
  | .int _ _ => false
  | .float _ _ => false
  | .complex _ _ _ => false
  | .string _ => false
  | _ => true

theorem eql_plain {va : Value} (h : vplain va = true) (vb : Value) (t : TypeId) :
    (binOp .eql t va vb).run P w = ((Op.equalIn 10000 t va vb).run P w).andThen fun b w' => .ok (.bool b) w' := by
  have : binOp .eql t va vb = (do pure (.bool (← Op.equal t va vb))) := by
    cases va <;> first | rfl | (simp [vplain] at h)
  rw [this]; simp [Op.equal, Op.maxDepth]
theorem neq_plain {va : Value} (h : vplain va = true) (vb : Value) (t : TypeId) :
    (binOp .neq t va vb).run P w = ((Op.equalIn 10000 t va vb).run P w).andThen fun b w' => .ok (.bool (!b)) w' := by
  have : binOp .neq t va vb = (do pure (.bool (!(← Op.equal t va vb)))) := by
    cases va <;> first | rfl | (simp [vplain] at h)
  rw [this]; simp [Op.equal, Op.maxDepth]

theorem eqGuard_int (op : BinOp) (t : TypeId) (x y : Operand) (k k' : IntKind) (a b : Int) : (eqGuard op t x y (.int k a) (.int k' b)).run P w = .ok () w := by
  cases op <;> simp [eqGuard]
theorem eqGuard_str (op : BinOp) (t : TypeId) (x y : Operand) (a b : ByteArray) : (eqGuard op t x y (.string a) (.string b)).run P w = .ok () w := by
  cases op <;> simp [eqGuard]

theorem binS_ok {fs : Facts} (hf : fs.ok e) {op : BinOp} {t : TypeId} {x y : Operand} {a b v : SV} {va vb : Value} (h : binS P fs op t x y a b = some v) (ha : VR e M a va) (hb : VR e M b vb) :
    ∃ z, (do eqGuard op t x y va vb; binOp op t va vb : Sem Value).run P w = .ok z w ∧ VR e M v z := by
  unfold binS at h
  split at h
  · rename_i k p
    split at h
    · rename_i k' q
      cases ha; cases hb
      simp only [Sem.run_bind, eqGuard_int, Result.andThen_ok]
      split at h
      · exact intShift_ok hf h t P w
      · exact intShift_ok hf h t P w
      · split at h
        · rename_i hk; subst hk; exact intBin_ok hf h t P w
        · cases h
    · cases h
  · rename_i s
    split at h
    · rename_i u
      cases ha with
      | str _ hs => cases hb with
        | str _ hu =>
          simp only [Sem.run_bind, eqGuard_str, Result.andThen_ok]
          split at h
          · cases h
            refine ⟨.bool (seq s u), ?_, .bool _ _ rfl⟩
            rw [binOp_string_eql, bytes_beq hs hu]; rfl
          · cases h
            refine ⟨.bool (!seq s u), ?_, .bool _ _ rfl⟩
            rw [binOp_string_neq, bytes_beq hs hu]; rfl
          · cases hl : Nat.ble (s.length + u.length) 1000000 with
            | false => rw [hl] at h; cases h
            | true =>
              rw [hl] at h; cases h
              refine ⟨.string (bytesOf s ++ bytesOf u), ?_, ?_⟩
              · rw [binOp_string_add]
                have hle := Nat.le_of_ble_eq_true hl
                simp only [Op.stringOp, bytesOf_size]
                rw [if_neg]
                · rfl
                · have : IntKind.i64.max = 9223372036854775807 := by decide
                  rw [this]; omega
              · rw [bytesOf_append]
                refine .str _ ?_
                intro z hz
                rcases List.mem_append.1 hz with hz | hz
                · exact hs z hz
                · exact hu z hz
          · cases h
    · cases h
  · cases h
  · cases h
  · rename_i hni hns hnj hnw
    have hp : vplain va = true := by
      cases ha with
      | int => exact absurd rfl (hni _ _)
      | str => exact absurd rfl (hns _)
      | junk => exact absurd rfl hnj
      | «when» => exact absurd rfl (hnw _ _)
      | _ => rfl
    split at h
    · cases hg : guardS P t x y a b with
      | false => rw [hg] at h; cases h
      | true =>
        rw [hg] at h; simp only [cond_true] at h
        split at h
        · rename_i r hr
          cases h
          obtain ⟨c, hc, hrc⟩ := eqS_ok (P := P) (w := w) hf 8 10000 (by omega) _ _ _ _ _ _ hr ha hb
          refine ⟨.bool c, ?_, .bool _ _ hrc⟩
          simp only [Sem.run_bind, guardS_ok hg ha hb, Result.andThen_ok, eql_plain hp, hc]
        · cases h
    · cases hg : guardS P t x y a b with
      | false => rw [hg] at h; cases h
      | true =>
        rw [hg] at h; simp only [cond_true] at h
        split at h
        · rename_i r hr
          cases h
          obtain ⟨c, hc, hrc⟩ := eqS_ok (P := P) (w := w) hf 8 10000 (by omega) _ _ _ _ _ _ hr ha hb
          refine ⟨.bool (!c), ?_, .bool _ _ ?_⟩
          · simp only [Sem.run_bind, guardS_ok hg ha hb, Result.andThen_ok, neq_plain hp, hc]
          · rw [not1_ev, hrc]; cases c <;> rfl
        · cases h
    · cases h

end
end Go.Sx

/- A region that draws its order: what changes the world goes in every order that the edges leave open; what does not is carried out as early as it can be, and must tell the same at whatever time it may come. No symbolic value in sight. -/
import Derived.Orders
namespace Go.Sx
open Go

section
variable {P : Program} {ops : Array Oper} {Q : Exit → Act → World → Prop}

/-- p comes directly ahead of i. -/
def Pre (ops : Array Oper) (i p : Nat) : Prop := ∃ o, ops[i]? = some o ∧ ∃ e ∈ o.after, Region.binds .any e = true ∧ e.on = p
inductive Anc (ops : Array Oper) : Nat → Nat → Prop where
  | one {i p : Nat} : Pre ops i p → Anc ops i p
  | more {i p q : Nat} : Pre ops i p → Anc ops p q → Anc ops i q

def Down (ops : Array Oper) (S : Nat → Bool) : Prop := ∀ i, S i = true → ∀ p, Pre ops i p → S p = true

theorem Down.anc {S : Nat → Bool} (hd : Down ops S) {i p : Nat} (ha : Anc ops i p) : S i = true → S p = true := by
  induction ha with
  | one h => exact fun hi => hd _ hi _ h
  | more h _ ih => exact fun hi => ih (hd _ hi _ h)

theorem Down.anc' {S : Nat → Bool} (hd : Down ops S) {i p : Nat} (ha : Anc ops i p) (hp : ∀ q, Pre ops i q → S q = true) : S p = true := by
  cases ha with
  | one h => exact hp _ h
  | more h h2 => exact hd.anc h2 (hp _ h)

def dstOf (ops : Array Oper) (i : Nat) : Option Tmp := (ops[i]?).bind (·.dst)

structure Fit (ops : Array Oper) : Prop where
  sel : ∀ (i : Nat) (o : Oper) (cs : Array SelectCase) (b : Bool), ops[i]? = some o → o.op ≠ Op.select cs b
  dst : ∀ i j t, dstOf ops i = some t → dstOf ops j = some t → i = j
  ord : ∀ (i j : Nat) (t : Tmp) (o : Oper), ops[i]? = some o → dstOf ops j = some t → t ∈ o.looksAt ops → i ≠ j → Anc ops i j ∨ Anc ops j i

/-- The frame once the operations S have been carried out, z their values. -/
structure At (ops : Array Oper) (a0 : Act) (S : Nat → Bool) (z : Nat → Value) (a : Act) : Prop where
  size : a.tmps.size = a0.tmps.size
  done : ∀ j t, S j = true → dstOf ops j = some t → t < a0.tmps.size → a.tmps[t]? = some (z j)
  rest : ∀ t, (∀ j, S j = true → dstOf ops j ≠ some t) → a.tmps[t]? = a0.tmps[t]?

variable {a0 : Act}

theorem At.congr {S : Nat → Bool} {z z' : Nat → Value} {a : Act} (h : At ops a0 S z a) (hz : ∀ j, S j = true → z j = z' j) : At ops a0 S z' a :=
  ⟨h.size, fun j t hj hd ht => by rw [← hz j hj]; exact h.done j t hj hd ht, h.rest⟩

theorem At.agree {S S' : Nat → Bool} {z : Nat → Value} {a a' : Act} (h : At ops a0 S z a) (h' : At ops a0 S' z a') {t : Tmp} (hs : ∀ j, dstOf ops j = some t → S j = S' j) : a.tmps[t]? = a'.tmps[t]? := by
  by_cases hex : ∃ j, S j = true ∧ dstOf ops j = some t
  · obtain ⟨j, hj, hd⟩ := hex
    by_cases ht : t < a0.tmps.size
    · rw [h.done j t hj hd ht, h'.done j t (by rw [← hs j hd]; exact hj) hd ht]
    · have e1 := h.size
      have e2 := h'.size
      have e3 : a.tmps[t]? = none := Array.getElem?_eq_none (by rw [e1]; exact Nat.le_of_not_lt ht)
      have e4 : a'.tmps[t]? = none := Array.getElem?_eq_none (by rw [e2]; exact Nat.le_of_not_lt ht)
      rw [e3, e4]
  · rw [h.rest t (fun j hj hd => hex ⟨j, hj, hd⟩), h'.rest t (fun j hj hd => hex ⟨j, by rw [hs j hd]; exact hj, hd⟩)]

def with1 (S : Nat → Bool) (i : Nat) : Nat → Bool := fun j => S j || j == i

theorem with1_self (S : Nat → Bool) (i : Nat) : with1 S i i = true := by simp [with1]
theorem with1_old {S : Nat → Bool} {i j : Nat} (h : S j = true) : with1 S i j = true := by simp [with1, h]
theorem with1_of {S : Nat → Bool} {i j : Nat} (h : with1 S i j = true) (hne : j ≠ i) : S j = true := by
  simp only [with1, Bool.or_eq_true, beq_iff_eq] at h; exact h.resolve_right hne

theorem Down.with1 {S : Nat → Bool} (hd : Down ops S) {i : Nat} (hp : ∀ q, Pre ops i q → S q = true) : Down ops (with1 S i) := by
  intro j hj p hjp
  by_cases he : j = i
  · subst he; exact with1_old (hp p hjp)
  · exact with1_old (hd j (with1_of hj he) p hjp)

theorem At.put (hfit : Fit ops) {S : Nat → Bool} {z : Nat → Value} {a : Act} (h : At ops a0 S z a) {i : Nat} {o : Oper} (ho : ops[i]? = some o) (hi : S i = false) : At ops a0 (with1 S i) z (a.put o.dst (z i)) := by
  have hdi : dstOf ops i = o.dst := by simp [dstOf, ho]
  cases hd : o.dst with
  | none =>
    refine ⟨h.size, ?_, ?_⟩
    · intro j t hj hdj ht
      by_cases he : j = i
      · subst he; rw [hdi, hd] at hdj; cases hdj
      · exact h.done j t (with1_of hj he) hdj ht
    · intro t ht
      exact h.rest t (fun j hj => ht j (with1_old hj))
  | some d =>
    rw [hd] at hdi
    refine ⟨by simp [Act.put, h.size], ?_, ?_⟩
    · intro j t hj hdj ht
      by_cases he : j = i
      · subst he
        rw [hdi] at hdj; cases hdj
        simp [Act.put, h.size, ht]
      · have hne : d ≠ t := fun hdt => he (hfit.dst j i t hdj (by rw [hdi, hdt]))
        simp only [Act.put, Array.getElem?_setIfInBounds_ne hne]
        exact h.done j t (with1_of hj he) hdj ht
    · intro t ht
      have hne : d ≠ t := fun hdt => ht i (with1_self S i) (by rw [hdi, hdt])
      simp only [Act.put, Array.getElem?_setIfInBounds_ne hne]
      exact h.rest t (fun j hj => ht j (with1_old hj))

theorem wanted_congr {o : Oper} {a a' : Act} (h : ∀ t ∈ o.looksAt ops, a.tmps[t]? = a'.tmps[t]?) : Region.wanted o (yielded ops a.tmps) = Region.wanted o (yielded ops a'.tmps) := by
  unfold Region.wanted
  cases hg : o.guard with
  | none => rfl
  | some gw =>
    obtain ⟨g, want⟩ := gw
    have hy : yielded ops a.tmps g = yielded ops a'.tmps g := by
      unfold yielded
      cases ht : (ops[g]?).bind (·.dst) with
      | none => rfl
      | some t =>
        have := h t (by simp [Oper.looksAt, hg, ht])
        simp [this]
    simp only [hy]

/-- What an operation does, and whether it is done, hangs on what came ahead of it alone. -/
theorem same_eval (hfit : Fit ops) {S S' : Nat → Bool} {z : Nat → Value} {a a' : Act} (h : At ops a0 S z a) (h' : At ops a0 S' z a') (hd : Down ops S) (hd' : Down ops S') {i : Nat} {o : Oper} (ho : ops[i]? = some o)
    (hi : S i = false) (hi' : S' i = false) (hp : ∀ q, Pre ops i q → S q = true) (hp' : ∀ q, Pre ops i q → S' q = true) :
    execOp a.eval o = execOp a'.eval o ∧ Region.wanted o (yielded ops a.tmps) = Region.wanted o (yielded ops a'.tmps) := by
  have hag : ∀ t ∈ o.looksAt ops, a.tmps[t]? = a'.tmps[t]? := by
    intro t ht
    refine h.agree h' (fun j hj => ?_)
    by_cases he : j = i
    · subst he; rw [hi, hi']
    · rcases hfit.ord i j t o ho hj ht (fun hx => he hx.symm) with ha | ha
      · rw [hd.anc' ha hp, hd'.anc' ha hp']
      · have e1 : S j = false := by
          cases hs : S j with
          | false => rfl
          | true => have := hd.anc ha hs; rw [hi] at this; cases this
        have e2 : S' j = false := by
          cases hs : S' j with
          | false => rfl
          | true => have := hd'.anc ha hs; rw [hi'] at this; cases this
        rw [e1, e2]
  refine ⟨execOp_congr o (fun cs b => hfit.sel i o cs b ho) (fun x hx => ?_), wanted_congr hag⟩
  cases x with
  | tmp t =>
    have := hag t (List.mem_append_left _ (List.mem_filterMap.2 ⟨.tmp t, by simpa using hx, rfl⟩))
    simp [Act.eval, this]
  | _ => rfl

/-! ## The canonical order -/

/-- Is i among the set that a number is? -/
def inV (V i : Nat) : Bool := V.testBit i
def addV (V i : Nat) : Nat := V ||| 2 ^ i

theorem inV_addV (V i : Nat) : inV (addV V i) = with1 (inV V) i := by
  funext j
  simp only [inV, addV, with1, Nat.testBit_or, Nat.testBit_two_pow]
  by_cases h : j = i
  · subst h; simp
  · have h2 : ¬ i = j := fun he => h he.symm
    simp [h, h2]

/-- Something pending: it has been carried out ahead of its time. -/
structure Pend where
  i : Nat
  a : Act
  z : Value

variable (P ops Q)
/-- What is pending tells the same behind an operation that need not come behind it. -/
def Again (anc : Nat → Nat → Bool) (pend : List Pend) (i : Nat) (w : World) : Prop :=
  ∀ x ∈ pend, anc i x.i = false → ∃ o, ops[x.i]? = some o ∧ (execOp x.a.eval o).run P w = .ok (.value x.z) w

/-- next: what may be carried out at once; open_: what is open if there is none. -/
def wpE (anc : Nat → Nat → Bool) (next : Nat → Option Nat) (open_ : Nat → List Nat) : Nat → Nat → List Pend → Act → World → Prop
  | 0, _, _, _, _ => False
  | n + 1, V, pend, a, w => match next V with
    | some i => ∃ o, ops[i]? = some o ∧
        ((Region.wanted o (yielded ops a.tmps) = true ∧ ∃ z, (execOp a.eval o).run P w = .ok (.value z) w ∧ wpE anc next open_ n (addV V i) (⟨i, a, z⟩ :: pend) (a.put o.dst z) w) ∨
         (Region.wanted o (yielded ops a.tmps) = false ∧ wpE anc next open_ n (addV V i) pend (a.put o.dst undef) w))
    | none => (open_ V = [] → Q .normal a w) ∧ ∀ i ∈ open_ V, ∃ o, ops[i]? = some o ∧
        ((Region.wanted o (yielded ops a.tmps) = true ∧ o.wp P a w (fun a' w' => Again P ops anc pend i w' ∧ wpE anc next open_ n (addV V i) pend a' w') Q) ∨
         (Region.wanted o (yielded ops a.tmps) = false ∧ wpE anc next open_ n (addV V i) pend (a.put o.dst undef) w))

variable {P ops Q}

/-- What the static look must have shown. -/
structure Plan (ops : Array Oper) (anc : Nat → Nat → Bool) (quietOp : Nat → Bool) (nx : Nat → Option Nat) (op_ : Nat → List Nat) : Prop where
  fit : Fit ops
  lt : ∀ i p, Pre ops i p → p < i
  hanc : ∀ i j, anc i j = true → Anc ops i j
  hnext : ∀ V i, nx V = some i → quietOp i = true ∧ inV V i = false ∧ (∃ o, ops[i]? = some o) ∧ ∀ p, Pre ops i p → inV V p = true
  open1 : ∀ V i, i ∈ op_ V → quietOp i = false ∧ inV V i = false ∧ (∃ o, ops[i]? = some o) ∧ ∀ p, Pre ops i p → inV V p = true
  open2 : ∀ V, nx V = none → ∀ (i : Nat) (o : Oper), ops[i]? = some o → inV V i = false → (∀ p, Pre ops i p → inV V p = true) → i ∈ op_ V

/-- Where the order that is drawn stands beside the canonical one. -/
structure Inv (P : Program) (ops : Array Oper) (a0 : Act) (quietOp : Nat → Bool) (L : Nat → Bool) (V : Nat) (pend : List Pend) (z : Nat → Value) (aL aV : Act) (w : World) : Prop where
  sub : ∀ i, L i = true → inV V i = true
  defs : aL.defers = aV.defers
  dl : Down ops L
  dv : Down ops (inV V)
  al : At ops a0 L z aL
  av : At ops a0 (inV V) z aV
  late : ∀ q, inV V q = true → L q = false → quietOp q = true ∧ ∃ o Sq aq, ops[q]? = some o ∧ Down ops Sq ∧ Sq q = false ∧ (∀ p, Pre ops q p → Sq p = true) ∧ (∀ j, Sq j = true → inV V j = true) ∧ At ops a0 Sq z aq ∧
    ((Region.wanted o (yielded ops aq.tmps) = true ∧ (execOp aq.eval o).run P w = .ok (.value (z q)) w ∧ (⟨q, aq, z q⟩ : Pend) ∈ pend) ∨ (Region.wanted o (yielded ops aq.tmps) = false ∧ z q = undef))

def zput (z : Nat → Value) (i : Nat) (v : Value) : Nat → Value := fun j => if j = i then v else z j
theorem zput_same (z : Nat → Value) (i : Nat) (v : Value) : zput z i v i = v := by simp [zput]
theorem zput_old {S : Nat → Bool} (z : Nat → Value) {i : Nat} (v : Value) (hi : S i = false) : ∀ j, S j = true → z j = zput z i v j := by
  intro j hj
  unfold zput
  rw [if_neg]
  intro he; subst he; rw [hi] at hj; cases hj

variable {anc : Nat → Nat → Bool} {quietOp : Nat → Bool} {nx : Nat → Option Nat} {op_ : Nat → List Nat}

/-- The canonical order goes one step ahead, by something that changes nothing. -/
theorem Inv.ahead (pl : Plan ops anc quietOp nx op_) {L : Nat → Bool} {V : Nat} {pend pend' : List Pend} {z : Nat → Value} {aL aV : Act} {w : World} (inv : Inv P ops a0 quietOp L V pend z aL aV w) {i : Nat} {o : Oper} {v : Value}
    (hn : nx V = some i) (ho : ops[i]? = some o) (hpend : ∀ x ∈ pend, x ∈ pend')
    (hv : (Region.wanted o (yielded ops aV.tmps) = true ∧ (execOp aV.eval o).run P w = .ok (.value v) w ∧ (⟨i, aV, v⟩ : Pend) ∈ pend') ∨ (Region.wanted o (yielded ops aV.tmps) = false ∧ v = undef)) :
    Inv P ops a0 quietOp L (addV V i) pend' (zput z i v) aL (aV.put o.dst v) w := by
  obtain ⟨hq, hiV, _, hp⟩ := pl.hnext V i hn
  have hiL : L i = false := by
    cases h : L i with
    | false => rfl
    | true => have := inv.sub i h; rw [hiV] at this; cases this
  refine ⟨?_, by rw [inv.defs]; cases o.dst <;> rfl, inv.dl, ?_, inv.al.congr (zput_old z v hiL), ?_, ?_⟩
  · intro j hj; rw [inV_addV]; exact with1_old (inv.sub j hj)
  · rw [inV_addV]; exact inv.dv.with1 hp
  · rw [inV_addV]
    have := (inv.av.congr (zput_old z v hiV)).put pl.fit ho hiV
    rw [zput_same] at this
    exact this
  · intro q hqV hqL
    rw [inV_addV] at hqV ⊢
    by_cases he : q = i
    · subst he
      refine ⟨hq, o, inV V, aV, ho, inv.dv, hiV, hp, fun j hj => with1_old hj, inv.av.congr (zput_old z v hiV), ?_⟩
      rw [zput_same]
      exact hv
    · obtain ⟨h1, o', Sq, aq, h2, h3, h4, h5, h6, h7, h8⟩ := inv.late q (with1_of hqV he) hqL
      have hz : zput z i v q = z q := by unfold zput; rw [if_neg he]
      have hSi : Sq i = false := by
        cases h : Sq i with
        | false => rfl
        | true => have := h6 i h; rw [hiV] at this; cases this
      refine ⟨h1, o', Sq, aq, h2, h3, h4, h5, fun j hj => with1_old (h6 j hj), h7.congr (zput_old z v hSi), ?_⟩
      rw [hz]
      rcases h8 with ⟨g1, g2, g3⟩ | g
      · exact .inl ⟨g1, g2, hpend _ g3⟩
      · exact .inr g

/-- ... as far as it can. -/
theorem saturate (pl : Plan ops anc quietOp nx op_) {L : Nat → Bool} {aL : Act} {w : World} : ∀ (n V : Nat) (pend : List Pend) (z : Nat → Value) (aV : Act), Inv P ops a0 quietOp L V pend z aL aV w → wpE P ops Q anc nx op_ n V pend aV w →
    ∃ n' V' pend' z' aV', Inv P ops a0 quietOp L V' pend' z' aL aV' w ∧ wpE P ops Q anc nx op_ (n' + 1) V' pend' aV' w ∧ nx V' = none := by
  intro n
  induction n with
  | zero => intro V pend z aV _ h; exact h.elim
  | succ n ih =>
    intro V pend z aV inv h
    cases hn : nx V with
    | none => exact ⟨n, V, pend, z, aV, inv, h, hn⟩
    | some i =>
      simp only [wpE, hn] at h
      obtain ⟨o, ho, h⟩ := h
      rcases h with ⟨hw, v, hv, hrest⟩ | ⟨hw, hrest⟩
      · exact ih _ _ _ _ (inv.ahead pl hn ho (fun x hx => List.mem_cons_of_mem _ hx) (.inl ⟨hw, hv, List.mem_cons_self ..⟩)) hrest
      · exact ih _ _ _ _ (inv.ahead pl hn ho (fun x hx => hx) (.inr ⟨hw, rfl⟩)) hrest

theorem filter_set : ∀ (l : List Bool) (i : Nat) (h : i < l.length), l[i] = false → ((l.set i true).filter (· == false)).length + 1 = (l.filter (· == false)).length := by
  intro l
  induction l with
  | nil => intro i h; simp at h
  | cons b l ih =>
    intro i h hb
    cases i with
    | zero => simp only [List.getElem_cons_zero] at hb; subst hb; simp
    | succ i =>
      simp only [List.getElem_cons_succ] at hb
      have := ih i (by simpa using h) hb
      simp only [List.set_cons_succ, List.filter_cons]
      cases b
      · simp only [beq_self_eq_true, if_true, List.length_cons]; omega
      · simpa using this

theorem act_ext {a a' : Act} (h1 : a.tmps = a'.tmps) (h2 : a.defers = a'.defers) : a = a' := by cases a; cases a'; simp_all

/-- The same operation in another frame with the same operands. -/
theorem upon_shift {o : Oper} {aV aL : Act} {nV nL : Act → World → Prop} (hd : aL.defers = aV.defers) (hQ : ∀ chain w, Q (.panic chain) aV w → Q (.panic chain) aL w)
    (hn : ∀ v ds w', nV (Act.put { aV with defers := ds } o.dst v) w' → nL (Act.put { aL with defers := ds } o.dst v) w') {r : Result Next} : o.upon P aV nV Q r → o.upon P aL nL Q r := by
  intro h
  have eV : ({ aV with defers := aV.defers } : Act) = aV := rfl
  have eL : ({ aL with defers := aV.defers } : Act) = aL := by rw [← hd]
  cases r with
  | ok nx w' =>
    cases nx <;> simp only [Oper.upon] at h ⊢
    case value v => have := hn v aV.defers w' (by rw [eV]; exact h); rw [eL] at this; exact this
    case skip => have := hn undef aV.defers w' (by rw [eV]; exact h); rw [eL] at this; exact this
    case defer d => have := hn undef (d :: aV.defers) w' h; rw [hd]; exact this
    case enter f args =>
      refine Calls.mono h (fun e w'' he => ?_)
      cases e with
      | returned v => have := hn v aV.defers w'' (by rw [eV]; exact he); rw [eL] at this; exact this
      | panicked chain => exact hQ chain w'' he
      | outgrown => exact he
    case row row args =>
      refine Rows.mono h (fun v w'' he => ?_)
      have := hn v aV.defers w'' (by rw [eV]; exact he); rw [eL] at this; exact this
  | halt x w' =>
    cases x <;> simp only [Oper.upon] at h ⊢
    case panic v => exact hQ _ w' h

/-- All orders. -/
theorem any_of_E (pl : Plan ops anc quietOp nx op_) (hQ : ∀ chain (a a' : Act) w, a.defers = a'.defers → a.tmps.size = a'.tmps.size → Q (.panic chain) a w → Q (.panic chain) a' w) : ∀ (fuel : Nat) (listed : Array Bool) (n V : Nat) (pend : List Pend) (z : Nat → Value) (aL aV : Act) (w : World), listed.size = ops.size →
    Inv P ops a0 quietOp (fun i => listed.getD i false) V pend z aL aV w → wpE P ops Q anc nx op_ n V pend aV w → (listed.toList.filter (· == false)).length ≤ fuel → wpAny P .any ops Q fuel listed aL w := by
  intro fuel
  induction fuel with
  | zero =>
    intro listed n V pend z aL aV w hsz inv h hcnt
    obtain ⟨n', V', pend', z', aV', inv', h', hn'⟩ := saturate pl n V pend z aV inv h
    have hall : ∀ i, i < ops.size → listed.getD i false = true := by
      intro i hi
      cases hx : listed.getD i false with
      | true => rfl
      | false =>
        exfalso
        have hlt : i < listed.size := by omega
        have hmem : false ∈ listed.toList.filter (· == false) := by
          rw [List.mem_filter]
          refine ⟨?_, rfl⟩
          have : listed[i] = false := by simpa [hlt] using hx
          rw [← this]; simp
        have := List.length_pos_of_mem hmem
        omega
    have hready : Region.ready .any ops listed = [] := by
      apply List.eq_nil_iff_forall_not_mem.2
      intro j hj
      obtain ⟨h1, o, ho, _⟩ := mem_ready.1 hj
      have hlt : j < ops.size := (Array.getElem?_eq_some_iff.1 ho).1
      have := hall j hlt
      have hlt' : j < listed.size := by omega
      simp [hlt'] at h1 this
      rw [h1] at this; cases this
    refine ⟨hready, ?_⟩
    have hopen : op_ V' = [] := by
      apply List.eq_nil_iff_forall_not_mem.2
      intro j hj
      obtain ⟨_, h2, ⟨o, ho⟩, _⟩ := pl.open1 V' j hj
      have hlt : j < ops.size := (Array.getElem?_eq_some_iff.1 ho).1
      have := inv'.sub j (hall j hlt)
      rw [h2] at this; cases this
    simp only [wpE, hn'] at h'
    have hq := h'.1 hopen
    have : aL = aV' := by
      refine act_ext ?_ inv'.defs
      apply Array.ext_getElem?
      intro t
      refine inv'.al.agree inv'.av (fun j hj => ?_)
      have hlt : j < ops.size := by
        unfold dstOf at hj
        cases hx : ops[j]? with
        | none => rw [hx] at hj; cases hj
        | some o => exact (Array.getElem?_eq_some_iff.1 hx).1
      have h1 := hall j hlt
      rw [h1, inv'.sub j h1]
    rw [this]; exact hq
  | succ fuel ih =>
    intro listed n V pend z aL aV w hsz inv h hcnt
    obtain ⟨n', V', pend', z', aV', inv', h', hn'⟩ := saturate pl n V pend z aV inv h
    simp only [wpE, hn'] at h'
    refine ⟨?_, ?_⟩
    · intro hready
      -- nothing is ready: all is listed
      have hall : ∀ i, i < ops.size → listed.getD i false = true := by
        intro i
        induction i using Nat.strongRecOn with
        | _ i ihi =>
          intro hi
          cases hx : listed.getD i false with
          | true => rfl
          | false =>
            exfalso
            have hlt' : i < listed.size := by omega
            have hmem : i ∈ Region.ready .any ops listed := by
              refine mem_ready.2 ⟨by simpa [hlt'] using hx, ops[i], by simp [hi], ?_⟩
              intro e he hb
              have hp : Pre ops i e.on := ⟨ops[i], by simp [hi], e, he, hb, rfl⟩
              have hlt := pl.lt i e.on hp
              exact ihi e.on hlt (by omega)
            rw [hready] at hmem; cases hmem
      have hopen : op_ V' = [] := by
        apply List.eq_nil_iff_forall_not_mem.2
        intro j hj
        obtain ⟨_, h2, ⟨o, ho⟩, _⟩ := pl.open1 V' j hj
        have hlt : j < ops.size := (Array.getElem?_eq_some_iff.1 ho).1
        have := inv'.sub j (hall j hlt)
        rw [h2] at this; cases this
      have hq := h'.1 hopen
      have : aL = aV' := by
        refine act_ext ?_ inv'.defs
        apply Array.ext_getElem?
        intro t
        refine inv'.al.agree inv'.av (fun j hj => ?_)
        have hlt : j < ops.size := by
          unfold dstOf at hj
          cases hx : ops[j]? with
          | none => rw [hx] at hj; cases hj
          | some o => exact (Array.getElem?_eq_some_iff.1 hx).1
        have h1 := hall j hlt
        rw [h1, inv'.sub j h1]
      rw [this]; exact hq
    · intro i hi
      obtain ⟨h1, o, ho, hpre0⟩ := mem_ready.1 hi
      have hlt : i < ops.size := (Array.getElem?_eq_some_iff.1 ho).1
      have hiL : listed.getD i false = false := by
        have hlt' : i < listed.size := by omega
        simpa [hlt'] using h1
      have hpL : ∀ q, Pre ops i q → listed.getD q false = true := by
        rintro q ⟨o', ho', e, he, hb, rfl⟩
        rw [ho] at ho'; cases ho'
        exact hpre0 e he hb
      have hset : (fun j => (listed.setIfInBounds i true).getD j false) = with1 (fun j => listed.getD j false) i := by
        funext j
        unfold with1
        by_cases hj : j = i
        · subst hj
          have hlt' : j < listed.size := by omega
          simp [hlt']
        · rw [getD_set_ne false (fun he => hj he.symm)]
          simp [hj]
      have hcnt' : ((listed.setIfInBounds i true).toList.filter (· == false)).length ≤ fuel := by
        have hlt' : i < listed.size := by omega
        have := filter_set listed.toList i (by simpa using hlt') (by simpa [hlt'] using hiL)
        rw [Array.toList_setIfInBounds]
        omega
      unfold wpOp
      simp only [ho]
      cases hiV : inV V' i with
      | true =>
        obtain ⟨hq, o', Sq, aq, g2, g3, g4, g5, g6, g7, g8⟩ := inv'.late i hiV hiL
        rw [ho] at g2; cases g2
        obtain ⟨s1, s2⟩ := same_eval pl.fit inv'.al g7 inv'.dl g3 ho hiL g4 hpL g5
        have inv2 : Inv P ops a0 quietOp (fun j => (listed.setIfInBounds i true).getD j false) V' pend' z' (aL.put o.dst (z' i)) aV' w := by
          rw [hset]
          refine ⟨?_, by rw [← inv'.defs]; cases o.dst <;> rfl, inv'.dl.with1 hpL, inv'.dv, inv'.al.put pl.fit ho hiL, inv'.av, ?_⟩
          · intro j hj
            by_cases he : j = i
            · subst he; exact hiV
            · exact inv'.sub j (with1_of hj he)
          · intro q hqV hqL
            refine inv'.late q hqV ?_
            cases hx : listed.getD q false with
            | false => rfl
            | true => rw [with1_old (S := fun j => listed.getD j false) hx] at hqL; cases hqL
        have hrest := ih _ (n' + 1) V' pend' z' _ aV' w (by simp [hsz]) inv2 (by simp only [wpE, hn']; exact h') hcnt'
        rcases g8 with ⟨g9, g10, _⟩ | ⟨g9, g10⟩
        · rw [s2, g9]
          simp only [if_true]
          left
          simp only [Oper.wp, s1, g10, Oper.upon]
          exact hrest
        · rw [s2, g9]
          simp only [Bool.false_eq_true, if_false]
          rw [g10] at hrest; exact hrest
      | false =>
        have hpV : ∀ q, Pre ops i q → inV V' q = true := fun q hq => inv'.sub q (hpL q hq)
        have hmem := pl.open2 V' hn' i o ho hiV hpV
        obtain ⟨o', ho', hcase⟩ := h'.2 i hmem
        rw [ho] at ho'; cases ho'
        obtain ⟨s1, s2⟩ := same_eval pl.fit inv'.al inv'.av inv'.dl inv'.dv ho hiL hiV hpL hpV
        have hni : ∀ q, inV V' q = true → listed.getD q false = false → anc i q = false := by
          intro q _ hqL
          cases hx : anc i q with
          | false => rfl
          | true =>
            have := inv'.dl.anc' (pl.hanc i q hx) hpL
            simp only [hqL] at this
            cases this
        have step : ∀ (v : Value) (ds : List Deferred) (w' : World), Again P ops anc pend' i w' →
            Inv P ops a0 quietOp (fun j => (listed.setIfInBounds i true).getD j false) (addV V' i) pend' (zput z' i v) (Act.put { aL with defers := ds } o.dst v) (Act.put { aV' with defers := ds } o.dst v) w' := by
          intro v ds w' hag
          rw [hset]
          have al' : At ops a0 (fun i => listed.getD i false) z' { aL with defers := ds } := ⟨inv'.al.size, inv'.al.done, inv'.al.rest⟩
          have av' : At ops a0 (inV V') z' { aV' with defers := ds } := ⟨inv'.av.size, inv'.av.done, inv'.av.rest⟩
          refine ⟨?_, by cases o.dst <;> rfl, inv'.dl.with1 hpL, by rw [inV_addV]; exact inv'.dv.with1 hpV, ?_, ?_, ?_⟩
          · intro j hj
            rw [inV_addV]
            by_cases he : j = i
            · subst he; exact with1_self _ _
            · exact with1_old (inv'.sub j (with1_of hj he))
          · have := (al'.congr (zput_old z' v hiL)).put pl.fit ho hiL
            rw [zput_same] at this; exact this
          · rw [inV_addV]
            have := (av'.congr (zput_old z' v hiV)).put pl.fit ho hiV
            rw [zput_same] at this; exact this
          · intro q hqV hqL
            rw [inV_addV] at hqV ⊢
            have he : q ≠ i := by
              intro he; subst he; rw [with1_self] at hqL; cases hqL
            have hqV' := with1_of hqV he
            have hqL' : listed.getD q false = false := by
              cases hx : listed.getD q false with
              | false => rfl
              | true => rw [with1_old (S := fun j => listed.getD j false) hx] at hqL; cases hqL
            obtain ⟨g1, o', Sq, aq, g2, g3, g4, g5, g6, g7, g8⟩ := inv'.late q hqV' hqL'
            have hz : zput z' i v q = z' q := by unfold zput; rw [if_neg he]
            have hSi : Sq i = false := by
              cases hx : Sq i with
              | false => rfl
              | true => have := g6 i hx; rw [hiV] at this; cases this
            refine ⟨g1, o', Sq, aq, g2, g3, g4, g5, fun j hj => with1_old (g6 j hj), g7.congr (zput_old z' v hSi), ?_⟩
            rw [hz]
            rcases g8 with ⟨g9, g10, g11⟩ | g
            · obtain ⟨o2, k1, k2⟩ := hag _ g11 (hni q hqV' hqL')
              simp only at k1 k2
              rw [g2] at k1; cases k1
              exact .inl ⟨g9, k2, g11⟩
            · exact .inr g
        rcases hcase with ⟨g9, g10⟩ | ⟨g9, g10⟩
        · rw [s2, g9]
          simp only [if_true]
          left
          unfold Oper.wp at g10 ⊢
          rw [s1]
          refine upon_shift inv'.defs (fun chain w h => hQ chain _ _ w inv'.defs.symm (inv'.av.size.trans inv'.al.size.symm) h) ?_ g10
          intro v ds w' hk
          exact ih _ n' _ pend' _ _ _ w' (by simp [hsz]) (step v ds w' hk.1) hk.2 hcnt'
        · rw [s2, g9]
          simp only [Bool.false_eq_true, if_false]
          -- what is skipped changes nothing
          have inv2 : Inv P ops a0 quietOp (fun j => (listed.setIfInBounds i true).getD j false) (addV V' i) pend' (zput z' i undef) (aL.put o.dst undef) (aV'.put o.dst undef) w := by
            rw [hset]
            refine ⟨?_, by rw [show (aL.put o.dst undef).defers = aL.defers by cases o.dst <;> rfl, inv'.defs]; cases o.dst <;> rfl, inv'.dl.with1 hpL, by rw [inV_addV]; exact inv'.dv.with1 hpV, ?_, ?_, ?_⟩
            · intro j hj
              rw [inV_addV]
              by_cases he : j = i
              · subst he; exact with1_self _ _
              · exact with1_old (inv'.sub j (with1_of hj he))
            · have := (inv'.al.congr (zput_old z' undef hiL)).put pl.fit ho hiL
              rw [zput_same] at this; exact this
            · rw [inV_addV]
              have := (inv'.av.congr (zput_old z' undef hiV)).put pl.fit ho hiV
              rw [zput_same] at this; exact this
            · intro q hqV hqL
              rw [inV_addV] at hqV ⊢
              have he : q ≠ i := by
                intro he; subst he; rw [with1_self] at hqL; cases hqL
              have hqV' := with1_of hqV he
              have hqL' : listed.getD q false = false := by
                cases hx : listed.getD q false with
                | false => rfl
                | true => rw [with1_old (S := fun j => listed.getD j false) hx] at hqL; cases hqL
              obtain ⟨g1, o', Sq, aq, g2, g3, g4, g5, g6, g7, g8⟩ := inv'.late q hqV' hqL'
              have hz : zput z' i undef q = z' q := by unfold zput; rw [if_neg he]
              have hSi : Sq i = false := by
                cases hx : Sq i with
                | false => rfl
                | true => have := g6 i hx; rw [hiV] at this; cases this
              refine ⟨g1, o', Sq, aq, g2, g3, g4, g5, fun j hj => with1_old (g6 j hj), g7.congr (zput_old z' undef hSi), ?_⟩
              rw [hz]; exact g8
          exact ih _ n' _ pend' _ _ _ w (by simp [hsz]) inv2 g10 hcnt'

/-- A region that draws its order. -/
theorem wp_region_E (pl : Plan ops anc quietOp nx op_) (hQ : ∀ chain (a a' : Act) w, a.defers = a'.defers → a.tmps.size = a'.tmps.size → Q (.panic chain) a w → Q (.panic chain) a' w) {id n : Nat} {a : Act} {w : World} (hm : P.follows .mixedOrders = true)
    (h : wpE P ops Q anc nx op_ n 0 [] a { w with drawn := w.drawn + 1 }) : (Code.region id ops true).wp P Q a w := by
  refine wp_region_any hm ?_
  have hz : ∀ i, inV 0 i = false := fun i => by simp [inV]
  have hl : ∀ i, (Array.replicate ops.size false).getD i false = false := by
    intro i
    simp only [Array.getD_eq_getD_getElem?, Array.getElem?_replicate]
    split <;> rfl
  refine any_of_E (a0 := a) pl hQ ops.size _ n 0 [] (fun _ => undef) a a _ (by simp) ⟨?_, rfl, ?_, ?_, ?_, ?_, ?_⟩ h ?_
  · intro i hi; rw [hl] at hi; cases hi
  · intro i hi; simp only [hl] at hi; cases hi
  · intro i hi; rw [hz] at hi; cases hi
  · exact ⟨rfl, (fun j t hj => by rw [hl] at hj; cases hj), (fun _ _ => rfl)⟩
  · exact ⟨rfl, (fun j t hj => by rw [hz] at hj; cases hj), (fun _ _ => rfl)⟩
  · intro q hq; rw [hz] at hq; cases hq
  · exact Nat.le_trans (List.length_filter_le _ _) (by simp)

end
end Go.Sx

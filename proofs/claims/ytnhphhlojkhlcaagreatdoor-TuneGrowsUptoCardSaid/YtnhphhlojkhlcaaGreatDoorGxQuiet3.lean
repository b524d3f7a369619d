/- All operations that change nothing, by one function. -/
import Derived.Test.YtnhphhlojkhlcaaGreatDoorGxQuiet2
namespace Go.Sx
open Go Go.RowKit

section
variable {P : Program} {e : Env} {F : Base} {M : Lay} {h : Hs} {w : World}

theorem extractS_ok {x v : SV} {i : Nat} {vx : Value} (hv : extractS x i = some v) (hx : VR e M x vx) : ∃ z, (Instr.extract vx i).run P w = .ok z w ∧ VR e M v z := by
  unfold extractS at hv
  split at hv
  · cases hx with
    | tup _ cs hcs =>
      obtain ⟨z, h1, h2⟩ := hcs.get hv
      rw [Array.getElem?_toList] at h1
      exact ⟨z, by simp [Instr.extract, h1], h2⟩
  · cases hv

theorem lenS_ok {t : TypeId} {x v : SV} {vx : Value} {ats : Array TypeId} (hat : ats[0]? = some t) (hv : lenS P t x = some v) (hx : VR e M x vx) (ty : TypeId) :
    ∃ z, (Builtin.len_ ats ty #[vx]).run P w = .ok z w ∧ VR e M v z := by
  unfold lenS at hv
  split at hv
  · rename_i hu
    split at hv
    · rename_i l
      cases hv
      cases hx with
      | str _ hl =>
        refine ⟨_, ?_, .int .i64 (.lit l.length)⟩
        simp [Builtin.len_, hat, run_underlying hu, goInt, bytesOf_size, ev_lit]
    · cases hv
  · rename_i el hu
    split at hv
    · rename_i b off len cap sz
      cases hv
      cases hx with
      | slice _ _ _ _ _ r n c h1 h2 h3 h4 h5 h6 =>
        refine ⟨_, ?_, .int .i64 len⟩
        simp only [Builtin.len_, hat, List.getElem?_toArray, List.getElem?_cons_zero, Sem.run_bind, run_underlying hu, Result.andThen_ok, Sem.run_pure, goInt]
        rw [Int.toNat_of_nonneg h3]
    · rename_i b off len cap sz nl
      cases hv
      refine ⟨.int .i64 (len.ev e), ?_, .int .i64 len⟩
      cases hx with
      | nsome _ _ _ _ _ _ r n c h0 h1 h2 h3 h4 h5 h6 =>
        simp only [Builtin.len_, hat, List.getElem?_toArray, List.getElem?_cons_zero, Sem.run_bind, run_underlying hu, Result.andThen_ok, Sem.run_pure, goInt]
        rw [Int.toNat_of_nonneg h3]
      | nnone _ _ _ _ _ _ h0 h1 h2 =>
        simp [Builtin.len_, hat, run_underlying hu, goInt, h1]
    · cases hv
      cases hx
      refine ⟨_, ?_, .int .i64 (.lit 0)⟩
      simp [Builtin.len_, hat, run_underlying hu, goInt, ev_lit]
    · cases hv
  · rename_i n el hu
    cases hv
    refine ⟨_, ?_, .int .i64 (.lit n)⟩
    cases vx <;> simp [Builtin.len_, hat, run_underlying hu, goInt, ev_lit]
  · cases hv

theorem capS_ok {t : TypeId} {x v : SV} {vx : Value} {ats : Array TypeId} (hat : ats[0]? = some t) (hv : capS P t x = some v) (hx : VR e M x vx) (ty : TypeId) :
    ∃ z, (Builtin.cap_ ats ty #[vx]).run P w = .ok z w ∧ VR e M v z := by
  unfold capS at hv
  split at hv
  · rename_i el hu
    split at hv
    · rename_i b off len c0 sz
      cases hv
      cases hx with
      | slice _ _ _ _ _ r n c h1 h2 h3 h4 h5 h6 =>
        refine ⟨_, ?_, .int .i64 c0⟩
        simp only [Builtin.cap_, hat, List.getElem?_toArray, List.getElem?_cons_zero, Sem.run_bind, run_underlying hu, Result.andThen_ok, Sem.run_pure, goInt]
        rw [h5 _ rfl]
    · cases hv
      cases hx
      refine ⟨_, ?_, .int .i64 (.lit 0)⟩
      simp [Builtin.cap_, hat, run_underlying hu, goInt, ev_lit]
    · cases hv
  · cases hv

theorem strip_ok {q : T} {x : SV} {vx : Value} (hq : q.ev e ≠ 0) (hx : VR e M x vx) : VR e M (strip q x) vx := by
  unfold strip
  split
  · rename_i q' v
    cases hs : T.same q' q with
    | false => exact hx
    | true =>
      have := T.same_eq hs
      subst this
      cases hx with
      | «when» _ _ _ h => exact h hq
  · exact hx

theorem mergeS_ok {fs : Facts} (hf : fs.ok e) {c : T} {b : Bool} {x y v : SV} {vx vy : Value} (hc : c.ev e = bint b) (hv : mergeS fs c x y = some v) (hx : b = true → VR e M x vx) (hy : b = false → VR e M y vy) :
    VR e M v (if b then vx else vy) := by
  have key : ∀ p q : T, (T.add q (T.mul fs c (T.sub p q))).ev e = if b then p.ev e else q.ev e := by
    intro p q
    rw [add_ev, mul_ev hf, sub_ev, hc]
    cases b <;> simp [bint] <;> omega
  unfold mergeS at hv
  split at hv
  · rename_i k p
    split at hv
    · rename_i k' q
      split at hv
      · rename_i hk
        subst hk
        cases hv
        have := VR.int (e := e) (M := M) k (T.add q (T.mul fs c (T.sub p q)))
        rw [key] at this
        cases b with
        | false => have hy' := hy rfl; cases hy'; exact this
        | true => have hx' := hx rfl; cases hx'; exact this
      · cases hv
    · cases hv
  · rename_i p
    split at hv
    · rename_i q
      cases hv
      cases b with
      | false =>
        have hy' := hy rfl
        cases hy' with
        | bool _ a' ha' => exact .bool _ _ (by rw [key, ha']; rfl)
      | true =>
        have hx' := hx rfl
        cases hx' with
        | bool _ a ha => exact .bool _ _ (by rw [key, ha]; rfl)
    · cases hv
  · cases hv

theorem pickS_ok {fs : Facts} (hf : fs.ok e) {c x y v : SV} {vc vx vy : Value} (hv : pickS fs c x y = some v) (hc : VR e M c vc) (hx : VR e M x vx) (hy : VR e M y vy) :
    ∃ b, vc = .bool b ∧ VR e M v (if b then vx else vy) := by
  unfold pickS at hv
  split at hv
  · cases hc with
    | bool p b hb =>
      refine ⟨b, rfl, ?_⟩
      split at hv
      · rename_i hk
        cases hv
        have := known_ok hf hb hk
        subst this
        exact strip_ok (by rw [hb]; decide) hx
      · rename_i hk
        cases hv
        have := known_ok hf hb hk
        subst this
        exact strip_ok (by unfold T.not1; rw [addc_ev, neg_ev, hb]; decide) hy
      · refine mergeS_ok hf hb hv (fun h => ?_) (fun h => ?_)
        · subst h; exact strip_ok (by rw [hb]; decide) hx
        · subst h; exact strip_ok (by unfold T.not1; rw [addc_ev, neg_ev, hb]; decide) hy
  · cases hv

theorem convS_ok {fs : Facts} (hf : fs.ok e) {src dst : TypeId} {x v : SV} {vx : Value} (hv : convS P fs src dst x = some v) (hx : VR e M x vx) :
    ∃ z, (convert src dst vx).run P w = .ok z w ∧ VR e M v z := by
  unfold convS at hv
  split at hv
  · rename_i ds hs
    split at hv
    · rename_i k hd
      split at hv
      · rename_i k' p
        cases hv; cases hx
        refine ⟨_, ?_, .int k (wrapT fs k p)⟩
        simp only [convert, Sem.run_bind, run_underlying hs, run_underlying hd, Result.andThen_ok, Conv.intToInt, Sem.run_pure, wrapT_ev hf]
      · cases hv
    · rename_i hd
      split at hv
      · rename_i l
        cases hv
        cases hx with
        | str _ hl =>
          refine ⟨_, ?_, .str l hl⟩
          cases ds <;> simp [convert, run_underlying hs, run_underlying hd]
      · cases hv
    · cases hv
  · cases hv

theorem ifaceS_ok {t : TypeId} {x v : SV} {vx : Value} (hv : ifaceS P t x = some v) (hx : VR e M x vx) : ∃ z, (Instr.makeInterface t vx).run P w = .ok z w ∧ VR e M v z := by
  unfold ifaceS at hv
  split at hv
  · cases hv
  · rename_i d hn hu
    cases hv
    refine ⟨.iface t vx, ?_, .iface t x vx hx⟩
    simp only [Instr.makeInterface, Sem.run_bind, run_underlying hu, Result.andThen_ok]
    cases d <;> first | rfl | exact absurd rfl (hn _)
  · cases hv

theorem assertS_ok {t asserted : TypeId} {x v : SV} {ok : Bool} {vx : Value} (hv : assertS P asserted x ok = some v) (hx : VR e M x vx) :
    ∃ z, (Instr.typeAssert vx t asserted ok).run P w = .ok z w ∧ VR e M v z := by
  have htup : ∀ (z : Value) (i : TypeInfo), P.info? asserted = some i → i.zero = some z → (zeroValue asserted).run P w = .ok z w := by
    intro z i hi hz; simp [zeroValue, typeInfo, hi, hz]
  have hz : ∀ r, (match (P.info? asserted).map (·.zero) with | some (some z) => some (SV.tup [konst z, .bool (.lit 0)]) | _ => none) = some r →
      ∃ z, (zeroValue asserted).run P w = .ok z w ∧ r = .tup [konst z, .bool (.lit 0)] := by
    intro r hr
    cases hi : P.info? asserted with
    | none => rw [hi] at hr; cases hr
    | some i =>
      rw [hi] at hr
      cases hzz : i.zero with
      | none => simp [hzz] at hr
      | some z => simp [hzz] at hr; exact ⟨z, htup z i hi hzz, hr.symm⟩
  have hf : ∀ z, VR e M (.tup [konst z, .bool (.lit 0)]) (.tuple #[z, .bool false]) :=
    fun z => .tup _ _ (.cons _ _ _ _ (konst_ok z) (.cons _ _ _ _ (.bool _ false rfl) .nil))
  unfold assertS at hv
  split at hv
  · cases hv
  · rename_i d hn hu
    split at hv
    · rename_i u s
      cases hx with
      | iface _ _ y hy =>
        cases hb : Nat.beq u asserted with
        | true =>
          rw [hb] at hv; simp only [cond_true, Option.some.injEq] at hv
          have hue := Nat.eq_of_beq_eq_true hb
          cases ok with
          | true =>
            subst hv
            refine ⟨.tuple #[y, .bool true], ?_, .tup _ _ (.cons _ _ _ _ hy (.cons _ _ _ _ (.bool _ true rfl) .nil))⟩
            simp only [Instr.typeAssert, Sem.run_bind, run_underlying hu, Result.andThen_ok]
            cases d <;> first | exact absurd rfl (hn _) | simp [hue]
          | false =>
            subst hv
            refine ⟨y, ?_, hy⟩
            simp only [Instr.typeAssert, Sem.run_bind, run_underlying hu, Result.andThen_ok]
            cases d <;> first | exact absurd rfl (hn _) | simp [hue]
        | false =>
          rw [hb] at hv; simp only [cond_false] at hv
          have hue : ¬ u = asserted := fun he => by rw [Tr.beq_true he] at hb; cases hb
          cases ok with
          | false => cases hv
          | true =>
            obtain ⟨z, h1, h2⟩ := hz _ hv
            subst h2
            refine ⟨.tuple #[z, .bool false], ?_, hf z⟩
            simp only [Instr.typeAssert, Sem.run_bind, run_underlying hu, Result.andThen_ok]
            cases d <;> first | exact absurd rfl (hn _) | simp [hue, h1]
    · cases hx
      cases ok with
      | false => cases hv
      | true =>
        obtain ⟨z, h1, h2⟩ := hz _ hv
        subst h2
        refine ⟨.tuple #[z, .bool false], ?_, hf z⟩
        simp only [Instr.typeAssert, Sem.run_bind, run_underlying hu, Result.andThen_ok]
        cases d <;> first | exact absurd rfl (hn _) | simp [h1]
    · cases hv
  · cases hv

/-! ## All of them -/

variable (P)
def buildParts (ev : Operand → SV) (place : Nat → Option (Nat × Nat)) (cells : List SV) : List (Nat × Operand) → Option (List SV)
  | [] => some cells
  | (i, x) :: rest => match place i with
    | none => none
    | some (off, size) => match (ev x).cells with
      | none => none
      | some l => bif Nat.beq l.length size && Nat.ble (off + l.length) cells.length then buildParts ev place (overlayS cells off l) rest else none

def placesL : List Field → Option (List (Nat × Nat))
  | [] => some []
  | f :: fl => match sizeS P f.type with
    | some n => match placesL fl with
      | some l => some ((f.offset, n) :: l)
      | none => none
    | none => none

/-- The places of a struct's or an array's parts. -/
def placeS (t : TypeId) : Option (Nat → Option (Nat × Nat)) :=
  match P.underlying t with
  | some (.struct fl) => match placesL P fl.toList with
    | some l => some fun i => l[i]?
    | none => none
  | some (.array _ el) => match sizeS P el with
    | some n => some fun i => some (i * n, n)
    | none => none
  | _ => none

def zeroS (t : TypeId) : Option Value := match P.info? t with
  | some i => i.zero
  | none => none

def buildS (ev : Operand → SV) (t : TypeId) (parts : Array (Nat × Operand)) : Option SV :=
  match zeroS P t with
  | some z => match placeS P t with
    | some place => match buildParts ev place (z.cells.toList.map scal) parts.toList with
      | some l => some (.agg l)
      | none => none
    | none => none
  | none => none

def optS (ev : Operand → SV) : Option Operand → Option SV
  | none => none
  | some x => some (ev x)

/-- An operation that changes nothing: its value. -/
def quiet (h : Hs) (ev : Operand → SV) (o : Op) : Option SV :=
  match o with
  | .move x => some (ev x)
  | .assign x => some (ev x)
  | .pick c x y => pickS h.fs (ev c) (ev x) (ev y)
  | .build t parts => buildS P ev t parts
  | .load t a => loadS P h t (ev a)
  | .nilCheck x => nilCheckS (ev x)
  | .binOp op t x y _ => binS P h.fs op t x y (ev x) (ev y)
  | .unOp op _ x => unS h.fs op (ev x)
  | .convert s d x => convS P h.fs s d (ev x)
  | .makeInterface t x => ifaceS P t (ev x)
  | .makeFunc (.func f) first caps => some (.fn f (first.toList.map ev) (caps.toList.map ev))
  | .slice t x lo hi mx => match mx with
    | none => sliceS P h.fs t (ev x) (optS ev lo) (optS ev hi) none
    | some _ => none
  | .fieldAddr t x f => fieldAddrS P t (ev x) f
  | .field t x f => fieldS P t (ev x) f
  | .indexAddr t x i => indexAddrS P h.fs t (ev x) (ev i)
  | .index t x i => indexS P h.fs t (ev x) (ev i)
  | .typeAssert x _ a ok => assertS P a (ev x) ok
  | .extract x i => extractS (ev x) i
  | .call c => match c.callee with
    | .builtin .len => match c.args.toList with
      | [x] => match c.argTypes[0]? with
        | some t => lenS P t (ev x)
        | none => none
      | _ => none
    | .builtin .cap => match c.args.toList with
      | [x] => match c.argTypes[0]? with
        | some t => capS P t (ev x)
        | none => none
      | _ => none
    | _ => none
  | _ => none

variable {P}

theorem zeroS_ok {t : TypeId} {z : Value} (hz : zeroS P t = some z) : (zeroValue t).run P w = .ok z w := by
  unfold zeroS at hz
  cases hi : P.info? t with
  | none => rw [hi] at hz; cases hz
  | some i => rw [hi] at hz; simp only at hz; simp [zeroValue, typeInfo, hi, hz]

theorem foldl_overlay (l : List Value) : ∀ (off : Nat) (cs : Array Value), ((l.zipIdx off).foldl (fun (cs : Array Value) (x : Value × Nat) => cs.setIfInBounds x.2 x.1) cs).toList = overlay cs.toList off l := by
  induction l with
  | nil => intro off cs; rfl
  | cons v l ih => intro off cs; simp only [List.zipIdx_cons, List.foldl_cons, overlay]; rw [ih, Array.toList_setIfInBounds]

theorem foldl_zip (l : List Value) : ∀ (off i : Nat) (cs : Array Value),
    (l.zipIdx i).foldl (fun (cs : Array Value) (x : Value × Nat) => cs.setIfInBounds (off + x.2) x.1) cs = (l.zipIdx (off + i)).foldl (fun (cs : Array Value) (x : Value × Nat) => cs.setIfInBounds x.2 x.1) cs := by
  induction l with
  | nil => intro off i cs; rfl
  | cons v l ih => intro off i cs; simp only [List.zipIdx_cons, List.foldl_cons]; rw [ih]; rfl

theorem fill_ok {ev : Operand → SV} {ρ : Operand → Value} (hev : ∀ x, VR e M (ev x) (ρ x)) {place : Nat → Option (Nat × Nat)} :
    ∀ (parts : List (Nat × Operand)) (cells l : List SV) (cs : Array Value), VRs e M cells cs.toList → buildParts ev place cells parts = some l →
      ∃ cs', Instr.fill place cs (parts.map fun x => (x.1, ρ x.2)) = some cs' ∧ VRs e M l cs'.toList := by
  intro parts
  induction parts with
  | nil => intro cells l cs hc hb; cases hb; exact ⟨cs, rfl, hc⟩
  | cons p parts ih =>
    intro cells l cs hc hb
    obtain ⟨i, x⟩ := p
    simp only [buildParts] at hb
    split at hb
    · cases hb
    · rename_i off size hp
      split at hb
      · cases hb
      · rename_i xs hxs
        cases hle : (Nat.beq xs.length size && Nat.ble (off + xs.length) cells.length) with
        | false => rw [hle] at hb; cases hb
        | true =>
          rw [hle] at hb; simp only [cond_true] at hb
          simp only [Bool.and_eq_true] at hle
          have g1 := Nat.eq_of_beq_eq_true hle.1
          have g2 := Nat.le_of_ble_eq_true hle.2
          obtain ⟨h1, h2⟩ := cells_ok (hev x) hxs
          have h3 := h1.length
          have h4 := hc.length
          obtain ⟨pre', h5, h6⟩ := overlay_ok (rest := []) xs (ρ x).cells.toList cells cs.toList off h1 hc g2
          simp only [List.append_nil] at h5
          have hnew : (((ρ x).cells.toList.zipIdx off).foldl (fun (cs : Array Value) (x : Value × Nat) => cs.setIfInBounds x.2 x.1) cs).toList = pre' := by
            rw [foldl_overlay, h5]
          obtain ⟨cs', h7, h8⟩ := ih _ l _ (by rw [hnew]; exact h6) hb
          refine ⟨cs', ?_, h8⟩
          simp only [List.map_cons, Instr.fill, hp]
          rw [if_neg]
          · rw [← h7]
            congr 1
            have hfold := foldl_zip (ρ x).cells.toList off 0 cs
            simp only [Nat.add_zero] at hfold
            rw [← hfold, ← Array.foldl_toList, Array.toList_zipIdx]
          · simp only [Array.length_toList] at h3 h4
            simp
            omega

theorem placesL_ok : ∀ (fl : List Field) (l : List (Nat × Nat)), placesL P fl = some l → (fl.mapM fun f => do pure (f.offset, ← sizeOf f.type) : Sem (List (Nat × Nat))).run P w = .ok l w := by
  intro fl
  induction fl with
  | nil => intro l h; cases h; rfl
  | cons f fl ih =>
    intro l h
    simp only [placesL] at h
    split at h
    · rename_i n hn
      split at h
      · rename_i l' hl'
        cases h
        simp only [List.mapM_cons, Sem.run_bind, sizeS_ok hn, Result.andThen_ok, Sem.run_pure, ih _ hl']
      · cases h
    · cases h

theorem buildS_ok {ev : Operand → SV} {ρ : Operand → Value} (hev : ∀ x, VR e M (ev x) (ρ x)) {t : TypeId} {parts : Array (Nat × Operand)} {v : SV} (hv : buildS P ev t parts = some v) :
    ∃ z, (Instr.build t (parts.map fun (i, x) => (i, ρ x))).run P w = .ok z w ∧ VR e M v z := by
  unfold buildS at hv
  split at hv
  · rename_i z hz
    split at hv
    · rename_i place hpl
      split at hv
      · rename_i l hl
        cases hv
        obtain ⟨cs', h1, h2⟩ := fill_ok hev _ _ _ _ (scals_ok (e := e) (M := M) z.cells.toList) hl
        refine ⟨.agg cs', ?_, .agg _ _ h2⟩
        have hparts : (parts.map fun (x : Nat × Operand) => (x.1, ρ x.2)).toList = parts.toList.map fun x => (x.1, ρ x.2) := by simp
        unfold placeS at hpl
        split at hpl
        · rename_i fl hu
          split at hpl
          · rename_i pl hpl'
            simp only [Option.some.injEq] at hpl
            subst hpl
            have hm := placesL_ok (P := P) (w := w) _ _ hpl'
            have hfl : fl = fl.toList.toArray := by simp
            simp only [Instr.build, Sem.run_bind, zeroS_ok hz, Result.andThen_ok, run_underlying hu]
            rw [hfl, List.mapM_toArray, Sem.run_map, hm]
            simp only [Result.andThen_ok]
            have hpa : (fun (x : Nat) => pl.toArray[x]?) = (fun i => pl[i]?) := by funext i; simp
            rw [hpa, hparts, h1]
            rfl
          · cases hpl
        · rename_i n el hu
          split at hpl
          · rename_i sz hsz
            simp only [Option.some.injEq] at hpl
            subst hpl
            simp only [Instr.build, Sem.run_bind, zeroS_ok hz, Result.andThen_ok, run_underlying hu, sizeS_ok hsz]
            rw [hparts, h1]
            rfl
          · cases hpl
        · cases hpl
      · cases hv
    · cases hv
  · cases hv


theorem quiet_ok (H : HeapOK e F M h w) {ev : Operand → SV} {a : Act} (hev : ∀ x, VR e M (ev x) (a.eval x)) {o : Oper} {v : SV} (hv : quiet P h ev o.op = some v) :
    ∃ z, (execOp a.eval o).run P w = .ok (.value z) w ∧ VR e M v z := by
  have val : ∀ {s : Sem Value}, (∃ z, s.run P w = .ok z w ∧ VR e M v z) → ∃ z, (do pure (Next.value (← s)) : Sem Next).run P w = .ok (.value z) w ∧ VR e M v z := by
    intro s ⟨z, h1, h2⟩
    exact ⟨z, by simp only [Sem.run_bind, h1, Result.andThen_ok, Sem.run_pure], h2⟩
  obtain ⟨dst, op, ty, pos, after, guard⟩ := o
  simp only at hv
  unfold quiet at hv
  split at hv
  · rename_i x; cases hv; exact ⟨a.eval x, rfl, hev x⟩
  · rename_i x; cases hv; exact ⟨a.eval x, rfl, hev x⟩
  · rename_i c x y
    obtain ⟨b, h1, h2⟩ := pickS_ok H.fact hv (hev c) (hev x) (hev y)
    refine ⟨_, ?_, h2⟩
    simp only [execOp, h1, asBool, Sem.run_bind, Sem.run_pure, Result.andThen_ok]
  · rename_i t parts; exact val (buildS_ok hev hv)
  · rename_i t x; exact val (loadS_ok H hv (hev x))
  · rename_i x
    have hx := hev x
    generalize hs : ev x = sx at hx hv
    generalize hy : a.eval x = y at hx
    have hrun : ∀ q : Value, (match q with | .pointer none => False | .nilIface => False | .nilFunc => False | .func (.method _) _ _ => False | _ => True) → a.eval x = q →
        (execOp a.eval { dst := dst, op := Op.nilCheck x, type := ty, pos := pos, after := after, guard := guard }).run P w = .ok (.value q) w := by
      intro q hq he
      simp only [execOp, he]
      split at hq
      all_goals first | exact hq.elim | skip
      rename_i h1 h2 h3 h4
      cases q <;> first
        | rfl
        | exact absurd rfl h2
        | exact absurd rfl h3
        | (rename_i po; cases po <;> first | exact absurd rfl h1 | rfl)
        | (rename_i fn fi ca; cases fn <;> first | exact absurd rfl (h4 _ _ _) | rfl)
    unfold nilCheckS at hv
    split at hv
    · cases hv
      refine ⟨y, ?_, hx⟩
      cases hx with
      | ptr _ _ r n h1 h2 => exact hrun _ trivial hy
    · cases hv
      refine ⟨y, ?_, hx⟩
      cases hx with
      | fn _ _ _ u z h1 h2 => exact hrun _ trivial hy
    · cases hv
      refine ⟨y, ?_, hx⟩
      cases hx with
      | slice _ _ _ _ _ r n c h1 h2 h3 h4 h5 h6 => exact hrun _ trivial hy
    · cases hv
  · rename_i bop t x y yt; exact val (binS_ok H.fact hv (hev x) (hev y))
  · rename_i uop t x; exact val (unS_ok H.fact hv (hev x) P w)
  · rename_i s d x; exact val (convS_ok H.fact hv (hev x))
  · rename_i t x; exact val (ifaceS_ok hv (hev x))
  · rename_i f first caps
    cases hv
    refine ⟨.func (.func f) (first.map a.eval) (caps.map a.eval), rfl, ?_⟩
    have hl : ∀ l : List Operand, VRs e M (l.map ev) (l.map a.eval) := by
      intro l
      induction l with
      | nil => exact .nil
      | cons x l ih => exact .cons _ _ _ _ (hev x) ih
    exact .fn f _ _ _ _ (by simpa using hl first.toList) (by simpa using hl caps.toList)
  · rename_i t x lo hi mx
    split at hv
    · have ho : ∀ y : Option Operand, (∀ s, optS ev y = some s → ∃ v, y.map a.eval = some v ∧ VR e M s v) ∧ (optS ev y = none → y.map a.eval = none) := by
        intro y
        cases y with
        | none => exact ⟨(fun s hs => by cases hs), (fun _ => rfl)⟩
        | some y => exact ⟨(fun s hs => by cases hs; exact ⟨_, rfl, hev y⟩), (fun hn => by cases hn)⟩
      exact val (sliceS_ok H.fact hv (hev x) (ho lo).1 (ho lo).2 (ho hi).1 (ho hi).2)
    · cases hv
  · rename_i t x f; exact val (fieldAddrS_ok hv (hev x))
  · rename_i t x f; exact val (fieldS_ok hv (hev x))
  · rename_i t x i; exact val (indexAddrS_ok H.fact hv (hev x) (hev i))
  · rename_i t x i; exact val (indexS_ok H.fact hv (hev x) (hev i))
  · rename_i x xt as ok; exact val (assertS_ok hv (hev x))
  · rename_i x i; exact val (extractS_ok hv (hev x))
  · rename_i c
    split at hv
    · rename_i hc
      split at hv
      · rename_i x hx
        split at hv
        · rename_i t hat
          obtain ⟨z, h1, h2⟩ := lenS_ok (P := P) (w := w) hat hv (hev x) ty
          refine ⟨z, ?_, h2⟩
          have hargs : c.args = #[x] := by
            apply Array.ext'; simpa using hx
          simp only [execOp, resolve, hc, hargs, Sem.run_bind, Sem.run_pure, Result.andThen_ok, invoke, builtin, List.map_toArray, List.map_cons, List.map_nil, h1]
        · cases hv
      · cases hv
    · rename_i hc
      split at hv
      · rename_i x hx
        split at hv
        · rename_i t hat
          obtain ⟨z, h1, h2⟩ := capS_ok (P := P) (w := w) hat hv (hev x) ty
          refine ⟨z, ?_, h2⟩
          have hargs : c.args = #[x] := by
            apply Array.ext'; simpa using hx
          simp only [execOp, resolve, hc, hargs, Sem.run_bind, Sem.run_pure, Result.andThen_ok, invoke, builtin, List.map_toArray, List.map_cons, List.map_nil, h1]
        · cases hv
      · cases hv
    · cases hv
  · cases hv

end
end Go.Sx

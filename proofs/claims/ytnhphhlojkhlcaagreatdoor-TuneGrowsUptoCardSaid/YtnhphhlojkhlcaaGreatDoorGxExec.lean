/- Symbolic execution of code, and that it is right. -/
import Derived.Test.YtnhphhlojkhlcaaGreatDoorGxConv
import Derived.Test.YtnhphhlojkhlcaaGreatDoorGxPlan
namespace Go.Sx
open Go Go.RowKit

/-- A frame and the memory. -/
structure St where
  tm : Tr SV
  nt : Nat
  h : Hs
  ds : List (Nat × List SV)

inductive X where
  | normal | exit (id : Nat) | goto (l : Nat) | ret | panic (v : SV)
inductive FR where
  | ret (v : SV) | pan (v : SV)

/-- How calls are answered. -/
abbrev CF := FuncId → List SV → Hs → (FR → Hs → V) → V

/-- What a loop does to a row of numbers. -/
inductive LRow where
  | copy (dst src : Tmp)
  | mem (dst by_ : Tmp)
  | puts (dst cells : Tmp)

/-- How many rounds. -/
inductive LBound where
  | len (t : Tmp) (plus : Nat)
  | lit (n : Nat)

/-- A loop that counts: the variable that stands for the number, the slot that counts, how many rounds, which slots are needed, what becomes of rows. -/
structure LSpec where
  var : Nat
  cnt : Tmp
  bound : LBound
  keep : List Tmp
  rows : List LRow

/-- Calls, what functions without a body answer, and which loops count. -/
structure CE where
  call : CF
  ext : FuncId → List SV → Option SV
  lp : Nat → Option LSpec

/-- Are tests looked at shortly? -/
def CE.sh (cf : CE) : Bool := (cf.lp 1000000).isSome

def St.put (s : St) (d : Option Tmp) (v : SV) (k : St → V) : V :=
  match s with
  | ⟨tm, nt, h, ds⟩ => match d with
    | none => k ⟨tm, nt, h, ds⟩
    | some t => bif Nat.blt t nt then k ⟨tm.set (some v) t, nt, h, ds⟩ else .bad 40 []

/-- Another memory. -/
def St.setH (s : St) (h : Hs) : St := match s with
  | ⟨tm, nt, _, ds⟩ => ⟨tm, nt, h, ds⟩
theorem St.setH_def (s : St) (h : Hs) : s.setH h = { s with h := h } := rfl

/-- Another frame. -/
def St.setT (s : St) (tm : Tr SV) : St := match s with
  | ⟨_, nt, h, ds⟩ => ⟨tm, nt, h, ds⟩

theorem St.put_def (s : St) (d : Option Tmp) (v : SV) (k : St → V) : St.put s d v k = match d with
    | none => k s
    | some t => bif Nat.blt t s.nt then k { s with tm := s.tm.set (some v) t } else .bad 40 [] := by
  cases s; cases d <;> rfl

/-- Does a call of a function enter its body? -/
def enters (P : Program) (f : FuncId) : Bool := match P.funcs[f]? with
  | some fn => !(fn.name == "runtime.NumGoroutine") && fn.body.isSome
  | none => false

section
variable (P : Program) (cf : CE)

/-- Which kind of operation: for those that look. -/
def opTag : Op → Nat
  | .move _ => 1 | .assign _ => 2 | .pick .. => 3 | .build .. => 4 | .load .. => 5 | .nilCheck .. => 6 | .binOp .. => 7 | .unOp .. => 8 | .convert .. => 9 | .makeInterface .. => 10
  | .makeFunc .. => 11 | .slice .. => 12 | .fieldAddr .. => 13 | .field .. => 14 | .indexAddr .. => 15 | .index .. => 16 | .typeAssert .. => 17 | .extract .. => 18 | .call .. => 19
  | .ready .. => 20 | .waits .. => 21 | .sliceToArrayPointer .. => 22 | .mapEntry .. => 23 | .entryStore .. => 24 | .insert .. => 25 | .entry .. => 26
  | _ => 0

def opX (o : Oper) (s : St) (k : St → V) (kp : SV → St → V) : V :=
  match o.op with
  | .alloc t => allocS P s.h t fun v h => St.put (s.setH h) o.dst v k
  | .box t x => boxS s.h t (evS s.h s.tm x) fun v h => St.put (s.setH h) o.dst v k
  | .buildSlice t n parts => litSliceS P s.h (evS s.h s.tm) t n parts fun v h => St.put (s.setH h) o.dst v k
  | .store t a x => storeS P s.h t (evS s.h s.tm a) (evS s.h s.tm x) fun v h => St.put (s.setH h) o.dst v k
  | .convert src dst x => match evS s.h s.tm x, isBytes P dst with
    | .str l, some el => strBytesS P s.h src el l fun v h => St.put (s.setH h) o.dst v k
    | .slice b off len cap sz, some _ => bif Nat.beq src dst then markS s.h (.slice b off len cap sz) fun v h => St.put (s.setH h) o.dst v k else .bad 4610 []
    | v, _ => match quiet P s.h (evS s.h s.tm) o.op with
      | some v => St.put s o.dst v k
      | none => .bad 4609 [v]
  | .range t x => rangeS P s.h t (evS s.h s.tm x) fun v h => St.put (s.setH h) o.dst v k
  | .next x b => nextS s.h (evS s.h s.tm x) b fun v h => St.put (s.setH h) o.dst v k
  | .makeMap _ r => makeMapS s.h r fun v h => St.put (s.setH h) o.dst v k
  | .makeSlice t l c => makeSliceS P s.h t (evS s.h s.tm l) (evS s.h s.tm c) fun v h => St.put (s.setH h) o.dst v k
  | .lookup t x i ok => lookupS P s.h t (evS s.h s.tm x) (evS s.h s.tm i) ok fun v h => St.put (s.setH h) o.dst v k
  | .mapUpdate t m i x => mapUpdateS P s.h t (evS s.h s.tm m) (evS s.h s.tm i) (evS s.h s.tm x) fun v h => St.put (s.setH h) o.dst v k
  | .panic x => match evS s.h s.tm x with
    | .iface t v => kp (.iface t v) s
    | v => .bad 41 [v]
  | .call c => match c.callee with
    | .value f => match evS s.h s.tm f with
      | .fn g first caps => bif enters P g then cf.call g (first ++ c.args.toList.map (evS s.h s.tm) ++ caps) s.h (fun r h => match r with
          | .ret v => St.put (s.setH h) o.dst v k
          | .pan v => kp v (s.setH h)) else match cf.ext g (first ++ c.args.toList.map (evS s.h s.tm) ++ caps) with
          | some v => St.put s o.dst v k
          | none => .bad 42 [.fn g (first ++ c.args.toList.map (evS s.h s.tm) ++ caps) []]
      | v => .bad 43 [v]
    | .builtin .append => match c.args.toList, c.argTypes[0]?, c.argTypes[1]? with
      | [x, y], some tx, some ty => appendS P s.h tx ty (evS s.h s.tm x) (evS s.h s.tm y) fun v h => St.put (s.setH h) o.dst v k
      | _, _, _ => .bad 44 []
    | _ => match quiet P s.h (evS s.h s.tm) o.op with
      | some v => St.put s o.dst v k
      | none => .bad 45 (c.args.toList.map (evS s.h s.tm))
  | .defer c => match c.callee with
    | .value f => match evS s.h s.tm f with
      | .fn g first caps => St.put { s with ds := (g, first ++ c.args.toList.map (evS s.h s.tm) ++ caps) :: s.ds } o.dst .junk k
      | v => .bad 49 [v]
    | _ => .bad 49 []
  | op => match quiet P s.h (evS s.h s.tm) op with
    | some v => St.put s o.dst v k
    | none => .bad (4600 + opTag op) (op.operands.toList.map (evS s.h s.tm))

def guardX (sh : Bool) (ops : Array Oper) (o : Oper) (s : St) (k1 k0 : St → V) : V :=
  match o.guard with
  | none => k1 s
  | some (j, want) => match dstOf ops j with
    | none => .bad 47 []
    | some t => match s.tm.get t with
      | some (.bool p) => match knownX sh s.h.fs p with
        | some b => bif b == want then k1 s else k0 s
        | none => V.and (match assume p want s.h.fs with
          | none => V.ok
          | some fs => k1 (s.setH { s.h with fs := fs })) (match assume p (!want) s.h.fs with
          | none => V.ok
          | some fs => k0 (s.setH { s.h with fs := fs }))
      | some (.tup []) => k0 s
      | _ => .bad 48 []

/-- Do all guards hang on operations without one? -/
def flatG (ops : Array Oper) : Bool := ops.toList.all fun o => match o.guard with
  | some (j, _) => (match ops[j]? with
    | some g => g.guard.isNone
    | none => false)
  | none => true

/-- A guarded operation that changes nothing, where it is not known whether it is carried out: its value under the test. -/
def condV (sh : Bool) (ops : Array Oper) (o : Oper) (s : St) : Option SV :=
  match o.guard with
  | none => none
  | some (j, want) => match dstOf ops j with
    | none => none
    | some t => match s.tm.get t with
      | some (.bool p) => bif flatG ops then (match knownX sh s.h.fs p with
        | some _ => none
        | none => match assume p want s.h.fs with
          | none => none
          | some fs => match quiet P { s.h with fs := fs } (fun x => strip (bif want then p else T.not1 p) (evS s.h s.tm x)) o.op with
            | some v => some (.when (bif want then p else T.not1 p) v)
            | none => none) else none
      | _ => none

def regN (ops : Array Oper) : List Oper → St → (St → V) → (SV → St → V) → V
  | [], s, k, _ => k s
  | o :: l, s, k, kp => match condV P cf.sh ops o s with
    | some v => St.put s o.dst v (fun s => regN ops l s k kp)
    | none => guardX cf.sh ops o s (fun s => opX P cf o s (fun s => regN ops l s k kp) kp) (fun s => St.put s o.dst (.tup []) (fun s => regN ops l s k kp))

variable {P cf} {e : Env} {F : Base} {M : Lay} {w : World} {D : List Deferred}

/-- Calls that are put off. -/
inductive DefR (e : Env) (M : Lay) : List (Nat × List SV) → List Deferred → Prop where
  | nil : DefR e M [] []
  | cons (f : Nat) (l : List SV) (xs xc : Array Value) (r : List (Nat × List SV)) (ds : List Deferred) : VRs e M l (xs ++ xc).toList → DefR e M r ds → DefR e M ((f, l) :: r) ({ target := .fn (.func f) xc, args := xs } :: ds)

theorem DefR.mono {e : Env} {M M' : Lay} (hM : M.le M') {l : List (Nat × List SV)} {r : List Deferred} (h : DefR e M l r) : DefR e M' l r := by
  induction h with
  | nil => exact .nil
  | cons f l xs xc r ds h1 _ ih => exact .cons f l xs xc r ds (VRs.mono hM h1) ih

structure StOK (e : Env) (F : Base) (M : Lay) (D : List Deferred) (s : St) (a : Act) (w : World) : Prop where
  tm : TmOK e M s.tm a.tmps
  nt : a.tmps.size = s.nt
  heap : HeapOK e F M s.h w
  defs : DefR e M s.ds a.defers

inductive FRel (e : Env) (M : Lay) : FR → Ending → Prop where
  | ret (v : SV) (x : Value) : VR e M v x → FRel e M (.ret v) (.returned x)
  | pan (v : SV) (x : Value) : VR e M v x → FRel e M (.pan v) (.panicked [{ v := x, recovered := false }])

/-- How calls are answered is right. -/
def CallOK (P : Program) (e : Env) (F : Base) (cf : CF) : Prop :=
  ∀ (M : Lay) (h : Hs) (w : World) (f : FuncId) (args : List SV) (vs : Array Value) (k : FR → Hs → V), cf f args h k = .ok → HeapOK e F M h w → VRs e M args vs.toList →
    Calls P f vs w fun en w' => ∃ M' h' r, M.le M' ∧ HeapOK e F M' h' w' ∧ FRel e M' r en ∧ k r h' = .ok

/-- What is answered without a body is right. -/
def ExtOK (P : Program) (e : Env) (ext : FuncId → List SV → Option SV) : Prop :=
  ∀ (M : Lay) (f : FuncId) (args : List SV) (vs : Array Value) (v : SV) (w : World), ext f args = some v → VRs e M args vs.toList → ∃ x, (callFunc f vs).run P w = .ok (.value x) w ∧ VR e M v x

structure CEOK (P : Program) (e : Env) (F : Base) (cf : CE) : Prop where
  call : CallOK P e F cf.call
  ext : ExtOK P e cf.ext

theorem put_ok {s : St} {a : Act} {d : Option Tmp} {v : SV} {x : Value} {k : St → V} (hk : St.put s d v k = .ok) (hs : StOK e F M D s a w) (hv : VR e M v x) :
    ∃ s', StOK e F M D s' (a.put d x) w ∧ k s' = .ok := by
  rw [St.put_def] at hk
  cases d with
  | none => exact ⟨s, hs, hk⟩
  | some t =>
    simp only at hk
    cases hb : Nat.blt t s.nt with
    | false => rw [hb] at hk; cases hk
    | true =>
      rw [hb] at hk; simp only [cond_true] at hk
      have hlt : t < s.nt := by simpa [Nat.blt_eq] using hb
      exact ⟨{ s with tm := s.tm.set (some v) t }, ⟨hs.tm.set (by rw [hs.nt]; exact hlt) hv, by simp [Act.put, hs.nt], hs.heap, hs.defs⟩, hk⟩

/-- Another memory under a frame. -/
theorem StOK.heap' {s : St} {a : Act} (hs : StOK e F M D s a w) {M' : Lay} {h : Hs} {w' : World} (hM : M.le M') (H : HeapOK e F M' h w') : StOK e F M' D { s with h := h } a w' :=
  ⟨hs.tm.mono hM, hs.nt, H, hs.defs.mono hM⟩

theorem StOK.facts {s : St} {a : Act} (hs : StOK e F M D s a w) {fs : Facts} (hf : fs.ok e) : StOK e F M D { s with h := { s.h with fs := fs } } a w :=
  ⟨hs.tm, hs.nt, hs.heap.facts hf, hs.defs⟩

theorem ev_ok {s : St} {a : Act} (hs : StOK e F M D s a w) (x : Operand) : VR e M (evS s.h s.tm x) (a.eval x) := evS_ok hs.heap hs.tm x

theorem evs_ok {s : St} {a : Act} (hs : StOK e F M D s a w) (l : List Operand) : VRs e M (l.map (evS s.h s.tm)) (l.map a.eval) := by
  induction l with
  | nil => exact .nil
  | cons x l ih => exact .cons _ _ _ _ (ev_ok hs x) ih

theorem enters_ok {f : FuncId} (h : enters P f = true) (args : Array Value) : (callFunc f args).run P w = .ok (.enter f args) w := by
  unfold enters at h
  split at h
  · rename_i fn hf
    simp only [Bool.and_eq_true, Bool.not_eq_true', Option.isSome_iff_exists] at h
    obtain ⟨h1, c, h2⟩ := h
    have h3 : ¬ fn.name = "runtime.NumGoroutine" := by simpa using h1
    simp [callFunc, hf, h3, h2]
  · cases h

/-- What an operation needs to come to. -/
theorem opX_ok {o : Oper} {s : St} {a : Act} {k : St → V} {kp : SV → St → V} {Q : Exit → Act → World → Prop} (hcf : CEOK P e F cf) (hk : opX P cf o s k kp = .ok) (hs : StOK e F M D s a w)
    (hQ : ∀ M' s' x v w', M.le M' → StOK e F M' D s' a w' → VR e M' v x → kp v s' = .ok → Q (.panic [{ v := x, recovered := false }]) a w') :
    o.wp P a w (fun a' w' => ∃ M' s', M.le M' ∧ StOK e F M' D s' a' w' ∧ k s' = .ok) Q := by
  -- a value, whatever becomes of the memory
  have post : ∀ {r : Result Value} {n : Result Next}, Post e F M (fun v h => St.put (s.setH h) o.dst v k) r → (∀ z w', r = .ok z w' → n = .ok (.value z) w') →
      o.upon P a (fun a' w' => ∃ M' s', M.le M' ∧ StOK e F M' D s' a' w' ∧ k s' = .ok) Q n := by
    intro r n ⟨z, w', M', h', v, h1, h2, h3, h4, h5⟩ hn
    rw [hn z w' h1]
    simp only [Oper.upon]
    obtain ⟨s', g1, g2⟩ := put_ok h5 (hs.heap' h2 h3) h4
    exact ⟨M', s', h2, g1, g2⟩
  have quietly : ∀ {v : SV}, quiet P s.h (evS s.h s.tm) o.op = some v → St.put s o.dst v k = .ok → o.wp P a w (fun a' w' => ∃ M' s', M.le M' ∧ StOK e F M' D s' a' w' ∧ k s' = .ok) Q := by
    intro v hv hp
    obtain ⟨z, h1, h2⟩ := quiet_ok (P := P) hs.heap (ev_ok hs) (o := o) hv
    unfold Oper.wp
    rw [h1]
    simp only [Oper.upon]
    obtain ⟨s', g1, g2⟩ := put_ok hp hs h2
    exact ⟨M, s', M.le_refl, g1, g2⟩
  unfold opX at hk
  split at hk
  · rename_i t hop
    refine post (allocS_ok (P := P) hs.heap hk) (fun z w' hr => ?_)
    simp [execOp, hop, hr]
  · rename_i t x hop
    refine post (boxS_ok (P := P) hs.heap hk (ev_ok hs x)) (fun z w' hr => ?_)
    simp [execOp, hop, hr]
  · rename_i t n parts hop
    refine post (litSliceS_ok (P := P) hs.heap (ev_ok hs) hk) (fun z w' hr => ?_)
    simp only [execOp, hop, Sem.run_bind, hr, Result.andThen_ok, Sem.run_pure]
  · rename_i t x y hop
    obtain ⟨w', M', h', v, h1, h2, h3, h4, h5⟩ := storeS_ok (P := P) hs.heap hk (ev_ok hs x) (ev_ok hs y)
    unfold Oper.wp
    have : (execOp a.eval o).run P w = .ok .skip w' := by simp only [execOp, hop, Sem.run_bind, h1, Result.andThen_ok, Sem.run_pure]
    rw [this]
    simp only [Oper.upon]
    obtain ⟨s', g1, g2⟩ := put_ok h5 (hs.heap' h2 h3) h4
    exact ⟨M', s', h2, g1, g2⟩
  · rename_i src dst x hop
    have hx := ev_ok hs x
    split at hk
    · rename_i l el hxe hb
      rw [hxe] at hx
      generalize hy : a.eval x = y at hx
      cases hx with
      | str _ hl => exact post (strBytesS_ok (P := P) hs.heap hb hk hl) (fun z w' hr => by simp [execOp, hop, hy, hr])
    · rename_i b off len cap sz el hxe hb
      cases hsd : Nat.beq src dst with
      | false => rw [hsd] at hk; cases hk
      | true =>
        rw [hsd] at hk; simp only [cond_true] at hk
        have hsd' := Nat.eq_of_beq_eq_true hsd
        subst hsd'
        rw [hxe] at hx
        exact post (markS_ok (P := P) hs.heap hb hk hx) (fun z w' hr => by simp [execOp, hop, hr])
    · split at hk
      · rename_i v hv; exact quietly hv hk
      · cases hk
  · rename_i t x hop
    exact post (rangeS_ok (P := P) hs.heap hk (ev_ok hs x)) (fun z w' hr => by simp [execOp, hop, hr])
  · rename_i x b hop
    exact post (nextS_ok (P := P) (t := o.type) hs.heap hk (ev_ok hs x)) (fun z w' hr => by simp [execOp, hop, hr])
  · rename_i t r hop
    exact post (makeMapS_ok (P := P) (t := t) hs.heap hk a.eval) (fun z w' hr => by simp [execOp, hop, hr])
  · rename_i t l c hop
    exact post (makeSliceS_ok (P := P) hs.heap hk (ev_ok hs l) (ev_ok hs c)) (fun z w' hr => by simp [execOp, hop, hr])
  · rename_i t x i ok hop
    exact post (lookupS_ok (P := P) hs.heap hk (ev_ok hs x) (ev_ok hs i)) (fun z w' hr => by simp [execOp, hop, hr])
  · rename_i t m i x hop
    obtain ⟨w', M', h', v, h1, h2, h3, h4, h5⟩ := mapUpdateS_ok (P := P) hs.heap hk (ev_ok hs m) (ev_ok hs i) (ev_ok hs x)
    unfold Oper.wp
    have : (execOp a.eval o).run P w = .ok .skip w' := by simp only [execOp, hop, Sem.run_bind, h1, Result.andThen_ok, Sem.run_pure]
    rw [this]
    simp only [Oper.upon]
    obtain ⟨s', g1, g2⟩ := put_ok h5 (hs.heap' h2 h3) h4
    exact ⟨M', s', h2, g1, g2⟩
  · rename_i x hop
    have hx := ev_ok hs x
    split at hk
    · rename_i t v hxe
      rw [hxe] at hx
      generalize hy : a.eval x = y at hx
      cases hx with
      | iface _ _ z hz =>
        unfold Oper.wp
        have : (execOp a.eval o).run P w = .halt (.panic (.iface t z)) w := by
          simp only [execOp, hop, hy, Instr.panic, Sem.run_bind, run_goPanic, Result.andThen_halt]
        rw [this]
        simp only [Oper.upon]
        exact hQ M s _ _ w M.le_refl hs (.iface t v z hz) hk
    · cases hk
  · rename_i c hop
    split at hk
    · rename_i f hc
      split at hk
      · rename_i g first caps hfe
        have hf := ev_ok hs f
        rw [hfe] at hf
        generalize hy : a.eval f = y at hf
        cases hf with
        | fn _ _ _ xf xc h1 h2 =>
          have hargs : VRs e M (first ++ c.args.toList.map (evS s.h s.tm) ++ caps) (xf ++ c.args.map a.eval ++ xc).toList := by
            simp only [Array.toList_append, Array.toList_map]
            exact (h1.append (evs_ok hs c.args.toList)).append h2
          cases hen : enters P g with
          | false =>
            rw [hen] at hk; simp only [cond_false] at hk
            split at hk
            · rename_i v hv
              obtain ⟨z, g1, g2⟩ := hcf.ext M g _ _ v w hv hargs
              unfold Oper.wp
              have : (execOp a.eval o).run P w = .ok (.value z) w := by
                simp only [execOp, hop, resolve, hc, hy, Deferred.ofValue, Sem.run_bind, Sem.run_pure, Result.andThen_ok, invoke]
                exact g1
              rw [this]
              simp only [Oper.upon]
              obtain ⟨s', k1, k2⟩ := put_ok hk hs g2
              exact ⟨M, s', M.le_refl, k1, k2⟩
            · cases hk
          | true =>
            rw [hen] at hk; simp only [cond_true] at hk
            unfold Oper.wp
            have : (execOp a.eval o).run P w = .ok (.enter g (xf ++ c.args.map a.eval ++ xc)) w := by
              simp only [execOp, hop, resolve, hc, hy, Deferred.ofValue, Sem.run_bind, Sem.run_pure, Result.andThen_ok, invoke]
              exact enters_ok hen _
            rw [this]
            simp only [Oper.upon]
            refine Calls.mono (hcf.call M s.h w g _ _ _ hk hs.heap hargs) (fun en w' hen' => ?_)
            obtain ⟨M', h', r, g1, g2, g3, g4⟩ := hen'
            cases g3 with
            | ret v x hv =>
              obtain ⟨s', k1, k2⟩ := put_ok g4 (hs.heap' g1 g2) hv
              exact ⟨M', s', g1, k1, k2⟩
            | pan v x hv => exact hQ M' _ x v w' g1 (hs.heap' g1 g2) hv g4
      · cases hk
    · rename_i hc
      split at hk
      · rename_i x y tx ty hargs h0 h1
        have hargs' : c.args = #[x, y] := by apply Array.ext'; simpa using hargs
        refine post (appendS_ok (P := P) (ty := o.type) hs.heap h0 h1 hk (ev_ok hs x) (ev_ok hs y)) (fun z w' hr => ?_)
        simp only [execOp, hop, resolve, hc, hargs', Sem.run_bind, Sem.run_pure, Result.andThen_ok, invoke, builtin, List.map_toArray, List.map_cons, List.map_nil, hr]
      · cases hk
    · split at hk
      · rename_i v hv; exact quietly hv hk
      · cases hk
  · rename_i c hop
    split at hk
    · rename_i f hc
      split at hk
      · rename_i g first caps hfe
        have hf := ev_ok hs f
        rw [hfe] at hf
        generalize hy : a.eval f = y at hf
        cases hf with
        | fn _ _ _ xf xc h1 h2 =>
          unfold Oper.wp
          have : (execOp a.eval o).run P w = .ok (.defer { target := .fn (.func g) xc, args := xf ++ c.args.map a.eval }) w := by
            simp only [execOp, hop, resolve, hc, hy, Deferred.ofValue, Sem.run_bind, Sem.run_pure, Result.andThen_ok]
          rw [this]
          simp only [Oper.upon]
          have hput : ∃ a1 : Act, a1 = { a with defers := { target := .fn (.func g) xc, args := xf ++ c.args.map a.eval } :: a.defers } := ⟨_, rfl⟩
          obtain ⟨a1, ha1⟩ := hput
          have hs1 : StOK e F M D { s with ds := (g, first ++ c.args.toList.map (evS s.h s.tm) ++ caps) :: s.ds } a1 w := by
            subst ha1
            refine ⟨hs.tm, hs.nt, hs.heap, .cons _ _ _ _ _ _ ?_ hs.defs⟩
            simp only [Array.toList_append, Array.toList_map]
            exact (h1.append (evs_ok hs c.args.toList)).append h2
          subst ha1
          obtain ⟨s', k1, k2⟩ := put_ok hk hs1 (.junk undef)
          exact ⟨M, s', M.le_refl, k1, k2⟩
      · cases hk
    · cases hk
  · split at hk
    · rename_i v hv; exact quietly hv hk
    · cases hk

theorem guardX_ok {sh : Bool} {ops : Array Oper} {o : Oper} {s : St} {a : Act} {k1 k0 : St → V} (hk : guardX sh ops o s k1 k0 = .ok) (hs : StOK e F M D s a w) :
    (Region.wanted o (yielded ops a.tmps) = true ∧ ∃ s', s'.tm = s.tm ∧ StOK e F M D s' a w ∧ k1 s' = .ok) ∨ (Region.wanted o (yielded ops a.tmps) = false ∧ ∃ s', s'.tm = s.tm ∧ StOK e F M D s' a w ∧ k0 s' = .ok) := by
  unfold guardX at hk
  unfold Region.wanted
  split at hk
  · rename_i hg; rw [hg]; exact .inl ⟨rfl, s, rfl, hs, hk⟩
  · rename_i j want hg
    rw [hg]
    split at hk
    · cases hk
    · rename_i t ht
      split at hk
      · rename_i p hp
        obtain ⟨x, hx1, hx2⟩ := hs.tm t _ hp
        cases hx2 with
        | bool _ b hb =>
          have hy : yielded ops a.tmps j = some b := by
            unfold yielded
            unfold dstOf at ht
            rw [ht]; simp [hx1]
          simp only [hy]
          split at hk
          · rename_i b' hkn
            have := knownX_ok hs.heap.fact hb hkn
            subst this
            by_cases hw : b = want
            · subst hw
              left
              simp only [beq_self_eq_true, cond_true] at hk ⊢
              exact ⟨trivial, s, rfl, hs, hk⟩
            · right
              have h1 : (b == want) = false := by simpa using hw
              rw [h1] at hk; simp only [cond_false] at hk
              exact ⟨by simpa using hw, s, rfl, hs, hk⟩
          · obtain ⟨h1, h0⟩ := V.and_ok hk
            by_cases hw : b = want
            · subst hw
              obtain ⟨fs', g1, g2⟩ := assume_ok hs.heap.fact hb
              rw [g1] at h1
              exact .inl ⟨by simp, { s with h := { s.h with fs := fs' } }, rfl, hs.facts g2, h1⟩
            · have hb' : b = !want := by cases b <;> cases want <;> simp_all
              rw [hb'] at hb
              obtain ⟨fs', g1, g2⟩ := assume_ok hs.heap.fact hb
              rw [g1] at h0
              exact .inr ⟨by simpa using hw, { s with h := { s.h with fs := fs' } }, rfl, hs.facts g2, h0⟩
      · rename_i hp
        obtain ⟨x, hx1, hx2⟩ := hs.tm t _ hp
        cases hx2 with
        | tup _ y hy =>
          have hy : yielded ops a.tmps j = none := by
            unfold yielded
            unfold dstOf at ht
            rw [ht]; simp [hx1]
          simp only [hy]
          exact .inr ⟨by simp, s, rfl, hs, hk⟩
      · cases hk

theorem condV_ok {sh : Bool} {ops : Array Oper} {o : Oper} {s : St} {a : Act} {v : SV} (hv : condV P sh ops o s = some v) (hs : StOK e F M D s a w) :
    (Region.wanted o (yielded ops a.tmps) = true ∧ ∃ z, (execOp a.eval o).run P w = .ok (.value z) w ∧ VR e M v z) ∨ (Region.wanted o (yielded ops a.tmps) = false ∧ ∀ x, VR e M v x) := by
  unfold condV at hv
  unfold Region.wanted
  split at hv
  · cases hv
  · rename_i j want hg
    rw [hg]
    split at hv
    · cases hv
    · rename_i t ht
      split at hv
      · rename_i p hp
        cases hfl : flatG ops with
        | false => rw [hfl] at hv; cases hv
        | true =>
        rw [hfl] at hv; simp only [cond_true] at hv
        obtain ⟨x, hx1, hx2⟩ := hs.tm t _ hp
        cases hx2 with
        | bool _ b hb =>
          have hy : yielded ops a.tmps j = some b := by
            unfold yielded
            unfold dstOf at ht
            rw [ht]; simp [hx1]
          simp only [hy]
          split at hv
          · cases hv
          · split at hv
            · cases hv
            · rename_i fs hfs
              split at hv
              · rename_i u hu
                cases hv
                have hnot : (T.not1 p).ev e = 1 - bint b := by unfold T.not1; rw [addc_ev, neg_ev, hb]; omega
                by_cases hw : b = want
                · subst hw
                  left
                  refine ⟨by simp, ?_⟩
                  obtain ⟨fs', g1, g2⟩ := assume_ok hs.heap.fact hb
                  rw [hfs] at g1; cases g1
                  have hq : (bif b then p else T.not1 p).ev e ≠ 0 := by
                    cases b
                    · simp only [cond_false]; rw [hnot]; decide
                    · simp only [cond_true]; rw [hb]; decide
                  obtain ⟨z, h1, h2⟩ := quiet_ok (P := P) (hs.heap.facts g2) (fun x => strip_ok hq (ev_ok hs x)) (o := o) hu
                  exact ⟨z, h1, .when _ _ _ (fun _ => h2)⟩
                · right
                  refine ⟨by simpa using hw, fun x => .when _ _ _ (fun hq => ?_)⟩
                  exfalso
                  have hb' : b = !want := by cases b <;> cases want <;> simp_all
                  subst hb'
                  cases want
                  · simp only [cond_false] at hq; rw [hnot] at hq; exact hq (by decide)
                  · simp only [cond_true] at hq; rw [hb] at hq; exact hq (by decide)
              · cases hv
      · cases hv

/-- A region that keeps the text's order. -/
theorem regN_ok {ops : Array Oper} {Q : Exit → Act → World → Prop} (hcf : CEOK P e F cf) : ∀ (l : List Oper) (i : Nat) (M : Lay) (s : St) (a : Act) (w : World) (k : St → V) (kp : SV → St → V), (∀ j, l[j]? = ops[i + j]?) →
    regN P cf ops l s k kp = .ok → StOK e F M D s a w →
    (∀ M' s' a' w', M.le M' → StOK e F M' D s' a' w' → k s' = .ok → Q .normal a' w') →
    (∀ M' s' a' w' x v, M.le M' → StOK e F M' D s' a' w' → VR e M' v x → kp v s' = .ok → Q (.panic [{ v := x, recovered := false }]) a' w') →
    wpOps P ops Q (List.range' i l.length) a w := by
  intro l
  induction l with
  | nil => intro i M s a w k kp _ hk hs hQ _; exact hQ M s a w M.le_refl hs hk
  | cons o l ih =>
    intro i M s a w k kp hl hk hs hQ hP
    have ho : ops[i]? = some o := by have := hl 0; simpa using this.symm
    have hl' : ∀ j, l[j]? = ops[i + 1 + j]? := by
      intro j
      have := hl (j + 1)
      simp only [List.getElem?_cons_succ] at this
      rw [this]; congr 1; omega
    simp only [List.length_cons, List.range'_succ]
    rw [wpOps_cons]
    unfold wpOp
    simp only [ho]
    simp only [regN] at hk
    split at hk
    · rename_i v hv
      rcases condV_ok hv hs with ⟨hw, z, hr, hz⟩ | ⟨hw, hz⟩
      · rw [hw]; simp only [if_true]
        left
        obtain ⟨s'', g1, g2⟩ := put_ok hk hs hz
        unfold Oper.wp
        rw [hr]
        simp only [Oper.upon]
        exact ih (i + 1) M s'' _ w k kp hl' g2 g1 hQ hP
      · rw [hw]; simp only [Bool.false_eq_true, if_false]
        obtain ⟨s'', g1, g2⟩ := put_ok hk hs (hz undef)
        exact ih (i + 1) M s'' _ w k kp hl' g2 g1 hQ hP
    rcases guardX_ok hk hs with ⟨hw, s', _, hs', hk'⟩ | ⟨hw, s', _, hs', hk'⟩
    · rw [hw]; simp only [if_true]
      left
      refine Oper.wp_mono ?_ (opX_ok hcf hk' hs' (fun M' s'' x v w' hM hs'' hv hkp => hP M' s'' a w' x v hM hs'' hv hkp))
      rintro a' w' ⟨M', s'', hM, hs'', hk''⟩
      exact ih (i + 1) M' s'' a' w' k kp hl' hk'' hs'' (fun M2 s2 a2 w2 h1 h2 h3 => hQ M2 s2 a2 w2 (Lay.le_trans hM h1) h2 h3) (fun M2 s2 a2 w2 x v h1 h2 h3 h4 => hP M2 s2 a2 w2 x v (Lay.le_trans hM h1) h2 h3 h4)
    · rw [hw]; simp only [Bool.false_eq_true, if_false]
      obtain ⟨s'', g1, g2⟩ := put_ok hk' hs' (.tup [] #[] .nil)
      exact ih (i + 1) M s'' _ w k kp hl' g2 g1 hQ hP

end
end Go.Sx

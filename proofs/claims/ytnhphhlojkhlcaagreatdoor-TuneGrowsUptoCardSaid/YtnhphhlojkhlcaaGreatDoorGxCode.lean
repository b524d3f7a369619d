/- Symbolic execution: regions that draw their order, code, calls. -/
import Derived.Test.YtnhphhlojkhlcaaGreatDoorGxInv
import Derived.LoopN
namespace Go.Sx
open Go Go.RowKit

/-- Something pending, symbolically. -/
structure PendS where
  i : Nat
  tm : Tr SV
  v : SV

section
variable (P : Program) (cf : CE)

/-- Do those that are pending tell the same still? -/
def againS (ops : Array Oper) (i : Nat) (h : Hs) : List PendS → Bool
  | [] => true
  | x :: l => (bif ancB ops i x.i then true else match ops[x.i]? with
    | some o => match quiet P h (evS h x.tm) o.op with
      | some v => SV.same 6 v x.v
      | none => false
    | none => false) && againS ops i h l

def allX (f : Nat → V) : List Nat → V
  | [] => .ok
  | i :: l => (f i).and (allX f l)

def regD (ops : Array Oper) : Nat → Nat → List PendS → St → (St → V) → (SV → St → V) → V
  | 0, _, _, _, _, _ => .bad 50 []
  | n + 1, V0, pend, s, k, kp => match nextB ops V0 with
    | some i => match ops[i]? with
      | some o => guardX cf.sh ops o s (fun s => match quiet P s.h (evS s.h s.tm) o.op with
          | some v => St.put s o.dst v fun s' => regD ops n (addV V0 i) (⟨i, s.tm, v⟩ :: pend) s' k kp
          | none => .bad (5100 + opTag o.op) (o.op.operands.toList.map (evS s.h s.tm)))
        (fun s => St.put s o.dst (.tup []) fun s' => regD ops n (addV V0 i) pend s' k kp)
      | none => .bad 52 []
    | none => match openB ops V0 with
      | [] => k s
      | l => allX (fun i => match ops[i]? with
        | some o => guardX cf.sh ops o s (fun s => opX P cf o s (fun s' => bif againS P ops i s'.h pend then regD ops n (addV V0 i) pend s' k kp else .bad 53 (pend.map PendS.v)) (fun v s' => kp v { s' with tm := .e }))
          (fun s => St.put s o.dst (.tup []) fun s' => regD ops n (addV V0 i) pend s' k kp)
        | none => .bad 52 []) l

/-- Rounds. -/
def loopX (body : St → (X → St → V) → V) : Nat → St → (X → St → V) → V
  | 0, _, _ => .bad 54 []
  | n + 1, s, k => body s fun x s' => match x with
    | .normal => loopX body n s' k
    | x => k x s'

/-- rounds: how many rounds of a loop at most; sp: the block that holds the code, if its loop counts. -/
def execC (rounds : Nat) : Code → Option (Nat × LSpec) → St → (X → St → V) → V
  | .skip, _, s, k => k .normal s
  | .region _ ops d, _, s, k => bif d then (bif planB ops then regD P cf ops (ops.size + 1) 0 [] s (k .normal) (fun v s' => k (.panic v) s') else .bad 55 [])
    else regN P cf ops ops.toList s (k .normal) (fun v s' => k (.panic v) s')
  | .seq a b, sp, s, k => execC rounds a sp s fun x s' => match x with
    | .normal => execC rounds b sp s' k
    | x => k x s'
  | .cond c t f, sp, s, k => match evS s.h s.tm c with
    | .bool p => match knownX cf.sh s.h.fs p with
      | some true => execC rounds t sp s k
      | some false => execC rounds f sp s k
      | none => match predX P p t f s with
        | some m => k .normal m
        | none => V.and (match assume p true s.h.fs with
          | none => V.ok
          | some fs => execC rounds t sp (s.setH { s.h with fs := fs }) k) (match assume p false s.h.fs with
          | none => V.ok
          | some fs => execC rounds f sp (s.setH { s.h with fs := fs }) k)
    | v => .bad 56 [v]
  | .block id b, _, s, k => execC rounds b ((cf.lp id).map fun sp => (id, sp)) s fun x s' => match x with
    | .exit j => bif Nat.beq j id then k .normal s' else k (.exit j) s'
    | x => k x s'
  | .loop b, sp, s, k => match sp with
    | some (id, sp) => loopF sp id (fun s k => execC rounds b none s k) s k
    | none => loopX (fun s k => execC rounds b none s k) rounds s k
  | .exit id, _, s, k => k (.exit id) s
  | .label _, _, s, k => k .normal s
  | .goto l, _, s, k => k (.goto l) s
  | .ret, _, s, k => k .ret s
  | _, _, _, _ => .bad 57 []

variable {P cf} {e : Env} {F : Base} {M : Lay} {w : World} {D : List Deferred}

/-- A frame's pending things, symbolic and not. -/
inductive PR (e : Env) (M : Lay) : List PendS → List Pend → Prop where
  | nil : PR e M [] []
  | cons (x : PendS) (y : Pend) (l : List PendS) (r : List Pend) : x.i = y.i → TmOK e M x.tm y.a.tmps → VR e M x.v y.z → PR e M l r → PR e M (x :: l) (y :: r)

theorem PR.mono {M' : Lay} (hM : M.le M') {l : List PendS} {r : List Pend} (h : PR e M l r) : PR e M' l r := by
  induction h with
  | nil => exact .nil
  | cons x y l r h1 h2 h3 _ ih => exact .cons x y l r h1 (h2.mono hM) (h3.mono hM) ih

theorem againS_ok {ops : Array Oper} {i : Nat} {h : Hs} (H : HeapOK e F M h w) : ∀ {l : List PendS} {r : List Pend}, againS P ops i h l = true → PR e M l r → Again P ops (ancB ops) r i w := by
  intro l
  induction l with
  | nil => intro r _ hr; cases hr; intro x hx; cases hx
  | cons x l ih =>
    intro r ha hr
    cases hr with
    | cons _ y _ r h1 h2 h3 h4 =>
      simp only [againS, Bool.and_eq_true] at ha
      intro z hz hanc
      cases hz with
      | tail _ hz => exact ih ha.2 h4 z hz hanc
      | head =>
        have ha1 := ha.1
        rw [h1, hanc] at ha1
        simp only [cond_false] at ha1
        split at ha1
        · rename_i o ho
          split at ha1
          · rename_i v hv
            obtain ⟨u, g1, g2⟩ := quiet_ok (P := P) H (a := y.a) (fun q => evS_ok H h2 q) hv
            have := same_ok 6 ha1 g2 h3
            subst this
            exact ⟨o, ho, g1⟩
          · cases ha1
        · cases ha1

/-- Where code leaves. -/
inductive XRel (e : Env) (M : Lay) : X → Exit → Prop where
  | normal : XRel e M .normal .normal
  | exit (id : Nat) : XRel e M (.exit id) (.exit id)
  | goto (l : Nat) : XRel e M (.goto l) (.goto l)
  | ret : XRel e M .ret .ret
  | panic (v : SV) (x : Value) : VR e M v x → XRel e M (.panic v) (.panic [{ v := x, recovered := false }])

/-- Behind code: where it leaves, in which state; and the rest is well. -/
def QX (e : Env) (F : Base) (M : Lay) (D : List Deferred) (k : X → St → V) : Exit → Act → World → Prop :=
  fun en a w => ∃ M' x s, M.le M' ∧ StOK e F M' D s a w ∧ XRel e M' x en ∧ k x s = .ok

theorem QX.mono {M' : Lay} (hM : M.le M') {k : X → St → V} {en : Exit} {a : Act} {w : World} (h : QX e F M' D k en a w) : QX e F M D k en a w := by
  obtain ⟨M2, x, s, h1, h2⟩ := h
  exact ⟨M2, x, s, Lay.le_trans hM h1, h2⟩

/-- Behind a region that draws: of a panic's frame nothing is known. -/
def QD (e : Env) (F : Base) (M : Lay) (D : List Deferred) (k : St → V) (kp : SV → St → V) (nt : Nat) : Exit → Act → World → Prop
  | .normal, a, w => ∃ M' s, M.le M' ∧ StOK e F M' D s a w ∧ k s = .ok
  | .panic chain, a, w => ∃ M' h ds x v, M.le M' ∧ HeapOK e F M' h w ∧ VR e M' v x ∧ chain = [{ v := x, recovered := false }] ∧ kp v ⟨.e, nt, h, ds⟩ = .ok ∧ DefR e M' ds a.defers ∧ a.tmps.size = nt
  | _, _, _ => False

theorem wp_size {o : Oper} {a : Act} {w : World} {K : Act → World → Prop} {Q : Exit → Act → World → Prop} (hh : o.wp P a w K Q) : o.wp P a w (fun a' w' => K a' w' ∧ a'.tmps.size = a.tmps.size) Q := by
  have hput : ∀ (a : Act) (d : Option Tmp) (z : Value), (a.put d z).tmps.size = a.tmps.size := by
    intro a d z; cases d <;> simp [Act.put]
  unfold Oper.wp at *
  generalize (execOp a.eval o).run P w = r at *
  cases r with
  | ok n w' =>
    cases n <;> simp only [Oper.upon] at hh ⊢
    case value v => exact ⟨hh, hput _ _ _⟩
    case skip => exact ⟨hh, hput _ _ _⟩
    case defer d => exact ⟨hh, hput _ _ _⟩
    case enter f args => exact Calls.mono hh (fun e w'' he => by cases e <;> first | exact ⟨he, hput _ _ _⟩ | exact he)
    case row row args => exact Rows.mono hh (fun v w'' he => ⟨he, hput _ _ _⟩)
  | halt x w' => cases x <;> simp only [Oper.upon] at hh ⊢ <;> exact hh

theorem allX_ok {f : Nat → V} : ∀ {l : List Nat}, allX f l = .ok → ∀ i ∈ l, f i = .ok := by
  intro l
  induction l with
  | nil => intro _ i hi; cases hi
  | cons j l ih =>
    intro h i hi
    obtain ⟨h1, h2⟩ := V.and_ok h
    cases hi with
    | head => exact h1
    | tail _ hi => exact ih h2 i hi

theorem put_nt {s : St} {d : Option Tmp} {v : SV} {k : St → V} (hk : St.put s d v k = .ok) : ∃ s', s'.nt = s.nt ∧ s'.h = s.h ∧ k s' = .ok := by
  rw [St.put_def] at hk
  cases d with
  | none => exact ⟨s, rfl, rfl, hk⟩
  | some t =>
    simp only at hk
    cases hb : Nat.blt t s.nt with
    | false => rw [hb] at hk; cases hk
    | true => rw [hb] at hk; exact ⟨{ s with tm := s.tm.set (some v) t }, rfl, rfl, hk⟩

theorem regD_ok {ops : Array Oper} {nt : Nat} (hcf : CEOK P e F cf) : ∀ (n V0 : Nat) (M M0 : Lay) (pend : List PendS) (pc : List Pend) (s : St) (a : Act) (w : World) (k : St → V) (kp : SV → St → V), M0.le M →
    regD P cf ops n V0 pend s k kp = .ok → StOK e F M D s a w → PR e M pend pc → a.tmps.size = nt →
    wpE P ops (QD e F M0 D k kp nt) (ancB ops) (nextB ops) (openB ops) n V0 pc a w := by
  intro n
  induction n with
  | zero => intro V0 M M0 pend pc s a w k kp _ hk; cases hk
  | succ n ih =>
    intro V0 M M0 pend pc s a w k kp hM0 hk hs hp hnt
    simp only [regD] at hk
    simp only [wpE]
    have hput : ∀ (a : Act) (d : Option Tmp) (z : Value), (a.put d z).tmps.size = a.tmps.size := by
      intro a d z; cases d <;> simp [Act.put]
    split at hk
    · rename_i i hn
      rw [hn]
      split at hk
      · rename_i o ho
        refine ⟨o, ho, ?_⟩
        rcases guardX_ok hk hs with ⟨hw, s', hst, hs', hk'⟩ | ⟨hw, s', hst, hs', hk'⟩
        · left
          refine ⟨hw, ?_⟩
          split at hk'
          · rename_i v hv
            obtain ⟨z, g1, g2⟩ := quiet_ok (P := P) hs'.heap (ev_ok hs') hv
            obtain ⟨s2, g3, g4⟩ := put_ok hk' hs' g2
            exact ⟨z, g1, ih _ M M0 _ _ s2 _ w k kp hM0 g4 g3 (.cons _ _ _ _ rfl hs'.tm g2 hp) (by rw [hput]; exact hnt)⟩
          · cases hk'
        · right
          obtain ⟨s2, g3, g4⟩ := put_ok hk' hs' (.tup [] #[] .nil)
          exact ⟨hw, ih _ M M0 _ _ s2 _ w k kp hM0 g4 g3 hp (by rw [hput]; exact hnt)⟩
      · cases hk
    · rename_i hn
      rw [hn]
      have hall : (openB ops V0 = [] → k s = .ok) ∧ ∀ i ∈ openB ops V0, (match ops[i]? with
        | some o => guardX cf.sh ops o s (fun s => opX P cf o s (fun s' => bif againS P ops i s'.h pend then regD P cf ops n (addV V0 i) pend s' k kp else .bad 53 (pend.map PendS.v)) (fun v s' => kp v { s' with tm := .e }))
          (fun s => St.put s o.dst (.tup []) fun s' => regD P cf ops n (addV V0 i) pend s' k kp)
        | none => .bad 52 []) = .ok := by
        split at hk
        · rename_i he; rw [he]; exact ⟨fun _ => hk, fun i hi => by cases hi⟩
        · rename_i hne; exact ⟨fun he => absurd he hne, allX_ok hk⟩
      refine ⟨fun he => ⟨M, s, hM0, hs, hall.1 he⟩, ?_⟩
      intro i hi
      have hk := hall.2 i hi
      split at hk
      · rename_i o ho
        refine ⟨o, ho, ?_⟩
        rcases guardX_ok hk hs with ⟨hw, s', hst, hs', hk'⟩ | ⟨hw, s', hst, hs', hk'⟩
        · left
          refine ⟨hw, ?_⟩
          refine Oper.wp_mono ?_ (wp_size (opX_ok hcf hk' hs' (fun M' s'' x v w' hM hs'' hv hkp => ?_)))
          · rintro a' w' ⟨⟨M', s'', hM, hs'', hk''⟩, hsize⟩
            cases hag : againS P ops i s''.h pend with
            | false => rw [hag] at hk''; cases hk''
            | true =>
              rw [hag] at hk''; simp only [cond_true] at hk''
              refine ⟨againS_ok hs''.heap hag (hp.mono hM), ih _ M' M0 _ _ s'' _ w' k kp (Lay.le_trans hM0 hM) hk'' hs'' (hp.mono hM) (by rw [hsize]; exact hnt)⟩
          · refine ⟨M', s''.h, s''.ds, x, v, Lay.le_trans hM0 hM, hs''.heap, hv, rfl, ?_, hs''.defs, hnt⟩
            have : s''.nt = nt := by rw [← hs''.nt]; exact hnt
            rw [← this]; exact hkp
        · right
          obtain ⟨s2, g3, g4⟩ := put_ok hk' hs' (.tup [] #[] .nil)
          exact ⟨hw, ih _ M M0 _ _ s2 _ w k kp hM0 g4 g3 hp (by rw [hput]; exact hnt)⟩
      · cases hk


theorem range_toList (n : Nat) : List.range n = List.range' 0 n := List.range_eq_range' ..

/-- A loop that counts. -/
theorem loopF_ok {sp : LSpec} {id : Nat} {b : Code} {body : St → (X → St → V) → V} {e0 : Env} (hne : e0.near e) (hbody : ∀ (e : Env), e0.near e → ∀ (M : Lay) (s : St) (a : Act) (w : World) (k : X → St → V), body s k = .ok → StOK e F M D s a w → b.wp P (QX e F M D k) a w)
    {s : St} {a : Act} {k : X → St → V} (hk : loopF sp id body s k = .ok) (hs : StOK e F M D s a w) : (Code.loop b).wp P (QX e F M D k) a w := by
  unfold loopF at hk
  split at hk
  · cases hk
  · rename_i N hN
    split at hk
    · cases hk
    · rename_i lo hi hr
      simp only at hk
      split at hk
      · rename_i g0 g g1 gN e0 eg e1 eN
        cases hc : (freeSt sp s && T.free sp.var N && (s.h.fs.all fun x => T.free sp.var x.1) && matchS sp g0 s && nonneg s.h.fs N && Nat.ble 9000 sp.var) with
        | false => rw [hc] at hk; cases hk
        | true =>
          rw [hc] at hk; simp only [cond_true] at hk
          simp only [Bool.and_eq_true] at hc
          obtain ⟨⟨⟨⟨⟨c1, c2⟩, c3⟩, c4⟩, c5⟩, c6⟩ := hc
          have h9000 : 9000 ≤ sp.var := Nat.le_of_ble_eq_true c6
          obtain ⟨k1, k2⟩ := V.and_ok hk
          have hNr := rng_ok hs.heap.fact N _ _ hr
          have hN0 := nonneg_ok hs.heap.fact c5
          have hnt : ∀ v g, tmplS sp s v = some g → g.nt = s.nt := by
            intro v g h
            unfold tmplS at h
            split at h
            · cases h; rfl
            · cases h
          have ev : ∀ i : Nat, (i : Int) ≤ N.ev e → (T.atom (.var sp.var 0 hi)).ev (e.put sp.var i) = i := by
            intro i hi'
            rw [atom_ev]
            show clamp 0 hi ((e.put sp.var i).ρ sp.var) = i
            have : (e.put sp.var i).ρ sp.var = i := by simp [Env.put]
            rw [this]
            exact clamp_id (by omega) (by omega)
          have eN' : ∀ x : Int, N.ev (e.put sp.var x) = N.ev e := fun x => T.free_ev c2
          have hfs : ∀ i : Nat, (i : Int) ≤ N.ev e → Facts.ok (e.put sp.var i) ((T.sub (T.atom (.var sp.var 0 hi)) N, -hi, 0) :: s.h.fs) := by
            intro i hi' x hx
            rcases List.mem_cons.1 hx with rfl | hx
            · simp only
              rw [sub_ev, ev i hi', eN']
              omega
            · have hfree := List.all_eq_true.1 c3 x hx
              rw [T.free_ev hfree]
              exact hs.heap.fact x hx
          let Inv : Nat → Act → World → Prop := fun i a w => ∃ Mi, M.le Mi ∧ StOK (e.put sp.var i) F Mi D { g with h := { g.h with fs := (T.sub (T.atom (.var sp.var 0 hi)) N, -hi, 0) :: s.h.fs } } a w
          have h0 : Inv 0 a w := by
            have := transport (vA := .lit 0) (vB := T.atom (.var sp.var 0 hi)) (eB := e.put sp.var (0 : Nat)) (fs := (T.sub (T.atom (.var sp.var 0 hi)) N, -hi, 0) :: s.h.fs) hs.heap c1 e0 eg c4 hs M.le_refl (EnvSim.to_put e sp.var _)
              (by rw [ev 0 (by omega), ev_lit]; rfl) (hfs 0 (by omega)) (by rw [hnt _ _ e0, hnt _ _ eg])
            exact ⟨_, this.1, this.2⟩
          -- a round
          have round : ∀ (i : Nat) (a : Act) (w : World), (i : Int) ≤ N.ev e → Inv i a w → b.wp P (fun en a' w' => (en = .normal ∧ (i : Int) + 1 ≤ N.ev e ∧ Inv (i + 1) a' w') ∨
              (en = .exit id ∧ (i : Int) = N.ev e ∧ ∃ M', M.le M' ∧ StOK e F M' D { gN with h := { gN.h with fs := s.h.fs } } a' w')) a w := by
            intro i a w hi' ⟨Mi, hMi, ho⟩
            refine wp_mono (hbody _ (Env.near_put hne h9000 _) Mi _ a w _ k1 ho) ?_
            intro en a' w' ⟨M', x, s', hM', ho', hx, hkx⟩
            have evi := ev i hi'
            cases hx with
            | normal =>
              left
              simp only at hkx
              cases hcc : (matchS sp g1 s' && nonpos s'.h.fs (T.sub (T.addc 1 (T.atom (.var sp.var 0 hi))) N)) with
              | false => rw [hcc] at hkx; cases hkx
              | true =>
                simp only [Bool.and_eq_true] at hcc
                have hn := nonpos_ok ho'.heap.fact hcc.2
                rw [sub_ev, addc_ev, evi, eN'] at hn
                have hi2 : ((i + 1 : Nat) : Int) ≤ N.ev e := by omega
                have := transport (vA := T.addc 1 (T.atom (.var sp.var 0 hi))) (vB := T.atom (.var sp.var 0 hi)) (eB := e.put sp.var ((i + 1 : Nat) : Int)) (fs := (T.sub (T.atom (.var sp.var 0 hi)) N, -hi, 0) :: s.h.fs) hs.heap c1 e1 eg hcc.1 ho' (Lay.le_trans hMi hM')
                  (EnvSim.put e sp.var _ _) (by rw [ev (i + 1) hi2, addc_ev, evi]; omega) (hfs (i + 1) hi2) (by rw [hnt _ _ e1, hnt _ _ eg])
                exact ⟨rfl, by omega, _, this.1, this.2⟩
            | exit j =>
              right
              simp only at hkx
              cases hcc : (Nat.beq j id && matchS sp g s' && nonpos s'.h.fs (T.sub N (T.atom (.var sp.var 0 hi)))) with
              | false => rw [hcc] at hkx; cases hkx
              | true =>
                simp only [Bool.and_eq_true] at hcc
                have hj := Nat.eq_of_beq_eq_true hcc.1.1
                subst hj
                have hn := nonpos_ok ho'.heap.fact hcc.2
                rw [sub_ev, evi, eN'] at hn
                have hieq : (i : Int) = N.ev e := by omega
                have := transport (vA := T.atom (.var sp.var 0 hi)) (vB := N) (eB := e) (fs := s.h.fs) hs.heap c1 eg eN hcc.1.2 ho' (Lay.le_trans hMi hM')
                  (EnvSim.put_to e sp.var _) (by rw [evi]; exact hieq) hs.heap.fact (by rw [hnt _ _ eN, hnt _ _ eg])
                exact ⟨rfl, hieq, _, this.1, this.2⟩
            | goto l => cases hkx
            | ret => cases hkx
            | panic v x hv => cases hkx
          have hNn : ((N.ev e).toNat : Int) = N.ev e := Int.toNat_of_nonneg hN0
          have key : ∀ (m i : Nat), i + m = (N.ev e).toNat → ∀ a w, Inv i a w → Code.rounds P b (QX e F M D k) (m + 1) a w := by
            intro m
            induction m with
            | zero =>
              intro i him a w hinv
              rw [rounds_succ]
              refine wp_mono (round i a w (by omega) hinv) ?_
              rintro en a' w' (⟨rfl, h1, _⟩ | ⟨rfl, h1, M', h2, h3⟩)
              · omega
              · exact ⟨M', _, _, h2, h3, .exit id, k2⟩
            | succ m ihm =>
              intro i him a w hinv
              rw [rounds_succ]
              refine wp_mono (round i a w (by omega) hinv) ?_
              rintro en a' w' (⟨rfl, h1, h2⟩ | ⟨rfl, h1, M', h2, h3⟩)
              · exact ihm (i + 1) (by omega) a' w' h2
              · omega
          exact wp_loop_rounds ((N.ev e).toNat + 1) (key (N.ev e).toNat 0 (by omega) a w h0)
      · cases hk

/-- Code. -/
theorem execC_ok (hm : P.follows .mixedOrders = true) {e0 : Env} (hcf : ∀ e, e0.near e → CEOK P e F cf) (rounds : Nat) : ∀ (c : Code) (sp : Option (Nat × LSpec)) (e : Env) (_ : e0.near e) (M : Lay) (s : St) (a : Act) (w : World) (k : X → St → V),
    execC P cf rounds c sp s k = .ok → StOK e F M D s a w → c.wp P (QX e F M D k) a w := by
  intro c
  induction c with
  | skip => intro sp e hne M s a w k hk hs; exact wp_skip ⟨M, .normal, s, M.le_refl, hs, .normal, hk⟩
  | label l => intro sp e hne M s a w k hk hs; exact wp_label ⟨M, .normal, s, M.le_refl, hs, .normal, hk⟩
  | exit id => intro sp e hne M s a w k hk hs; exact wp_exit ⟨M, .exit id, s, M.le_refl, hs, .exit id, hk⟩
  | goto l => intro sp e hne M s a w k hk hs; exact wp_goto ⟨M, .goto l, s, M.le_refl, hs, .goto l, hk⟩
  | ret => intro sp e hne M s a w k hk hs; exact wp_ret ⟨M, .ret, s, M.le_refl, hs, .ret, hk⟩
  | refuse why => intro sp e hne M s a w k hk hs; cases hk
  | scope b ih => intro sp e hne M s a w k hk hs; cases hk
  | rangeFunc f ps x y ih1 ih2 => intro sp e hne M s a w k hk hs; cases hk
  | region id ops d =>
    intro sp e hne M s a w k hk hs
    simp only [execC] at hk
    cases d with
    | false =>
      simp only [cond_false] at hk
      refine wp_region ?_
      rw [range_toList]
      have := regN_ok (P := P) (ops := ops) (Q := QX e F M D k) (hcf e hne) ops.toList 0 M s a w _ _ (fun j => by simp) hk hs
        (fun M' s' a' w' h1 h2 h3 => ⟨M', .normal, s', h1, h2, .normal, h3⟩)
        (fun M' s' a' w' x v h1 h2 h3 h4 => ⟨M', .panic v, s', h1, h2, .panic v x h3, h4⟩)
      simpa using this
    | true =>
      simp only [cond_true] at hk
      cases hpl : planB ops with
      | false => rw [hpl] at hk; cases hk
      | true =>
        rw [hpl] at hk; simp only [cond_true] at hk
        have hs1 : StOK e F M D s a { w with drawn := w.drawn + 1 } := ⟨hs.tm, hs.nt, hs.heap.drew _, hs.defs⟩
        have hE := regD_ok (P := P) (nt := a.tmps.size) (hcf e hne) _ _ M M [] [] s a _ _ _ M.le_refl hk hs1 .nil rfl
        have hreg := wp_region_E (id := id) (w := w) (plan_of ops hpl) (Q := QD e F M D (k .normal) (fun v s' => k (.panic v) s') a.tmps.size) ?_ hm hE
        · refine wp_mono hreg ?_
          intro en a' w' hq
          cases en with
          | normal => obtain ⟨M', s', h1, h2, h3⟩ := hq; exact ⟨M', .normal, s', h1, h2, .normal, h3⟩
          | panic chain =>
            obtain ⟨M', h', ds', x, v, h1, h2, h3, h4, h5, h6, h7⟩ := hq
            subst h4
            exact ⟨M', .panic v, ⟨.e, a.tmps.size, h', ds'⟩, h1, ⟨(fun t v hv => by cases hv), h7, h2, h6⟩, .panic v x h3, h5⟩
          | exit => exact hq.elim
          | goto => exact hq.elim
          | ret => exact hq.elim
          | outgrown => exact hq.elim
        · intro chain a1 a2 w' hd hsz hq
          obtain ⟨M', h', ds', x, v, h1, h2, h3, h4, h5, h6, h7⟩ := hq
          exact ⟨M', h', ds', x, v, h1, h2, h3, h4, h5, hd ▸ h6, by rw [← hsz]; exact h7⟩
  | seq x y ihx ihy =>
    intro sp e hne M s a w k hk hs
    simp only [execC] at hk
    refine wp_seq (wp_mono (ihx sp e hne M s a w _ hk hs) ?_)
    intro en a' w' hq
    obtain ⟨M', xx, s', h1, h2, h3, h4⟩ := hq
    cases h3 with
    | normal =>
      simp only [Exit.then]
      exact wp_mono (ihy sp e hne M' s' a' w' k h4 h2) (fun en a w h => h.mono h1)
    | exit id => exact ⟨M', _, s', h1, h2, .exit id, h4⟩
    | goto l => exact ⟨M', _, s', h1, h2, .goto l, h4⟩
    | ret => exact ⟨M', _, s', h1, h2, .ret, h4⟩
    | panic v x hv => exact ⟨M', _, s', h1, h2, .panic v x hv, h4⟩
  | cond c t f iht ihf =>
    intro sp e hne M s a w k hk hs
    simp only [execC] at hk
    have hc := ev_ok hs c
    split at hk
    · rename_i p hp
      rw [hp] at hc
      generalize hy : a.eval c = y at hc
      cases hc with
      | bool _ b hb =>
        split at hk
        · rename_i hkn
          have := knownX_ok hs.heap.fact hb hkn
          subst this
          exact wp_cond_true hy (iht sp e hne M s a w k hk hs)
        · rename_i hkn
          have := knownX_ok hs.heap.fact hb hkn
          subst this
          exact wp_cond_false hy (ihf sp e hne M s a w k hk hs)
        · split at hk
          · rename_i m hm
            have hw := predX_ok (hcf e hne) hm hs hb
            have post : ∀ c : Code, c.wp P (fun en a' w' => en = .normal ∧ ∃ M', M.le M' ∧ StOK e F M' D m a' w') a w → c.wp P (QX e F M D k) a w := fun c hc => wp_mono hc (by
              rintro en a' w' ⟨rfl, M', hM, ho⟩
              exact ⟨M', .normal, m, hM, ho, .normal, hk⟩)
            cases b with
            | true => exact wp_cond_true hy (post t hw)
            | false => exact wp_cond_false hy (post f hw)
          · obtain ⟨h1, h0⟩ := V.and_ok hk
            obtain ⟨fs', g1, g2⟩ := assume_ok hs.heap.fact hb
            cases b with
            | true =>
              rw [g1] at h1
              exact wp_cond_true hy (iht sp e hne M _ a w k h1 (hs.facts g2))
            | false =>
              rw [g1] at h0
              exact wp_cond_false hy (ihf sp e hne M _ a w k h0 (hs.facts g2))
    · cases hk
  | block id b ih =>
    intro sp e hne M s a w k hk hs
    simp only [execC] at hk
    refine wp_block (wp_mono (ih _ e hne M s a w _ hk hs) ?_)
    intro en a' w' hq
    obtain ⟨M', xx, s', h1, h2, h3, h4⟩ := hq
    cases h3 with
    | normal => exact ⟨M', _, s', h1, h2, .normal, h4⟩
    | exit j =>
      simp only [Exit.inBlock]
      simp only at h4
      by_cases hj : j = id
      · subst hj
        rw [Nat.beq_refl] at h4; simp only [cond_true] at h4
        rw [if_pos rfl]
        exact ⟨M', _, s', h1, h2, .normal, h4⟩
      · rw [Tr.beq_false hj] at h4; simp only [cond_false] at h4
        rw [if_neg hj]
        exact ⟨M', _, s', h1, h2, .exit j, h4⟩
    | goto l => exact ⟨M', _, s', h1, h2, .goto l, h4⟩
    | ret => exact ⟨M', _, s', h1, h2, .ret, h4⟩
    | panic v x hv => exact ⟨M', _, s', h1, h2, .panic v x hv, h4⟩
  | loop b ih =>
    intro sp e hne M s a w k hk hs
    simp only [execC] at hk
    split at hk
    · exact loopF_ok (body := fun s k => execC P cf rounds b none s k) hne (fun e hne M s a w k hk hs => ih none e hne M s a w k hk hs) hk hs
    · have key : ∀ n M s a w k, loopX (fun s k => execC P cf rounds b none s k) n s k = .ok → StOK e F M D s a w → Code.rounds P b (QX e F M D k) n a w := by
        intro n
        induction n with
        | zero => intro M s a w k hk; cases hk
        | succ n ihn =>
          intro M s a w k hk hs
          simp only [loopX] at hk
          rw [rounds_succ]
          refine wp_mono (ih none e hne M s a w _ hk hs) ?_
          intro en a' w' hq
          obtain ⟨M', xx, s', h1, h2, h3, h4⟩ := hq
          cases h3 with
          | normal =>
            simp only [Exit.then]
            have hr := ihn M' s' a' w' k h4 h2
            have hmono : ∀ n a w, Code.rounds P b (QX e F M' D k) n a w → Code.rounds P b (QX e F M D k) n a w := by
              intro n
              induction n with
              | zero => intro a w h; exact h
              | succ n ihm =>
                intro a w h
                rw [rounds_succ] at h ⊢
                refine wp_mono h ?_
                intro en a w h
                cases en <;> simp only [Exit.then] at h ⊢ <;> first | exact ihm a w h | exact h.mono h1
            exact hmono n a' w' hr
          | exit id => exact ⟨M', _, s', h1, h2, .exit id, h4⟩
          | goto l => exact ⟨M', _, s', h1, h2, .goto l, h4⟩
          | ret => exact ⟨M', _, s', h1, h2, .ret, h4⟩
          | panic v x hv => exact ⟨M', _, s', h1, h2, .panic v x hv, h4⟩
      exact wp_loop_rounds rounds (key rounds M s a w k hk hs)

/-! ## Calls -/

/-- Arguments as slots. -/
def slots : List SV → Nat → Tr SV → Tr SV
  | [], _, t => t
  | v :: l, i, t => slots l (i + 1) (t.set (some v) i)

theorem slots_ok : ∀ (l : List SV) (vs : List Value) (i : Nat) (t : Tr SV) (tmps : Array Value), VRs e M l vs → (∀ j x, vs[j]? = some x → tmps[i + j]? = some x) → TmOK e M t tmps → TmOK e M (slots l i t) tmps := by
  intro l
  induction l with
  | nil => intro vs i t tmps _ _ ht; exact ht
  | cons v l ih =>
    intro vs i t tmps hl hv ht
    cases hl with
    | cons _ x _ vs h1 h2 =>
      refine ih vs (i + 1) _ tmps h2 (fun j y hy => by have := hv (j + 1) y (by simpa using hy); rw [← this]; congr 1; omega) ?_
      intro j u hu
      rw [Tr.get_set] at hu
      split at hu
      · rename_i he; subst he; cases hu
        exact ⟨x, by have := hv 0 x (by simp); simpa using this, h1⟩
      · exact ht j u hu

variable (P) in
/-- A function's results. -/
def resS (h : Hs) (tm : Tr SV) : List ResultVar → Option (List SV)
  | [] => some []
  | .tmp t :: l => match resS h tm l with
    | some r => some ((match tm.get t with
      | some v => v
      | none => .junk) :: r)
    | none => none
  | .cell a t :: l => match resS h tm l with
    | some r => match tm.get a with
      | some v => match loadS P h t v with
        | some u => some (u :: r)
        | none => none
      | none => none
    | none => none

def tupS : List SV → SV
  | [v] => v
  | l => .tup l

end
end Go.Sx

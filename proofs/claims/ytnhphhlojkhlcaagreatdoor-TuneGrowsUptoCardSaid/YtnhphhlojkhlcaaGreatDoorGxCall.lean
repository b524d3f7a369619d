/- Symbolic execution: calls, calls that are put off, recovering. -/
import Derived.Test.YtnhphhlojkhlcaaGreatDoorGxCode
import Derived.Recover
import Derived.Lib.Bytealg
namespace Go.Sx
open Go Go.RowKit

section
variable (P : Program)

/-- How a frame goes that leaves. -/
inductive MS where
  | ret | pan (v : SV) | got (v : SV)

def settleS : MS → MS
  | .got _ => .ret
  | m => m

def isRecover (o : Oper) : Bool := match o.op, o.guard with
  | .call c, none => match c.callee with
    | .builtin .recover => c.args.isEmpty
    | _ => false
  | _, _ => false

/-- A body that recovers first. -/
def recFirst : Code → Option (Option Tmp × Code)
  | .seq (.region _ ops false) c => match ops.toList with
    | [o] => bif isRecover o then some (o.dst, c) else none
    | _ => none
  | _ => none

def finX (fn : Func) (m : MS) (x : X) (s : St) (k : FR → MS → Hs → V) : V :=
  match s.ds with
  | [] => match x with
    | .normal => (match resS P s.h s.tm fn.results.toList with
      | some l => k (.ret (tupS l)) m s.h
      | none => .bad 60 [])
    | .ret => (match resS P s.h s.tm fn.results.toList with
      | some l => k (.ret (tupS l)) m s.h
      | none => .bad 60 [])
    | .panic v => k (.pan v) m s.h
    | _ => .bad 61 []
  | _ => .bad 66 []

def deferX (cf : CE) (rounds : Nat) (f : FuncId) (args : List SV) (m : MS) (h : Hs) (k : FR → MS → Hs → V) : V :=
  match P.funcs[f]? with
  | some fn => match fn.body with
    | some c => match recFirst c with
      | none => execC P { cf with lp := fun _ => none } rounds c none ⟨slots args 0 .e, args.length + (fn.ntmps - args.length), h, []⟩ (finX P fn m · · k)
      | some (d, c) => match m with
        | .pan v => St.put ⟨slots args 0 .e, args.length + (fn.ntmps - args.length), h, []⟩ d v fun s => execC P { cf with lp := fun _ => none } rounds c none s (finX P fn (.got v) · · k)
        | m => St.put ⟨slots args 0 .e, args.length + (fn.ntmps - args.length), h, []⟩ d .nili fun s => execC P { cf with lp := fun _ => none } rounds c none s (finX P fn m · · k)
    | none => .bad 62 []
  | none => .bad 63 []

def leaveX (cf : CE) (rounds : Nat) : List (Nat × List SV) → MS → Hs → (MS → Hs → V) → V
  | [], m, h, k => k m h
  | (f, args) :: ds, m, h, k => bif enters P f then deferX P cf rounds f args m h (fun r m' h' => match r with
      | .ret _ => leaveX cf rounds ds (settleS m') h' k
      | .pan v => match m' with
        | .ret => leaveX cf rounds ds (.pan v) h' k
        | _ => .bad 67 [v]) else .bad 68 []

def outX (fn : Func) (tm : Tr SV) (k : FR → Hs → V) (m : MS) (h : Hs) : V :=
  match m with
  | .ret => (match resS P h tm fn.results.toList with
    | some l => k (.ret (tupS l)) h
    | none => .bad 60 [])
  | .pan v => k (.pan v) h
  | .got v => .bad 69 [v]

def bodyX (cf : CE) (rounds : Nat) (f : FuncId) (args : List SV) (h : Hs) (k : FR → Hs → V) : V :=
  match P.funcs[f]? with
  | some fn => match fn.body with
    | some c => execC P cf rounds c none ⟨slots args 0 .e, args.length + (fn.ntmps - args.length), h, []⟩ fun x s => match x with
      | .normal => leaveX P cf rounds s.ds .ret s.h (outX P fn s.tm k)
      | .ret => leaveX P cf rounds s.ds .ret s.h (outX P fn s.tm k)
      | .panic v => leaveX P cf rounds s.ds (.pan v) s.h (outX P fn s.tm k)
      | _ => .bad 61 []
    | none => .bad 62 []
  | none => .bad 63 []

/-- Calls, so many deep. sums: what is known of functions. -/
def callN (P : Program) (ext : FuncId → List SV → Option SV) (sums : FuncId → Option (CF → List SV → Hs → (FR → Hs → V) → V)) (loops : FuncId → Nat → Option LSpec) (rounds : Nat) : Nat → CF
  | 0, _, _, _, _ => .bad 64 []
  | n + 1, f, args, h, k => match sums f with
    | some sm => sm (callN P ext sums loops rounds n) args h k
    | none => bodyX P ⟨callN P ext sums loops rounds n, ext, loops f⟩ rounds f args h k
end

section
variable {P : Program} {cf : CE} {e : Env} {F : Base} {M : Lay} {w : World} {D : List Deferred}

def resF (tmps : Array Value) : ResultVar → Sem Value
  | .tmp t => pure (tmps.getD t undef)
  | .cell a t => do loadVar t (← asAddr (tmps.getD a undef))

theorem results_eq (fn : Func) (tmps : Array Value) : results fn tmps = (do
    let vs ← fn.results.mapM (resF tmps)
    pure (if h : vs.size = 1 then vs[0] else .tuple vs)) := by
  unfold results
  congr 1

theorem resS_ok {s : St} {a : Act} (hs : StOK e F M D s a w) : ∀ (l : List ResultVar) (r : List SV), resS P s.h s.tm l = some r →
    ∃ vs : List Value, (l.mapM (resF a.tmps)).run P w = .ok vs w ∧ VRs e M r vs := by
  intro l
  induction l with
  | nil => intro r h; cases h; exact ⟨[], by simp, .nil⟩
  | cons v l ih =>
    intro r h
    cases v with
    | tmp t =>
      simp only [resS] at h
      split at h
      · rename_i r' hr'
        cases h
        obtain ⟨vs, h1, h2⟩ := ih r' hr'
        refine ⟨a.tmps.getD t undef :: vs, ?_, .cons _ _ _ _ ?_ h2⟩
        · simp only [List.mapM_cons, resF, Sem.run_bind, Sem.run_pure, Result.andThen_ok, h1]
        · split
          · rename_i u hu
            obtain ⟨x, g1, g2⟩ := hs.tm t u hu
            simp only [Array.getD_eq_getD_getElem?, g1, Option.getD_some]
            exact g2
          · exact .junk _
      · cases h
    | cell x t =>
      simp only [resS] at h
      split at h
      · rename_i r' hr'
        split at h
        · rename_i u hu
          split at h
          · rename_i u2 hu2
            cases h
            obtain ⟨vs, h1, h2⟩ := ih r' hr'
            obtain ⟨y, g1, g2⟩ := hs.tm x u hu
            obtain ⟨z, g3, g4⟩ := loadS_ok (P := P) hs.heap hu2 g2
            have hy : a.tmps.getD x undef = y := by simp [g1]
            refine ⟨z :: vs, ?_, .cons _ _ _ _ g4 h2⟩
            have hrun : (resF a.tmps (.cell x t)).run P w = .ok z w := by
              simp only [resF]
              rw [hy, ← g3]
              unfold loadS at hu2
              split at hu2
              · cases g2 with
                | ptr _ _ r n k1 k2 => simp [Instr.loadAt, Instr.sureAddr, asAddr]
              · cases hu2
            simp only [List.mapM_cons, Sem.run_bind]
            rw [hrun]
            simp only [Result.andThen_ok, h1, Sem.run_pure]
          · cases h
        · cases h
      · cases h

theorem results_ok {s : St} {a : Act} {fn : Func} (hs : StOK e F M D s a w) {r : List SV} (h : resS P s.h s.tm fn.results.toList = some r) :
    ∃ v, (results fn a.tmps).run P w = .ok v w ∧ VR e M (tupS r) v := by
  obtain ⟨vs, h1, h2⟩ := resS_ok (P := P) hs _ _ h
  have hfl : fn.results = fn.results.toList.toArray := by simp
  refine ⟨if h : vs.toArray.size = 1 then vs.toArray[0] else .tuple vs.toArray, ?_, ?_⟩
  · rw [results_eq, hfl, List.mapM_toArray]
    simp only [Sem.run_bind, Sem.run_map]
    rw [h1]
    rfl
  · have hlen := h2.length
    cases h2 with
    | nil => simp; exact .tup _ _ .nil
    | cons s1 v1 l1 vs1 g1 g2 =>
      cases g2 with
      | nil => simp; exact g1
      | cons s2 v2 l2 vs2 g3 g4 =>
        simp only [List.size_toArray, List.length_cons]
        rw [dif_neg (by omega)]
        exact .tup _ _ (.cons _ _ _ _ g1 (.cons _ _ _ _ g3 g4))


inductive MRel (e : Env) (M : Lay) : MS → FrameMode → Prop where
  | ret : MRel e M .ret .returning
  | pan (v : SV) (x : Value) : VR e M v x → MRel e M (.pan v) (.panicking [{ v := x, recovered := false }])
  | got (v : SV) (x : Value) : VR e M v x → MRel e M (.got v) (.panicking [{ v := x, recovered := true }])

theorem MRel.mono {M' : Lay} (hM : M.le M') {m : MS} {u : FrameMode} (h : MRel e M m u) : MRel e M' m u := by
  cases h with
  | ret => exact .ret
  | pan v x hv => exact .pan v x (hv.mono hM)
  | got v x hv => exact .got v x (hv.mono hM)

theorem MRel.settle {m : MS} {u : FrameMode} (h : MRel e M m u) : MRel e M (settleS m) (Go.settle u) := by
  cases h with
  | ret => exact .ret
  | pan v x hv => exact .pan v x hv
  | got v x hv => exact .ret

theorem MRel.ne {m : MS} {u : FrameMode} (h : MRel e M m u) : u ≠ .run := by
  cases h <;> simp

/-- A frame that begins. -/
theorem start_ok {h : Hs} {args : List SV} {vs : Array Value} (H : HeapOK e F M h w) (hargs : VRs e M args vs.toList) (nt : Nat) :
    StOK e F M D ⟨slots args 0 .e, args.length + (nt - args.length), h, []⟩ { tmps := vs ++ Array.replicate (nt - vs.size) undef, defers := [] } w := by
  have hlen := hargs.length
  refine ⟨slots_ok args vs.toList 0 .e _ hargs ?_ (fun t v hv => by cases hv), ?_, H, .nil⟩
  · intro j x hx
    simp only [Nat.zero_add]
    rw [Array.getElem?_toList] at hx
    rw [Array.getElem?_append_left (Array.getElem?_eq_some_iff.1 hx).1]; exact hx
  · simp only [Array.length_toList] at hlen
    simp [hlen]

/-- Behind a deferred call. -/
def RD (e : Env) (F : Base) (M : Lay) (k : FR → MS → Hs → V) : Ending → FrameMode → World → Prop :=
  fun en u w => ∃ M' h r m, M.le M' ∧ HeapOK e F M' h w ∧ FRel e M' r en ∧ MRel e M' m u ∧ k r m h = .ok

theorem finX_ok {fn : Func} {m : MS} {u : FrameMode} {x : X} {en : Exit} {s : St} {a : Act} {k : FR → MS → Hs → V} (hk : finX P fn m x s k = .ok) (hs : StOK e F M D s a w)
    (hx : XRel e M x en) (hm : MRel e M m u) (c₀ : Frame) (cs : List Frame) : bodyPostS P fn c₀ cs (RD e F M k) en a ({ c₀ with mode := u } :: cs) w := by
  unfold finX at hk
  have hd := hs.defs
  split at hk
  · rename_i he
    rw [he] at hd
    have hd0 : a.defers = [] := by generalize a.defers = z at hd; cases hd; rfl
    cases hx with
    | normal =>
      simp only at hk
      split at hk
      · rename_i l hl
        obtain ⟨v, g1, g2⟩ := results_ok (P := P) hs hl
        exact ⟨hd0, u, rfl, v, g1, M, s.h, _, m, M.le_refl, hs.heap, .ret _ v g2, hm, hk⟩
      · cases hk
    | ret =>
      simp only at hk
      split at hk
      · rename_i l hl
        obtain ⟨v, g1, g2⟩ := results_ok (P := P) hs hl
        exact ⟨hd0, u, rfl, v, g1, M, s.h, _, m, M.le_refl, hs.heap, .ret _ v g2, hm, hk⟩
      · cases hk
    | panic v x hv => exact ⟨hd0, u, rfl, M, s.h, _, m, M.le_refl, hs.heap, .pan v x hv, hm, hk⟩
    | exit id => cases hk
    | goto l => cases hk
  · cases hk

theorem RD.mono {M' : Lay} (hM : M.le M') {k : FR → MS → Hs → V} {en : Ending} {u : FrameMode} {w : World} (h : RD e F M' k en u w) : RD e F M k en u w := by
  obtain ⟨M2, h', r, m, h1, h2⟩ := h
  exact ⟨M2, h', r, m, Lay.le_trans hM h1, h2⟩

theorem bodyPostS_mono {fn : Func} {c₀ : Frame} {cs : List Frame} {R R' : Ending → FrameMode → World → Prop} (h : ∀ e u w, R e u w → R' e u w) {en : Exit} {a : Act} {cs' : List Frame} {w : World}
    (hb : bodyPostS P fn c₀ cs R en a cs' w) : bodyPostS P fn c₀ cs R' en a cs' w := by
  cases en with
  | normal => obtain ⟨h1, u, h2, v, h3, h4⟩ := hb; exact ⟨h1, u, h2, v, h3, h _ _ _ h4⟩
  | ret => obtain ⟨h1, u, h2, v, h3, h4⟩ := hb; exact ⟨h1, u, h2, v, h3, h _ _ _ h4⟩
  | panic ch => obtain ⟨h1, u, h2, h4⟩ := hb; exact ⟨h1, u, h2, h _ _ _ h4⟩
  | outgrown => obtain ⟨u, h4⟩ := hb; exact ⟨u, h _ _ _ h4⟩
  | exit id => exact hb.elim
  | goto l => exact hb.elim

theorem isRecover_run {o : Oper} (h : isRecover o = true) (ev : Operand → Value) (w : World) : o.guard = none ∧ (execOp ev o).run P w = .ok .recover w := by
  unfold isRecover at h
  split at h
  · rename_i c hop hg
    split at h
    · rename_i hc
      have ha : c.args = #[] := by simpa using h
      refine ⟨hg, ?_⟩
      simp only [execOp, hop, resolve, hc, ha, Sem.run_bind, Sem.run_pure, Result.andThen_ok, invoke, builtin, List.map_toArray]
    · cases h
  · cases h

theorem deferX_ok (hm : P.follows .mixedOrders = true) {e0 : Env} (hne : e0.near e) (hcf : ∀ e, e0.near e → CEOK P e F cf) (rounds : Nat) {f : FuncId} {args : List SV} {vs : Array Value} {m : MS} {u : FrameMode} {h : Hs} {k : FR → MS → Hs → V}
    (hk : deferX P cf rounds f args m h k = .ok) (H : HeapOK e F M h w) (hargs : VRs e M args vs.toList) (hu : MRel e M m u) : CallsD P f vs u w (RD e F M k) := by
  unfold deferX at hk
  split at hk
  · rename_i fn hf
    split at hk
    · rename_i c hb
      refine callsD_of_wpS hf hb fun c₀ cs hc₀ => ?_
      have hs := start_ok (D := []) H hargs fn.ntmps
      have hcc : ∀ u', { c₀ with mode := u' } = { c₀ with mode := u' } := fun _ => rfl
      have hc1 : c₀ = { c₀ with mode := u } := by subst hc₀; rfl
      -- the rest of a body, in a frame's state
      have rest : ∀ (c : Code) (s : St) (a : Act) (m : MS) (u' : FrameMode), execC P { cf with lp := fun _ => none } rounds c none s (finX P fn m · · k) = .ok → StOK e F M [] s a w → MRel e M m u' →
          c.wpS P (bodyPostS P fn c₀ cs (RD e F M k)) a ({ c₀ with mode := u' } :: cs) w := by
        intro c s a m u' hk hs hm'
        refine wpS_of_wp (wp_mono (execC_ok (cf := { cf with lp := fun _ => none }) hm (fun e hne => ⟨(hcf e hne).call, (hcf e hne).ext⟩) rounds c none e hne M s a w _ hk hs) ?_)
        intro en a' w' hq
        obtain ⟨M', x, s', h1, h2, h3, h4⟩ := hq
        exact bodyPostS_mono (fun _ _ _ h => RD.mono h1 h) (finX_ok h4 h2 h3 (hm'.mono h1) c₀ cs)
      split at hk
      · have := rest c _ _ m u hk hs hu
        rw [← hc1] at this
        exact this
      · rename_i d c' hrec
        -- what recover answers
        unfold recFirst at hrec
        split at hrec
        · rename_i id ops c1
          split at hrec
          · rename_i o ho
            cases hir : isRecover o with
            | false => rw [hir] at hrec; cases hrec
            | true =>
              rw [hir] at hrec
              simp only [cond_true, Option.some.injEq, Prod.mk.injEq] at hrec
              obtain ⟨rfl, rfl⟩ := hrec
              have hops : ops = #[o] := by apply Array.ext'; simpa using ho
              subst hops
              refine wpS_seq (wpS_region ?_)
              have hr := fun ev => isRecover_run (P := P) hir ev w
              have hw : ∀ tm, Region.wanted o (yielded #[o] tm) = true := by
                intro tm; unfold Region.wanted; rw [(hr (fun _ => undef)).1]
              simp only [List.size_toArray, List.length_singleton, List.range_succ, List.range_zero, List.nil_append, wpOpsS, List.getElem?_toArray, List.getElem?_cons_zero, hw, if_true, (hr _).2]
              cases hu with
              | ret =>
                have hrd : recoverD (c₀ :: cs) = none := by simp [recoverD, hc₀]
                rw [hrd]
                simp only [Exit.thenS]
                obtain ⟨s', g1, g2⟩ := put_ok hk hs (.nili)
                have := rest _ s' _ .ret .returning g2 g1 .ret
                rw [← hc1] at this
                exact this
              | got v x hv =>
                have hrd : recoverD (c₀ :: cs) = none := by simp [recoverD, hc₀]
                rw [hrd]
                simp only [Exit.thenS]
                obtain ⟨s', g1, g2⟩ := put_ok hk hs (.nili)
                have := rest _ s' _ (.got v) _ g2 g1 (.got v x hv)
                rw [← hc1] at this
                exact this
              | pan v x hv =>
                have hrd : recoverD (c₀ :: cs) = some (x, { c₀ with mode := .panicking [{ v := x, recovered := true }] } :: cs) := by simp [recoverD, hc₀]
                rw [hrd]
                simp only [Exit.thenS]
                obtain ⟨s', g1, g2⟩ := put_ok hk hs hv
                exact rest _ s' _ (.got v) _ g2 g1 (.got v x hv)
          · cases hrec
        · cases hrec
    · cases hk
  · cases hk

theorem invoke_fn (f : FuncId) (xc xs : Array Value) (w : World) (h : enters P f = true) : (invoke (.fn (.func f) xc) xs).run P w = .ok (.enter f (xs ++ xc)) w := by
  simp only [invoke]
  exact enters_ok h _

/-- What has been put off, at the end. -/
theorem leaveX_ok (hm : P.follows .mixedOrders = true) {e0 : Env} (hne : e0.near e) (hcf : ∀ e, e0.near e → CEOK P e F cf) (rounds : Nat) {fn : Func} {tmps : Array Value} {R : Ending → World → Prop} :
    ∀ (ds : List (Nat × List SV)) (M : Lay) (dd : List Deferred) (m : MS) (u : FrameMode) (h : Hs) (w : World) (k : MS → Hs → V), leaveX P cf rounds ds m h k = .ok → HeapOK e F M h w → DefR e M ds dd → MRel e M m u →
    (∀ M' m u h w, M.le M' → HeapOK e F M' h w → MRel e M' m u → k m h = .ok → Leaves P fn tmps R [] u w) → Leaves P fn tmps R dd u w := by
  intro ds
  induction ds with
  | nil =>
    intro M dd m u h w k hk H hd hu hR
    cases hd
    exact hR M m u h w M.le_refl H hu hk
  | cons d ds ih =>
    intro M dd m u h w k hk H hd hu hR
    cases hd with
    | cons f l xs xc _ dd' h1 h2 =>
      simp only [leaveX] at hk
      cases hen : enters P f with
      | false => rw [hen] at hk; cases hk
      | true =>
        rw [hen] at hk; simp only [cond_true] at hk
        refine leaves_cons hu.ne (invoke_fn f xc xs w hen) ?_
        refine (deferX_ok hm hne hcf rounds hk H h1 hu).mono ?_
        intro en u' w' hq
        obtain ⟨M', h', r, m', g1, g2, g3, g4, g5⟩ := hq
        cases g3 with
        | ret v x hv =>
          simp only at g5
          exact ih M' dd' _ _ h' w' k g5 g2 (h2.mono g1) g4.settle (fun M2 m u h w k1 => hR M2 m u h w (Lay.le_trans g1 k1))
        | pan v x hv =>
          cases g4 with
          | ret =>
            simp only at g5
            exact ih M' dd' (.pan v) _ h' w' k g5 g2 (h2.mono g1) (.pan v x hv) (fun M2 m u h w k1 => hR M2 m u h w (Lay.le_trans g1 k1))
          | pan v2 x2 hv2 => cases g5
          | got v2 x2 hv2 => cases g5

theorem bodyX_ok (hm : P.follows .mixedOrders = true) {e0 : Env} (hne : e0.near e) (hcf : ∀ e, e0.near e → CEOK P e F cf) (rounds : Nat) : CallOK P e F (bodyX P cf rounds) := by
  intro M h w f args vs k hk H hargs
  unfold bodyX at hk
  split at hk
  · rename_i fn hf
    split at hk
    · rename_i c hb
      refine calls_of_wp_defers hf hb ?_
      have hs := start_ok (D := []) H hargs fn.ntmps
      refine wp_mono (execC_ok hm hcf rounds c none e hne M _ _ w _ hk hs) ?_
      intro en a' w' hq
      obtain ⟨M', x, s', h1, h2, h3, h4⟩ := hq
      -- what comes of it at last
      have last : ∀ (M2 : Lay) (m : MS) (u : FrameMode) (h : Hs) (w : World), M'.le M2 → HeapOK e F M2 h w → MRel e M2 m u → outX P fn s'.tm k m h = .ok →
          Leaves P fn a'.tmps (fun en w' => ∃ M' h' r, M.le M' ∧ HeapOK e F M' h' w' ∧ FRel e M' r en ∧ k r h' = .ok) [] u w := by
        intro M2 m u h w hle H2 hmu ho
        cases hmu with
        | ret =>
          simp only [outX] at ho
          split at ho
          · rename_i l hl
            have hs2 : StOK e F M2 [] { s' with h := h } a' w := h2.heap' hle H2
            obtain ⟨v, g1, g2⟩ := results_ok (P := P) (s := { s' with h := h }) hs2 hl
            exact ⟨v, g1, M2, h, _, Lay.le_trans h1 hle, H2, .ret _ v g2, ho⟩
          · cases ho
        | pan v x hv => exact ⟨M2, h, _, Lay.le_trans h1 hle, H2, .pan v x hv, ho⟩
        | got v x hv => cases ho
      cases h3 with
      | normal => exact leaveX_ok hm hne hcf rounds _ M' _ .ret .returning _ _ _ h4 h2.heap h2.defs .ret last
      | ret => exact leaveX_ok hm hne hcf rounds _ M' _ .ret .returning _ _ _ h4 h2.heap h2.defs .ret last
      | panic v x hv => exact leaveX_ok hm hne hcf rounds _ M' _ (.pan v) _ _ _ _ h4 h2.heap h2.defs (.pan v x hv) last
      | exit id => cases h4
      | goto l => cases h4
    · cases hk
  · cases hk

theorem callN_ok (hm : P.follows .mixedOrders = true) {ext : FuncId → List SV → Option SV} (hext : ∀ e, ExtOK P e ext) {sums : FuncId → Option (CF → List SV → Hs → (FR → Hs → V) → V)} {loops : FuncId → Nat → Option LSpec}
    {e0 : Env} (hsum : ∀ f sm, sums f = some sm → ∀ cf : CF, (∀ e, e0.near e → CallOK P e F cf) → ∀ e, e0.near e → CallOK P e F (fun g args h k => if g = f then sm cf args h k else .bad 65 [])) (rounds : Nat) :
    ∀ n e, e0.near e → CallOK P e F (callN P ext sums loops rounds n) := by
  intro n
  induction n with
  | zero => intro e _ M h w f args vs k hk; cases hk
  | succ n ih =>
    intro e hne M h w f args vs k hk H hargs
    simp only [callN] at hk
    split at hk
    · rename_i sm hsm
      exact hsum f sm hsm _ ih e hne M h w f args vs k (by simp only [if_true]; exact hk) H hargs
    · exact bodyX_ok hm hne (fun e hne => ⟨ih e hne, hext e⟩) rounds M h w f args vs k hk H hargs

/-! ## Functions without a body -/

def indexByteS : List Nat → Nat → Option Nat
  | [], _ => none
  | b :: l, c => bif Nat.beq b c then some 0 else match indexByteS l c with
    | some i => some (i + 1)
    | none => none

def countByteS : List Nat → Nat → Nat
  | [], _ => 0
  | b :: l, c => bif Nat.beq b c then countByteS l c + 1 else countByteS l c

/-- ib: IndexByteString; cs: CountString. -/
def extOf (ib cs : Nat) (f : FuncId) (args : List SV) : Option SV :=
  bif Nat.beq f ib then match args with
    | [.str l, .int .u8 (.lit (.ofNat c))] => bif Nat.blt c 256 then some (.int .i64 (.lit (match indexByteS l c with
      | some i => .ofNat i
      | none => .negSucc 0))) else none
    | _ => none
  else bif Nat.beq f cs then match args with
    | [.str l, .int .u8 (.lit (.ofNat c))] => bif Nat.blt c 256 then some (.int .i64 (.lit (.ofNat (countByteS l c)))) else none
    | _ => none
  else none

theorem byte_eq {b c : Nat} (hb : b < 256) (hc : c < 256) : (b.toUInt8 == c.toUInt8) = Nat.beq b c := by
  rw [Bool.eq_iff_iff, beq_iff_eq, Nat.beq_eq]
  constructor
  · intro h
    have := congrArg UInt8.toNat h
    simp only [Nat.toUInt8, UInt8.toNat_ofNat'] at this
    omega
  · rintro rfl; rfl

theorem indexByteS_ok : ∀ {l : List Nat} {c : Nat}, (∀ x ∈ l, x < 256) → c < 256 → Lib.indexByte (l.map Nat.toUInt8) c.toUInt8 = (match indexByteS l c with
      | some i => .ofNat i
      | none => .negSucc 0 : Int) := by
  intro l
  induction l with
  | nil => intro c _ _; rfl
  | cons b l ih =>
    intro c hl hc
    simp only [List.map_cons, Lib.indexByte, byte_eq (hl b (by simp)) hc, indexByteS]
    cases hb : Nat.beq b c with
    | true => rfl
    | false =>
      simp only [cond_false, Bool.false_eq_true, if_false]
      rw [ih (fun x hx => hl x (by simp [hx])) hc]
      cases indexByteS l c with
      | none => rfl
      | some i =>
        simp only
        have : ((Int.ofNat i) == -1) = false := by
          rw [beq_eq_false_iff_ne]; simp
        rw [this]
        rfl

theorem countByteS_ok : ∀ {l : List Nat} {c : Nat}, (∀ x ∈ l, x < 256) → c < 256 → Lib.countByte (l.map Nat.toUInt8) c.toUInt8 = countByteS l c := by
  intro l
  induction l with
  | nil => intro c _ _; rfl
  | cons b l ih =>
    intro c hl hc
    have ih := ih (c := c) (fun x hx => hl x (by simp [hx])) hc
    unfold Lib.countByte at ih ⊢
    rw [List.map_cons, List.count_cons, ih, byte_eq (hl b (by simp)) hc, countByteS]
    cases Nat.beq b c <;> rfl

theorem extOf_ok {ib cs : Nat} (hib : ∀ vs w, (callFunc ib vs).run P w = ((Extern.BytealgIndexByte.indexByte vs).run P w).andThen fun v w' => .ok (.value v) w')
    (hcs : ∀ vs w, (callFunc cs vs).run P w = ((Extern.BytealgCount.count vs).run P w).andThen fun v w' => .ok (.value v) w') : ExtOK P e (extOf ib cs) := by
  intro M f args vs v w h hargs
  unfold extOf at h
  cases h1 : Nat.beq f ib with
  | true =>
    rw [h1] at h; simp only [cond_true] at h
    have := Nat.eq_of_beq_eq_true h1
    subst this
    split at h
    · rename_i l c
      cases hc : Nat.blt c 256 with
      | false => rw [hc] at h; cases h
      | true =>
        rw [hc] at h; cases h
        have hc' : c < 256 := by simpa [Nat.blt_eq] using hc
        obtain ⟨vs⟩ := vs
        cases hargs with
        | cons _ x _ vs' g1 g2 => cases g2 with
          | cons _ y _ vs'' g3 g4 =>
            cases g4
            cases g1 with
            | str _ hl =>
              cases g3
              refine ⟨_, ?_, .int .i64 _⟩
              rw [hib]
              simp only [ev_lit]
              rw [Lib.run_indexByteString]
              simp only [Result.andThen_ok]
              have hd : (bytesOf l).data.toList = l.map Nat.toUInt8 := by simp [bytesOf]
              have hcc : (Int.ofNat c).toNat.toUInt8 = c.toUInt8 := rfl
              rw [hd, hcc, indexByteS_ok hl hc']
    · cases h
  | false =>
    rw [h1] at h; simp only [cond_false] at h
    cases h2 : Nat.beq f cs with
    | false => rw [h2] at h; cases h
    | true =>
      rw [h2] at h; simp only [cond_true] at h
      have := Nat.eq_of_beq_eq_true h2
      subst this
      split at h
      · rename_i l c
        cases hc : Nat.blt c 256 with
        | false => rw [hc] at h; cases h
        | true =>
          rw [hc] at h; cases h
          have hc' : c < 256 := by simpa [Nat.blt_eq] using hc
          obtain ⟨vs⟩ := vs
          cases hargs with
          | cons _ x _ vs' g1 g2 => cases g2 with
            | cons _ y _ vs'' g3 g4 =>
              cases g4
              cases g1 with
              | str _ hl =>
                cases g3
                refine ⟨_, ?_, .int .i64 _⟩
                rw [hcs]
                simp only [ev_lit]
                rw [Lib.run_countString]
                simp only [Result.andThen_ok]
                have hd : (bytesOf l).data.toList = l.map Nat.toUInt8 := by simp [bytesOf]
                have hcc : (Int.ofNat c).toNat.toUInt8 = c.toUInt8 := rfl
                rw [hd, hcc, countByteS_ok hl hc']
                rfl
      · cases h

end
end Go.Sx

/- Operations that make memory or write it. -/
import Derived.Test.YtnhphhlojkhlcaaGreatDoorGxQuiet3
namespace Go.Sx
open Go Go.RowKit

/-- What a symbolic run comes to: all is well, or what is not. -/
inductive V where
  | ok
  | bad (n : Nat) (l : List SV)
  deriving Inhabited

def V.and : V → V → V
  | .ok, v => v
  | .bad n l, _ => .bad n l

theorem V.and_ok {a b : V} (h : a.and b = .ok) : a = .ok ∧ b = .ok := by
  cases a with
  | ok => exact ⟨rfl, h⟩
  | bad n l => cases h

section
variable {P : Program} {e : Env} {F : Base} {M : Lay} {h : Hs} {w : World}

/-- Behind an operation: its value, the memory. -/
def Post (e : Env) (F : Base) (M : Lay) (k : SV → Hs → V) (r : Result Value) : Prop :=
  ∃ z w' M' h' v, r = .ok z w' ∧ M.le M' ∧ HeapOK e F M' h' w' ∧ VR e M' v z ∧ k v h' = .ok

def UPost (e : Env) (F : Base) (M : Lay) (k : SV → Hs → V) (r : Result Unit) : Prop :=
  ∃ w' M' h' v, r = .ok () w' ∧ M.le M' ∧ HeapOK e F M' h' w' ∧ VR e M' v undef ∧ k v h' = .ok

theorem run_newRow (el : TypeId) (c : Array Value) : (newRow el c).run P w = .ok ⟨w.heap.size, 0, none⟩ { w with heap := w.heap.push (.cells c el) } := by
  simp [newRow]

/-- A row more. -/
theorem post_row (H : HeapOK e F M h w) {cs : List SV} {c : Array Value} (el : TypeId) (hcs : VRs e M cs c.toList) :
    M.le (M.put h.hn w.heap.size c.size) ∧ HeapOK e F (M.put h.hn w.heap.size c.size) (h.alloc (.row cs el true)) { w with heap := w.heap.push (.cells c el) } :=
  H.alloc _ _ _ (fun M' hM => .row cs el true c c.toList [] (0, 0) (by simp) (hcs.mono hM) (fun _ => rfl))

variable (P)
def allocS (h : Hs) (t : TypeId) (k : SV → Hs → V) : V :=
  match zeroS P t with
  | some z => k (.ptr h.hn (.lit 0)) (h.alloc (.row (z.cells.toList.map scal) t true))
  | none => .bad 1 []

def boxS (h : Hs) (t : TypeId) (x : SV) (k : SV → Hs → V) : V :=
  match x.cells with
  | some l => k (.ptr h.hn (.lit 0)) (h.alloc (.row l t true))
  | none => .bad 2 [x]

variable {P}
theorem allocS_ok (H : HeapOK e F M h w) {t : TypeId} {k : SV → Hs → V} (hk : allocS P h t k = .ok) : Post e F M k ((Instr.alloc t true (.tuple #[])).run P w) := by
  unfold allocS at hk
  split at hk
  · rename_i z hz
    have hp := post_row H t (scals_ok (e := e) (M := M) z.cells.toList)
    refine ⟨_, _, _, _, _, ?_, hp.1, hp.2, .ptr h.hn (.lit 0) w.heap.size z.cells.size (Lay.put_same _ _ _) (Int.le_refl _), hk⟩
    simp [Instr.alloc, zeroS_ok hz, newVar, run_newRow, ev_lit]
  · cases hk

theorem boxS_ok (H : HeapOK e F M h w) {t : TypeId} {x : SV} {vx : Value} {k : SV → Hs → V} (hk : boxS h t x k = .ok) (hx : VR e M x vx) : Post e F M k ((Instr.box t vx).run P w) := by
  unfold boxS at hk
  split at hk
  · rename_i l hl
    have hc := (cells_ok hx hl).1
    have hp := post_row H t hc
    refine ⟨_, _, _, _, _, ?_, hp.1, hp.2, .ptr h.hn (.lit 0) w.heap.size vx.cells.size (Lay.put_same _ _ _) (Int.le_refl _), hk⟩
    simp [Instr.box, newVar, run_newRow, ev_lit]
  · cases hk

/-! ## Stores -/

variable (P)
def storeS (h : Hs) (t : TypeId) (a x : SV) (k : SV → Hs → V) : V :=
  match a with
  | .ptr b off => match h.hp.get b with
    | some (.row cs el true) => match litNat h.fs off with
      | some n => match x.cells with
        | some l => match sizeS P t with
          | some m => bif Nat.beq l.length m && Nat.ble (n + m) cs.length then k .junk (h.upd b (.row (overlayS cs n l) el true)) else .bad 3 [a, x]
          | none => .bad 4 []
        | none => .bad 5 [x]
      | none => .bad 6 [a]
    | some (.ints kd bits L el true) => match x with
      | .int kd' p => if kd' = kd ∧ sizeS P t = some 1 then bif nonneg h.fs off && nonpos h.fs (T.sub (T.addc 1 off) (lenL L)) && inBits h.fs bits p then k .junk (h.upd b (.ints kd bits (lsetT L off p) el true)) else .bad 9 [a, x]
        else .bad 9 [a, x]
      | _ => .bad 9 [a, x]
    | _ => .bad 7 [a]
  | _ => .bad 8 [a]

variable {P}
theorem storeS_ok (H : HeapOK e F M h w) {t : TypeId} {a x : SV} {va vx : Value} {k : SV → Hs → V} (hk : storeS P h t a x k = .ok) (ha : VR e M a va) (hx : VR e M x vx) :
    UPost e F M k ((Instr.storeAt t va vx).run P w) := by
  unfold storeS at hk
  split at hk
  · rename_i b off
    cases ha with
    | ptr _ _ r n hM hoff =>
      split at hk
      · rename_i cs el hg
        obtain ⟨r', n', y, h1, h2, h3⟩ := H.live b _ hg rfl
        rw [hM] at h1; cases h1
        cases h3 with
        | row _ _ _ c pre rest fr hc hcs hfr =>
          cases hfr rfl
          split at hk
          · rename_i m hm
            have ho := litNat_ok H.fact hm
            have hom : (off.ev e).toNat = m := by omega
            split at hk
            · rename_i l hl
              split at hk
              · rename_i sz hsz
                cases hle : (Nat.beq l.length sz && Nat.ble (m + sz) cs.length) with
                | false => rw [hle] at hk; cases hk
                | true =>
                  rw [hle] at hk; simp only [cond_true] at hk
                  simp only [Bool.and_eq_true] at hle
                  have g1 := Nat.eq_of_beq_eq_true hle.1
                  have g2 := Nat.le_of_ble_eq_true hle.2
                  obtain ⟨hvl, hone⟩ := cells_ok hx hl
                  have hlen := hvl.length
                  have hcl := hcs.length
                  have hsize : c.size = pre.length + rest.length := by
                    have := congrArg List.length hc; simpa using this
                  obtain ⟨w', hr1, hr2, hr3, hr4, hr5⟩ := storeCells_run (P := P) m vx.cells.toList 0 c w h2 (by omega) hone
                  obtain ⟨pre', hp1, hp2⟩ := overlay_ok (rest := rest) l vx.cells.toList cs pre m hvl hcs (by omega)
                  have hnew : (overlay c.toList m vx.cells.toList).toArray.size = c.size := by simp [overlay_length]
                  refine ⟨w', M, _, .junk, ?_, M.le_refl, ?_, .junk _, hk⟩
                  · simp only [Instr.storeAt, Instr.sureAddr, storeVar, Sem.run_bind, Sem.run_pure, Result.andThen_ok, sizeS_ok hsz]
                    have hns : ¬ (vx.cells.size ≠ sz) := by
                      simp only [Array.length_toList] at hlen; omega
                    rw [if_neg hns, hom]
                    exact hr1
                  · refine H.upd hg rfl rfl hM hr2 hr3 hr4 hr5 (fun _ => ?_)
                    rw [← hnew]
                    exact .row _ el true _ pre' rest (0, 0) (by simp [hc, hp1]) hp2 (fun _ => rfl)
              · cases hk
            · cases hk
          · cases hk
      · rename_i kd bits L el hg
        obtain ⟨r', n', y, h1, h2, h3⟩ := H.live b _ hg rfl
        rw [hM] at h1; cases h1
        split at hk
        · rename_i kd' p
          split at hk
          · rename_i hcond
            obtain ⟨rfl, hsz⟩ := hcond
            cases hx
            cases h3 with
            | ints _ _ _ _ _ c rest fr hc hrng hfr =>
              cases hfr rfl
              cases hb : (nonneg h.fs off && nonpos h.fs (T.sub (T.addc 1 off) (lenL L)) && inBits h.fs bits p) with
              | false => rw [hb] at hk; cases hk
              | true =>
                rw [hb] at hk; simp only [cond_true] at hk
                simp only [Bool.and_eq_true] at hb
                have hn := nonpos_ok H.fact hb.1.2
                rw [sub_ev, addc_ev, lenL_ev] at hn
                have hlt : (off.ev e).toNat < (L.evl e).length := by omega
                have hp := inBits_ok H.fact hb.2
                have hsize : c.size = (L.evl e).length + rest.length := by
                  have := congrArg List.length hc; simpa using this
                obtain ⟨w', hr1, hr2, hr3, hr4, hr5⟩ := storeCells_run (P := P) (off.ev e).toNat [Value.int kd' (p.ev e)] 0 c w h2 (by simp; omega) (by intro z hz; simp at hz; subst hz; rfl)
                have hov : overlay c.toList (off.ev e).toNat [Value.int kd' (p.ev e)] = ((lsetT L off p).evl e).map (Value.int kd') ++ rest := by
                  simp only [overlay, lsetT_evl, hc]
                  rw [List.set_append_left _ _ (by simpa using hlt), List.map_set]
                have hnew : (overlay c.toList (off.ev e).toNat [Value.int kd' (p.ev e)]).toArray.size = c.size := by simp [overlay_length]
                refine ⟨w', M, _, .junk, ?_, M.le_refl, ?_, .junk _, hk⟩
                · simp only [Instr.storeAt, Instr.sureAddr, storeVar, Sem.run_bind, Sem.run_pure, Result.andThen_ok, sizeS_ok hsz]
                  have hcs : (Value.int kd' (p.ev e)).cells = #[Value.int kd' (p.ev e)] := rfl
                  rw [hcs]
                  simpa using hr1
                · refine H.upd hg rfl rfl hM hr2 hr3 hr4 hr5 (fun _ => ?_)
                  rw [← hnew]
                  refine .ints kd' bits _ el true _ rest (0, 0) (by simp [hov]) ?_ (fun _ => rfl)
                  intro z hz
                  rw [lsetT_evl] at hz
                  rcases List.mem_or_eq_of_mem_set hz with hz | rfl
                  · exact hrng z hz
                  · exact hp
          · cases hk
        · cases hk
      · cases hk
  · cases hk

end
end Go.Sx

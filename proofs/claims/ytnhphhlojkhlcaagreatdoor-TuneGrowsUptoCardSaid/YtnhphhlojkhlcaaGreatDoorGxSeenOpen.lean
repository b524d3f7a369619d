/- A slice of bytes as an argument: opened, and shut again behind more blocks. Nothing is claimed here. -/
import Derived.Test.YtnhphhlojkhlcaaGreatDoorGrowLaw
import Derived.ChangeSlices
import Derived.Test.YtnhphhlojkhlcaaGreatDoorRows
namespace Go.Proofs.YtnhphhlojkhlcaaGreatDoor
open Go Go.Sx Go.ChangeShapes Go.WideShapes Go.ChangeAt Go.RowKit

theorem bulk_one {H : Type} (d : DataW H) : 1 ≤ Rows.uptoBulk d := by
  cases d with
  | lit l => cases l <;> simp [Rows.uptoBulk]
  | nil => simp [Rows.uptoBulk]
  | ptr d => simp [Rows.uptoBulk]
  | slice elems spare => simp [Rows.uptoBulk]
  | agg parts => simp [Rows.uptoBulk]
  | iface t d => simp [Rows.uptoBulk]
  | map entries => simp [Rows.uptoBulk]
  | held h => simp [Rows.uptoBulk]
theorem bulk_len {H : Type} (l : List (DataW H)) : l.length ≤ Rows.uptoBulkAll l := by
  induction l with
  | nil => simp [Rows.uptoBulkAll]
  | cons x r ih => have := bulk_one x; simp only [Rows.uptoBulkAll, List.length_cons]; omega

theorem bytes26 : Tryz.prog.bytesOf 5 = 1 := by kernel_rfl

section
variable {H : Type} {enc : TypeId × Value → H}

/-- Behind more blocks it reads as it did. -/
def ShutsB (enc : TypeId × Value → H) (w : World) (v : Value) (d : DataW H) (p : List MemPlace) : Prop :=
  ∀ w' : World, (∀ k, k < w.heap.size → w'.heap[k]? = w.heap[k]?) → ∀ sp : Nat → Bool, (∀ k, k < w.heap.size → sp k = true) → DataW.Trod enc Tryz.prog w' 0 sp true 26 v d p

theorem cell_keptB {w w' : World} {a : Addr} {x : Value} (h : w.cell? a = some x) (hk : ∀ k, k < w.heap.size → w'.heap[k]? = w.heap[k]?) : w'.cell? a = some x ∧ a.block < w.heap.size := by
  unfold World.cell? at h ⊢
  cases hb : w.heap[a.block]? with
  | none => rw [hb] at h; cases h
  | some o =>
    have hlt := (Array.getElem?_eq_some_iff.1 hb).1
    rw [hk _ hlt]
    exact ⟨h, hlt⟩

set_option maxRecDepth 100000 in
theorem open_seen {w : World} {r : Reach} {b0 : Nat} {v : Value} {d : DataW H} {p : List MemPlace} (hval : Value.okWide Tryz.prog w r b0 26 v) (h : DataW.Trod enc Tryz.prog w 0 (fun _ => true) true 26 v d p)
    (hsz : (d.weights Tryz.prog 26).all (· ≤ reachBytes) = true) : ∃ S, Seen w v S ∧ ShutsB enc w v d p ∧ ∀ B : Nat, Rows.uptoBulk d ≤ B → S.length ≤ B := by
  obtain ⟨a0, len0, cap0, rfl⟩ := okWide_slice Tryz.underlying26 hval
  obtain ⟨fuel, hf⟩ := h
  have hspot : ∀ a, a0 = some a → a.spot = none := by
    intro a ha
    subst ha
    simp only [Value.okWide, Tryz.underlying26, Cell.okWide, Cell.ok] at hval
    exact hval.2.2.2.1
  rcases open_ints Tryz.underlying26 Tryz.underlying5 cells5 hf with ⟨h1, h2⟩ | ⟨a, len, cap, zs, h1, _, hlc, hcm, hm, hx, hcell, hwf⟩
  · have hcs : Value.slice a0 len0 cap0 = .slice none 0 0 := (List.cons.inj (show [Value.slice a0 len0 cap0] = [_] from h1)).1
    rw [hcs]
    cases h2
    refine ⟨[], .none, ?_, fun B _ => Nat.zero_le _⟩
    intro w' _ sp _
    refine ⟨1, ?_⟩
    simp [DataW.trod, Tryz.underlying26, Value.cells]
  · have hcs : Value.slice a0 len0 cap0 = .slice (some a) len cap := (List.cons.inj (show [Value.slice a0 len0 cap0] = [_] from h1)).1
    rw [hcs]
    have ha0 : a0 = some a := by cases hcs; rfl
    have hsp := hspot a ha0
    obtain ⟨r, off, spot⟩ := a
    simp only at hsp
    subst hsp
    simp only [if_true] at hm
    have hadd : ∀ k, (⟨r, off, none⟩ : Addr).add k = ⟨r, off + k, none⟩ := by
      intro k
      unfold Addr.add
      split
      · rename_i hk; rw [hk]; rfl
      · rfl
    have hcell' : ∀ i, i < zs.length → w.cell? ⟨r, off + i, none⟩ = some (.int .u8 (zs.getD i 0)) := by
      intro i hi
      have := hcell i hi
      rw [hadd] at this
      exact this
    cases hx
    have hcap : ∀ B : Nat, ((DataW.slice (H := H) (lits .u8 (zs.take len)) (lits .u8 (zs.drop len))).weights Tryz.prog 26).all (· ≤ B) = true → cap ≤ B := by
      intro B hB
      simp only [DataW.weights, Tryz.underlying26, List.all_cons, Bool.and_eq_true, decide_eq_true_eq, lits, List.length_map, List.length_take, List.length_drop, bytes26] at hB
      have := hB.1
      omega
    have hbulk : ∀ B : Nat, Rows.uptoBulk (DataW.slice (H := H) (lits .u8 (zs.take len)) (lits .u8 (zs.drop len))) ≤ B → cap ≤ B := by
      intro B hB
      have h1 := bulk_len (lits (H := H) .u8 (zs.take len))
      have h2 := bulk_len (lits (H := H) .u8 (zs.drop len))
      simp only [Rows.uptoBulk] at hB
      simp only [lits, List.length_map, List.length_take, List.length_drop] at h1 h2
      simp only [lits] at hB
      omega
    have hct : (cap : Int) ≤ top := by
      have h1 := hcap reachBytes hsz
      have h2 : reachBytes = 140737488351232 := by decide
      have h3 : top = 140737488355328 := rfl
      omega
    have hshut : ShutsB enc w (.slice (some ⟨r, off, none⟩) len cap) (.slice (lits .u8 (zs.take len)) (lits .u8 (zs.drop len))) (MemPlace.row ⟨r, off, none⟩ zs.length) := by
      intro w' hk sp hspk
      have hz : zs.length = (if sp r then cap else len) := by
        cases hb : sp r with
        | true => simpa using hm
        | false =>
          by_cases hz0 : zs.length = 0
          · simp; omega
          · have := (cell_keptB (hcell' 0 (by omega)) (fun _ _ => rfl)).2
            rw [hspk r this] at hb; cases hb
      exact ⟨2, shut_ints' 0 Tryz.underlying26 Tryz.underlying5 cells5 (Nat.zero_le _) hlc hcm hz (fun i hi => (cell_keptB (hcell' i hi) hk).1) hwf⟩
    by_cases hl0 : len = 0
    · subst hl0
      exact ⟨[], .empty r off cap hct, hshut, fun B _ => Nat.zero_le _⟩
    · have hblk : ∃ arr el fr, w.heap[r]? = some (.cells arr el fr) := by
        have c1 := hcell' 0 (by omega)
        unfold World.cell? at c1
        split at c1
        · rename_i arr el fr hh; exact ⟨arr, el, fr, hh⟩
        · cases c1
      obtain ⟨arr, el, fr, hh⟩ := hblk
      have at_ : ∀ k x, w.cell? ⟨r, k, none⟩ = some x → arr[k]? = some x := by
        intro k x hx
        unfold World.cell? at hx
        simp only [hh] at hx
        simpa using hx
      have hsize : off + cap ≤ arr.size := by
        have := (Array.getElem?_eq_some_iff.1 (at_ _ _ (hcell' (cap - 1) (by omega)))).1
        omega
      refine ⟨zs.take len, .some r off len cap arr el fr _ (by omega) hlc hct hsize hh (by simp; omega) ?_, hshut, fun B hB => by have := hbulk B hB; simp; omega⟩
      intro i x hi
      rw [List.getElem?_take] at hi
      split at hi
      · obtain ⟨hlt, hxx⟩ := List.getElem?_eq_some_iff.1 hi
        have h1 := at_ _ _ (hcell' i hlt)
        have h2 : zs.getD i 0 = x := by rw [List.getD_eq_getElem?_getD, hi]; rfl
        rw [h2] at h1
        have h3 := wf8.1 (hwf x (by rw [← hxx]; exact List.getElem_mem hlt))
        exact ⟨h1, h3.1, by omega⟩
      · cases hi
end
end Go.Proofs.YtnhphhlojkhlcaaGreatDoor

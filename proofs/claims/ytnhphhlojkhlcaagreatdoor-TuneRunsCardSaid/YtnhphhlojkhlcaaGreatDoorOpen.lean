/- A slice of cells as an argument: opened, and shut again behind more blocks. Nothing is claimed here. -/
import Derived.Test.YtnhphhlojkhlcaaGreatDoorMemC
import Derived.Deep.SlicePairs
namespace Go.Proofs.YtnhphhlojkhlcaaGreatDoor
open Go Go.Sx Go.ChangeShapes Go.WideShapes Go.ChangeAt Go.RowKit

theorem cells47 : Tryz.prog.cellsOf 47 = 2 := by kernel_rfl
theorem bytes47 : Tryz.prog.bytesOf 47 = 4 := by kernel_rfl

def numV : Value → Int
  | .int _ n => n
  | _ => 0

section
variable {H : Type} {enc : TypeId × Value → H}

/-- Behind more blocks it reads as it did. -/
def Shuts (enc : TypeId × Value → H) (w : World) (v : Value) (d : DataW H) (p : List MemPlace) : Prop :=
  ∀ w' : World, (∀ k, k < w.heap.size → w'.heap[k]? = w.heap[k]?) → ∀ sp : Nat → Bool, (∀ k, k < w.heap.size → sp k = true) → DataW.Trod enc Tryz.prog w' 0 sp true 25 v d p

theorem cell_kept {w w' : World} {a : Addr} {x : Value} (h : w.cell? a = some x) (hk : ∀ k, k < w.heap.size → w'.heap[k]? = w.heap[k]?) : w'.cell? a = some x ∧ a.block < w.heap.size := by
  unfold World.cell? at h ⊢
  cases hb : w.heap[a.block]? with
  | none => rw [hb] at h; cases h
  | some o =>
    have hlt := (Array.getElem?_eq_some_iff.1 hb).1
    rw [hk _ hlt]
    exact ⟨h, hlt⟩

set_option maxRecDepth 100000 in
theorem open_cells {w : World} {r : Reach} {b0 : Nat} {v : Value} {d : DataW H} {p : List MemPlace} (hval : Value.okWide Tryz.prog w r b0 25 v) (h : DataW.Trod enc Tryz.prog w 0 (fun _ => true) true 25 v d p)
    (hsz : (d.weights Tryz.prog 25).all (· ≤ reachBytes) = true) : ∃ C n, Cells w v C n ∧ Shuts enc w v d p := by
  obtain ⟨a0, len0, cap0, rfl⟩ := okWide_slice Tryz.underlying25 hval
  obtain ⟨fuel, hf⟩ := h
  have hspot : ∀ a, a0 = some a → a.spot = none := by
    intro a ha
    subst ha
    simp only [Value.okWide, Tryz.underlying25, Cell.okWide, Cell.ok] at hval
    exact hval.2.2.2.1
  rcases Go.Deep.open_slice_pairs Tryz.underlying25 Tryz.underlying47 cells47 rfl rfl cells22 cells5 hf with ⟨h1, h2⟩ | ⟨a, len, cap, m, n, V0, V1, D0, D1, P0, P1, h1, _, hlc, hcm, hm, hx, hcell⟩
  · have hcs : Value.slice a0 len0 cap0 = .slice none 0 0 := (List.cons.inj (show [Value.slice a0 len0 cap0] = [_] from h1)).1
    rw [hcs]
    cases h2
    refine ⟨[], 0, .none, ?_⟩
    intro w' _ sp _
    refine ⟨1, ?_⟩
    simp [DataW.trod, Tryz.underlying25, Value.cells]
  · have hcs : Value.slice a0 len0 cap0 = .slice (some a) len cap := (List.cons.inj (show [Value.slice a0 len0 cap0] = [_] from h1)).1
    rw [hcs]
    have ha0 : a0 = some a := by cases hcs; rfl
    have hsp := hspot a ha0
    obtain ⟨r, off, spot⟩ := a
    simp only at hsp
    subst hsp
    simp only [if_true] at hm
    subst hm
    have hadd : ∀ k, (⟨r, off, none⟩ : Addr).add k = ⟨r, off + k, none⟩ := by
      intro k
      unfold Addr.add
      split
      · rename_i hk; rw [hk]; rfl
      · rfl
    have vals : ∀ i, i < m → ∃ x y, V0 i = .int .u16 x ∧ V1 i = .int .u8 y ∧ (0 ≤ x ∧ x ≤ 65535) ∧ (0 ≤ y ∧ y ≤ 255) ∧ w.cell? ⟨r, off + i * 2, none⟩ = some (.int .u16 x) ∧ w.cell? ⟨r, off + (i * 2 + 1), none⟩ = some (.int .u8 y) := by
      intro i hi
      obtain ⟨c1, c2, c3, c4⟩ := hcell i hi
      obtain ⟨x, f0, _, w0⟩ := DataW.trod_int Tryz.underlying22 c3
      obtain ⟨y, f1, _, w1⟩ := DataW.trod_int Tryz.underlying5 c4
      have g0 : V0 i = .int .u16 x := (List.cons.inj f0).1
      have g1 : V1 i = .int .u8 y := (List.cons.inj f1).1
      rw [hadd, g0] at c1
      rw [hadd, g1] at c2
      exact ⟨x, y, g0, g1, wf16.1 w0, wf8.1 w1, c1, c2⟩
    have hshut : Shuts enc w (.slice (some ⟨r, off, none⟩) len m) d p := by
      intro w' hk sp hspk
      cases hx
      by_cases hm0 : m = 0
      · subst hm0
        have hl0 : len = 0 := by omega
        subst hl0
        cases hb : sp r with
        | true => exact Go.Deep.shut_slice_pairs_whole Tryz.underlying25 Tryz.underlying47 cells47 rfl rfl cells22 cells5 (Nat.zero_le _) hlc hcm hb V0 V1 D0 D1 P0 P1 (fun i hi => by omega) (fun i hi => by omega) (fun i hi => by omega) (fun i hi => by omega)
        | false =>
          have := Go.Deep.shut_slice_pairs (enc := enc) (w := w') (base := 0) (held := true) Tryz.underlying25 Tryz.underlying47 cells47 rfl rfl cells22 cells5 (b := r) (off := off) (Nat.zero_le _) hlc hcm hb V0 V1 D0 D1 P0 P1 (fun i hi => by omega) (fun i hi => by omega) (fun i hi => by omega) (fun i hi => by omega)
          exact this
      · have hr : r < w.heap.size := by
          obtain ⟨x, y, _, _, _, _, c1, _⟩ := vals 0 (by omega)
          exact (cell_kept c1 (fun _ _ => rfl)).2
        refine Go.Deep.shut_slice_pairs_whole Tryz.underlying25 Tryz.underlying47 cells47 rfl rfl cells22 cells5 (Nat.zero_le _) hlc hcm (hspk r hr) V0 V1 D0 D1 P0 P1 ?_ ?_ ?_ ?_
        · intro i hi
          obtain ⟨x, y, g0, g1, _, _, c1, c2⟩ := vals i hi
          rw [g0]; exact (cell_kept c1 hk).1
        · intro i hi
          obtain ⟨x, y, g0, g1, _, _, c1, c2⟩ := vals i hi
          rw [g1]; exact (cell_kept c2 hk).1
        · intro i hi
          obtain ⟨c1, c2, c3, c4⟩ := hcell i hi
          obtain ⟨x, f0, f1, w0⟩ := DataW.trod_int Tryz.underlying22 c3
          have g0 : V0 i = .int .u16 x := (List.cons.inj f0).1
          rw [Prod.mk.injEq] at f1
          rw [g0, f1.1, f1.2]
          exact ⟨1, trod_int_mk 0 Tryz.underlying22 w0⟩
        · intro i hi
          obtain ⟨c1, c2, c3, c4⟩ := hcell i hi
          obtain ⟨x, f0, f1, w0⟩ := DataW.trod_int Tryz.underlying5 c4
          have g0 : V1 i = .int .u8 x := (List.cons.inj f0).1
          rw [Prod.mk.injEq] at f1
          rw [g0, f1.1, f1.2]
          exact ⟨1, trod_int_mk 0 Tryz.underlying5 w0⟩
    have hreach : (m : Int) ≤ reach := by
      cases hx
      simp only [DataW.weights, Tryz.underlying25, List.all_cons, Bool.and_eq_true, decide_eq_true_eq, List.length_map, List.length_range, bytes47] at hsz
      have h1 := hsz.1
      have h2 : reachBytes = 140737488351232 := by decide
      have h3 : reach = 140737488355328 := rfl
      omega
    by_cases hm0 : m = 0
    · subst hm0
      have hl0 : len = 0 := by omega
      subst hl0
      exact ⟨[], 0, .empty r off, hshut⟩
    · have hblk : ∃ arr el fr, w.heap[r]? = some (.cells arr el fr) := by
        obtain ⟨x, y, _, _, _, _, c1, _⟩ := vals 0 (by omega)
        unfold World.cell? at c1
        split at c1
        · rename_i arr el fr hh; exact ⟨arr, el, fr, hh⟩
        · cases c1
      obtain ⟨arr, el, fr, hh⟩ := hblk
      have at_ : ∀ k x, w.cell? ⟨r, k, none⟩ = some x → arr[k]? = some x := by
        intro k x hx
        unfold World.cell? at hx
        simp only [hh] at hx
        simpa using hx
      have hsize : off + m * 2 ≤ arr.size := by
        obtain ⟨x, y, _, _, _, _, _, c2⟩ := vals (m - 1) (by omega)
        have := (Array.getElem?_eq_some_iff.1 (at_ _ _ c2)).1
        omega
      refine ⟨(List.range (2 * len)).map fun q => numV (arr[off + q]?.getD (.int .u8 0)), len, .some r off len m arr el fr _ hlc hreach hsize hh (by simp) ?_, hshut⟩
      intro q x hq
      rw [List.getElem?_map] at hq
      obtain ⟨q', g1, g2⟩ := Option.map_eq_some_iff.1 hq
      obtain ⟨hlt, hq'⟩ := List.getElem?_eq_some_iff.1 g1
      rw [List.length_range] at hlt
      rw [List.getElem_range] at hq'
      subst hq'
      obtain ⟨y, z, _, _, hy, hz, c1, c2⟩ := vals (q / 2) (by omega)
      rcases Nat.mod_two_eq_zero_or_one q with hm2 | hm2
      · have he : off + q / 2 * 2 = off + q := by omega
        rw [he] at c1
        have := at_ _ _ c1
        rw [this] at g2 ⊢
        simp only [Option.getD_some, numV] at g2
        subst g2
        rw [hm2]
        exact ⟨rfl, hy.1, by show y < 65536; omega⟩
      · have he : off + (q / 2 * 2 + 1) = off + q := by omega
        rw [he] at c2
        have := at_ _ _ c2
        rw [this] at g2 ⊢
        simp only [Option.getD_some, numV] at g2
        subst g2
        rw [hm2]
        exact ⟨rfl, hz.1, by show z < 256; omega⟩
end
end Go.Proofs.YtnhphhlojkhlcaaGreatDoor

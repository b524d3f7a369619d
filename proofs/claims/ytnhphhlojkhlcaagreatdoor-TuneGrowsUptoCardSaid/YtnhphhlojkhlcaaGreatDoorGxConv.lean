/- Strings as bytes. -/
import Derived.Test.YtnhphhlojkhlcaaGreatDoorGxIter
import Derived.Lib.ConvBytes
namespace Go.Sx
open Go Go.RowKit

section
variable {P : Program} {e : Env} {F : Base} {M : Lay} {h : Hs} {w : World}

variable (P)
def isBytes (t : TypeId) : Option TypeId := match P.underlying t with
  | some (.slice el) => match P.underlying el with
    | some (.int .u8) => some el
    | _ => none
  | _ => none

def strBytesS (h : Hs) (src : TypeId) (el : TypeId) (l : List Nat) (k : SV → Hs → V) : V :=
  bif (P.underlying src).isSome then k (.slice h.hn (.lit 0) (.lit (.ofNat l.length)) none 1) (h.alloc (.row (l.map fun (c : Nat) => SV.int .u8 (.lit (.ofNat c))) el false)) else .bad 86 []

variable {P}
theorem strCells_ok (l : List Nat) (hl : ∀ x ∈ l, x < 256) : VRs e M (l.map fun (c : Nat) => SV.int .u8 (.lit (.ofNat c))) ((bytesOf l).data.toList.map fun b => Value.int .u8 b.toNat) := by
  have : (bytesOf l).data.toList.map (fun b => Value.int .u8 b.toNat) = l.map fun (c : Nat) => Value.int .u8 c := by
    simp only [bytesOf, List.map_map]
    apply List.map_congr_left
    intro x hx
    have := hl x hx
    simp only [Function.comp, UInt8.toNat_ofNat']
    congr 1
    omega
  rw [this]
  clear this
  induction l with
  | nil => exact .nil
  | cons c l ih => exact .cons _ _ _ _ (.int .u8 (.lit (.ofNat c))) (ih (fun x hx => hl x (by simp [hx])))

theorem strBytesS_ok (H : HeapOK e F M h w) {src dst el : TypeId} {l : List Nat} {k : SV → Hs → V} (hb : isBytes P dst = some el) (hk : strBytesS P h src el l k = .ok) (hl : ∀ x ∈ l, x < 256) :
    Post e F M k ((convert src dst (.string (bytesOf l))).run P w) := by
  unfold strBytesS at hk
  unfold isBytes at hb
  split at hb
  · rename_i el' hd
    split at hb
    · rename_i he
      cases hb
      cases hs : P.underlying src with
      | none => rw [hs] at hk; cases hk
      | some u =>
        rw [hs] at hk; simp only [Option.isSome_some, cond_true] at hk
        have hrun := Lib.run_convert_string_bytes w src dst el (bytesOf l) hs hd he
        have hsz : (bytesOf l).size = l.length := bytesOf_size l
        have hcap : (bytesOf l).size ≤ grownCap w (bytesOf l).size 0 el := by
          unfold grownCap; simp only [Question.cut]; omega
        have hcs : (Lib.bytesCells w el (bytesOf l)).size = grownCap w (bytesOf l).size 0 el := by
          unfold Lib.bytesCells
          simp only [Array.size_append, Array.size_map, Array.size_replicate]
          have : (bytesOf l).data.size = (bytesOf l).size := rfl
          omega
        have hw : (Lib.bytesWorld w el (bytesOf l)).heap = w.heap.push (.cells (Lib.bytesCells w el (bytesOf l)) el ((Lib.bytesCells w el (bytesOf l)).size, (Lib.bytesCells w el (bytesOf l)).size + 1)) := by
          apply Array.ext_getElem?
          intro j
          rw [Array.getElem?_push]
          by_cases hj : j = w.heap.size
          · subst hj; rw [if_pos rfl]; exact Lib.bytesWorld_at_new w el (bytesOf l)
          · rw [if_neg hj]
            by_cases hlt : j < w.heap.size
            · exact Lib.bytesWorld_at_old w el (bytesOf l) j hlt
            · have h9 : (Lib.bytesWorld w el (bytesOf l)).heap.size = w.heap.size + 1 := Lib.bytesWorld_size w el (bytesOf l)
              rw [Array.getElem?_eq_none (by rw [h9]; omega), Array.getElem?_eq_none (by omega)]
        have hp := H.alloc (.row (l.map fun (c : Nat) => SV.int .u8 (.lit (.ofNat c))) el false) (.cells (Lib.bytesCells w el (bytesOf l)) el ((Lib.bytesCells w el (bytesOf l)).size, (Lib.bytesCells w el (bytesOf l)).size + 1)) (Lib.bytesCells w el (bytesOf l)).size
          (fun M' hM => .row _ el false _ ((bytesOf l).data.toList.map fun b => Value.int .u8 b.toNat) (Array.replicate (grownCap w (bytesOf l).size 0 el - (bytesOf l).size) (.int .u8 0)).toList _
            (by unfold Lib.bytesCells; simp only [Array.toList_append, Array.toList_map]) (strCells_ok l hl) (fun hx => by cases hx))
        refine ⟨_, _, _, _, _, hrun, hp.1, hp.2.same hw rfl rfl rfl, ?_, hk⟩
        have := VR.slice (e := e) (M := M.put h.hn w.heap.size (Lib.bytesCells w el (bytesOf l)).size) h.hn (.lit 0) (.lit (.ofNat l.length)) none 1 w.heap.size (Lib.bytesCells w el (bytesOf l)).size (grownCap w (bytesOf l).size 0 el) (Lay.put_same _ _ _) (Int.le_refl _)
          (by rw [ev_lit]; exact Int.natCast_nonneg _) (by rw [ev_lit]; show l.length ≤ _; omega) (fun t ht => by cases ht) ⟨by rw [ev_lit, hcs]; simp, fun _ => by rw [ev_lit, hcs]; simp⟩
        rw [ev_lit, ev_lit] at this
        rw [hsz] at this ⊢
        exact this
    · cases hb
  · cases hb
/-! ## A slice of a constant's bytes, converted to its own type -/

/-- From here on its block is not written. -/
def markS (h : Hs) (v : SV) (k : SV → Hs → V) : V := match v with
  | .slice b _ _ _ _ => match h.hp.get b with
    | some (.row cs el true) => k v (h.upd b (.row cs el false))
    | _ => .bad 95 [v]
  | _ => .bad 96 [v]

theorem freeze_heap {r n : Nat} {c : Array Value} {el : TypeId} {fr : Nat × Nat} (hb : w.heap[r]? = some (.cells c el fr)) (j : Nat) :
    ∃ fr', ∀ k, (w.freeze ⟨r, n, none⟩ (j + 1)).heap[k]? = if k = r then some (.cells c el fr') else w.heap[k]? := by
  refine ⟨if fr.1 == fr.2 then (n, n + (j + 1)) else (min fr.1 n, max fr.2 (n + (j + 1))), fun k => ?_⟩
  unfold World.freeze
  rw [if_neg (by omega)]
  simp only [Array.getElem?_modify]
  by_cases hk : r = k
  · subst hk; simp [hb]
  · rw [if_neg hk, if_neg (by omega)]

theorem markS_ok (H : HeapOK e F M h w) {dst el : TypeId} {v : SV} {vx : Value} {k : SV → Hs → V} (hb : isBytes P dst = some el) (hk : markS h v k = .ok) (hx : VR e M v vx) :
    Post e F M k ((convert dst dst vx).run P w) := by
  unfold markS at hk
  unfold isBytes at hb
  split at hb
  · rename_i el' hd
    split at hb
    · rename_i he
      cases hb
      split at hk
      · rename_i b off len cap sz
        split at hk
        · rename_i cs el2 hg
          cases hx with
          | slice _ _ _ _ _ r n c hM hoff hlen hlc hcap hn =>
            obtain ⟨r', n', x, h1, h2, h3⟩ := H.live b _ hg rfl
            rw [hM] at h1; cases h1
            cases h3 with
            | row _ _ _ cc pre rest fr z1 z2 z3 =>
              have hsh : w.shape? r = some (el2, cc.size) := by unfold World.shape?; rw [h2]
              obtain ⟨fr', hfr⟩ := freeze_heap (n := cc.size) h2 0
              refine ⟨_, w.freeze ⟨r, cc.size, none⟩ 1, M, _, _, ?_, M.le_refl, ?_, .slice b off len cap sz r cc.size c hM hoff hlen hlc hcap hn, hk⟩
              · simp [convert, run_underlying hd, run_underlying he, markStringish, hsh]
              · refine H.upd hg rfl rfl hM hfr ?_ ?_ ?_ (fun _ => .row cs el2 false cc pre rest fr' z1 z2 (fun hc => by cases hc))
                · unfold World.freeze; rw [if_neg (by omega)]
                · unfold World.freeze; rw [if_neg (by omega)]
                · unfold World.freeze; rw [if_neg (by omega)]
        · cases hk
      · cases hk
    · cases hb
  · cases hb

end
end Go.Sx

/- memory, called: the row that it answers. Nothing is claimed here beyond the call. -/
import Derived.Test.YtnhphhlojkhlcaaGreatDoorRun
namespace Go.Proofs.YtnhphhlojkhlcaaGreatDoor
open Go Go.Sx Go.RowKit

/-! ## On symbols -/

/-- memory's loops: all bytes, then the cells. -/
def memLoops : FuncId → Nat → Option LSpec := fun f id => bif Nat.beq f 9 then (bif Nat.beq id 0 then some (lsp 9003 6 (.len 5 0) [0, 1, 5] [.mem 5 1]) else some (lsp 9004 7 (.len 0 0) [0, 1, 5] [.puts 5 0])) else none
def memLoop : FuncId → Nat → Option LSpec := fun f id => bif Nat.beq f 9 then (bif Nat.beq id 0 then some (lsp 9003 6 (.len 5 0) [0, 1, 5] [.mem 5 1]) else none) else none
def reach : Int := 140737488355328
def mem0T : T := .op .lmem (vr 50 0 255) (.op .lpair (.op .lrep (.lit 0) (.lit 65536) 0) (.lit 65536) 0) 0
def memT : T := .op .lputs mem0T (.op .lpair (lvk 1) (vr 62 0 reach) 0) 0
def offT : T := lenT (lvk 3)
/-- It answers a new row of bytes that is this list. -/
def finMem (L : T) (r : FR) (h : Hs) : V := match r with
  | .ret u => match u with
    | .slice b (.lit (.ofNat 0)) (.lit (.ofNat 65536)) (some (.lit (.ofNat 65536))) 1 => match h.hp.get b with
      | some (.ints .u8 8 L' 5 true) => bif T.same L' L && Nat.ble h.n0 b then .ok else .bad 4 [.int .i64 L']
      | _ => .bad 5 [u]
    | u => .bad 6 [u]
  | .pan u => .bad 3 [u]
def someH : Hs := { hp := Tr.e.set (some (.recs [(.u16, 16), (.u8, 8)] (lvk 1) offT)) 0, hn := 1, fs := [(T.sub (vr 62 0 reach) (vr 61 0 reach), -reach, 0), (T.sub (T.scale 2 (vr 62 0 reach)) (lenT (lvk 1)), -reach, 0)], n0 := 1, ng := 0 }
theorem mem_some : callN Tryz.prog ext (fun _ => none) memLoops 600 60 9 [.slice 0 offT (vr 62 0 reach) (some (vr 61 0 reach)) 2, .int .u8 (vr 50 0 255)] someH (finMem memT) = V.ok := by kernel_rfl
theorem mem_empty : callN Tryz.prog ext (fun _ => none) memLoop 600 60 9 [.slice 0 offT (.lit 0) (some (.lit 0)) 2, .int .u8 (vr 50 0 255)] (cycH []) (finMem mem0T) = V.ok := by kernel_rfl
theorem mem_none : callN Tryz.prog ext (fun _ => none) memLoop 600 60 9 [.nils, .int .u8 (vr 50 0 255)] (cycH []) (finMem mem0T) = V.ok := by kernel_rfl

/-! ## The list, the blocks -/

def baseL (b : Int) : List Int := memL b (List.replicate 65536 0) 65536
def memIs (b : Int) (C : List Int) (n : Nat) : List Int := putsL (baseL b) C n
theorem baseL_length (b : Int) : (baseL b).length = 65536 := by unfold baseL; rw [memL_length, List.length_replicate]
theorem memIs_length (b : Int) (C : List Int) (n : Nat) : (memIs b C n).length = 65536 := by unfold memIs; rw [putsL_length, baseL_length]
theorem mem0_evl {e : Env} {b : Int} (hb : e.ρ 50 = b) (h0 : 0 ≤ b) (h1 : b ≤ 255) : mem0T.evl e = baseL b := by
  have hv : (T.den e (vr 50 0 255)).1 = b := vr_id hb h0 h1
  unfold mem0T T.evl baseL
  simp only [T.den, TO.den, hv]
  rfl
theorem memT_evl {e : Env} {b : Int} {n : Nat} (hb : e.ρ 50 = b) (h0 : 0 ≤ b) (h1 : b ≤ 255) (hn : e.ρ 62 = (n : Int)) (hr : (n : Int) ≤ reach) : memT.evl e = memIs b (e.l 1) n := by
  have hv : (T.den e (vr 62 0 reach)).1 = (n : Int) := vr_id hn (by omega) hr
  have hm : (T.den e mem0T).2 = baseL b := mem0_evl hb h0 h1
  unfold memT T.evl memIs
  simp only [T.den, TO.den, hv, hm, lvk, Int.toNat_natCast]

/-- A slice of cells, as a world has it: what its first n say. -/
inductive Cells (w : World) : Value → List Int → Nat → Prop
  | none : Cells w (.slice none 0 0) [] 0
  | empty (r off : Nat) : Cells w (.slice (some ⟨r, off, none⟩) 0 0) [] 0
  | some (r off n c : Nat) (arr : Array Value) (el : TypeId) (fr : Nat × Nat) (C : List Int) : n ≤ c → (c : Int) ≤ reach → off + c * 2 ≤ arr.size → w.heap[r]? = some (.cells arr el fr) → C.length = 2 * n →
      (∀ q x, C[q]? = some x → arr[off + q]? = some (.int ([(IntKind.u16, 16), (IntKind.u8, 8)].getD (q % 2) (.u8, 0)).1 x) ∧ 0 ≤ x ∧ x < 2 ^ ([(IntKind.u16, 16), (IntKind.u8, 8)].getD (q % 2) (.u8, 0)).2) → Cells w (.slice (some ⟨r, off, none⟩) n c) C n

theorem Cells.kept {w w' : World} {v : Value} {C : List Int} {n : Nat} (h : Cells w v C n) (hk : ∀ k, k < w.heap.size → w'.heap[k]? = w.heap[k]?) : Cells w' v C n := by
  cases h with
  | none => exact .none
  | empty r off => exact .empty r off
  | some r off n c arr el fr C h1 h2 h3 h4 h5 h6 => exact .some r off n c arr el fr C h1 h2 h3 (by rw [hk r (Array.getElem?_eq_some_iff.1 h4).1]; exact h4) h5 h6

/-- Where the cells lie. -/
def memM0 : Value → Option (Nat × Nat)
  | .slice (some a) _ c => some (a.block, a.off + c * 2)
  | _ => none
def base1 (w : World) (m0 : Option (Nat × Nat)) : Base := { w0 := w, B := w.heap.size, n0 := 1, ng := 0, M0 := fun i => if i = 0 then m0 else none, wr := fun _ => false }

theorem heap1 {e : Env} {w : World} {m0 : Option (Nat × Nat)} {fs : Facts} (hf : fs.ok e) : HeapOK e (base1 w m0) (base1 w m0).M0 (cycH fs) w := by
  refine ⟨fun i o h => ?_, fun i j oi oj ri rj ni nj h => ?_, fun i hi => ?_, hf, fun _ _ => rfl, Nat.le_refl _, rfl, rfl, Nat.zero_le _, fun i o r n h => ?_, fun i o h => ?_, fun i r n hi => ?_, ?_⟩
  · cases h
  · cases h
  · have : 1 ≤ i := hi
    show (if i = 0 then m0 else Option.none) = Option.none
    rw [if_neg (by omega)]
  · cases h
  · cases h
  · cases hi
  · exact ⟨rfl, rfl, rfl, Nat.le_refl _, fun _ _ _ => rfl⟩

theorem heap1s {e : Env} {w : World} {r : Nat} {arr : Array Value} {el : TypeId} {fr : Nat × Nat} (hw : w.heap[r]? = some (.cells arr el fr)) (ho : ∀ M, OR e M (.recs [(.u16, 16), (.u8, 8)] (lvk 1) offT) (.cells arr el fr) arr.size) (hf : someH.fs.ok e) :
    HeapOK e (base1 w (some (r, arr.size))) (base1 w (some (r, arr.size))).M0 someH w := by
  have hget : ∀ i o, someH.hp.get i = some o → i = 0 ∧ o = .recs [(.u16, 16), (.u8, 8)] (lvk 1) offT := by
    intro i o h
    have h' : (Tr.e.set (some (SObj.recs [(.u16, 16), (.u8, 8)] (lvk 1) offT)) 0).get i = some o := h
    rw [Tr.get_set] at h'
    split at h'
    · rename_i he; cases h'; exact ⟨he.symm, rfl⟩
    · cases h'
  refine ⟨fun i o h hl => ?_, fun i j oi oj ri rj ni nj hi _ hj _ hwr => ?_, fun i hi => ?_, hf, fun _ _ => rfl, Nat.le_refl _, rfl, rfl, Nat.zero_le _, fun i o r n h _ hn => ?_, fun i o h hwr => ?_, fun i r n hi => ?_, ?_⟩
  · obtain ⟨rfl, rfl⟩ := hget i o h
    exact ⟨r, arr.size, _, rfl, hw, ho _⟩
  · obtain ⟨rfl, rfl⟩ := hget i oi hi
    obtain ⟨rfl, rfl⟩ := hget j oj hj
    intro _ _ _; rfl
  · have : 1 ≤ i := hi
    show (if i = 0 then some (r, arr.size) else Option.none) = Option.none
    rw [if_neg (by omega)]
  · obtain ⟨rfl, rfl⟩ := hget i o h
    cases hn
  · obtain ⟨rfl, rfl⟩ := hget i o h
    cases hwr
  · cases hi
  · exact ⟨rfl, rfl, rfl, Nat.le_refl _, fun _ _ _ => rfl⟩

theorem mem_post {e : Env} {F : Base} {M' : Lay} {h' : Hs} {r : FR} {en : Ending} {w' : World} {L : T} (hk : finMem L r h' = .ok) (H : HeapOK e F M' h' w') (hr : FRel e M' r en) :
    ∃ rr rest c, en = .returned (.slice (some ⟨rr, 0, none⟩) 65536 65536) ∧ F.B ≤ rr ∧ w'.heap[rr]? = some (.cells c 5 (0, 0)) ∧ c.toList = (L.evl e).map (Value.int .u8) ++ rest ∧ ∀ x ∈ L.evl e, 0 ≤ x ∧ x < 2 ^ 8 := by
  cases hr with
  | pan v x hv => cases hk
  | ret v x hv =>
    simp only [finMem] at hk
    split at hk
    · rename_i b
      split at hk
      · rename_i L' hg
        cases hc : (T.same L' L && Nat.ble h'.n0 b) with
        | false => rw [hc] at hk; cases hk
        | true =>
          simp only [Bool.and_eq_true] at hc
          have := T.same_eq hc.1
          subst this
          have hb : F.n0 ≤ b := by rw [← H.cn0]; exact Nat.le_of_ble_eq_true hc.2
          cases hv with
          | slice _ _ _ _ _ rr nn c k1 k2 k3 k4 k5 k6 =>
            obtain ⟨r1, n1, x1, g1, g2, g3⟩ := H.live b _ hg rfl
            rw [k1] at g1; cases g1
            cases g3 with
            | ints _ _ _ _ _ cc rest fr z1 z2 z3 =>
              have := z3 rfl
              subst this
              have hcap := k5 _ rfl
              rw [ev_lit] at hcap
              have : c = 65536 := by have : (Int.ofNat 65536) = 65536 := rfl; omega
              subst this
              refine ⟨rr, rest, cc, ?_, H.new b _ rr _ hg rfl hb k1, g2, z1, z2⟩
              simp [ev_lit]
      · cases hk
    · cases hk

/-- memory, called. -/
theorem mem_calls {w : World} {v : Value} {C : List Int} {n : Nat} (hv : Cells w v C n) {b : Int} (h0 : 0 ≤ b) (h1 : b ≤ 255) :
    Calls Tryz.prog 9 #[v, .int .u8 b] w fun en w' => Go.Sx.Grown w w' ∧ ∃ rr rest c, en = .returned (.slice (some ⟨rr, 0, none⟩) 65536 65536) ∧ w.heap.size ≤ rr ∧ w'.heap[rr]? = some (.cells c 5 (0, 0)) ∧
      c.toList = (memIs b C n).map (Value.int .u8) ++ rest ∧ ∀ x ∈ memIs b C n, 0 ≤ x ∧ x < 2 ^ 8 := by
  cases hv with
  | none =>
    let e : Env := ⟨fun i => match i with | 50 => b | _ => 0, fun _ => [], fun _ _ _ => 0⟩
    have hc := callN_ok (P := Tryz.prog) (F := base1 w none) (loops := memLoop) mixed ext_ok (e0 := e) no_sums 600 60 e (Env.near_refl e)
    have H := heap1 (e := e) (w := w) (m0 := none) (fs := []) (fun x hx => by cases hx)
    refine Calls.mono (hc _ _ w 9 _ #[_, _] _ mem_none H (.cons _ _ _ _ .nils (.cons _ _ _ _ (int_vr (vr_id (i := 50) rfl h0 h1)) .nil))) ?_
    rintro en w' ⟨M', h', r, _, H', hr, hk⟩
    obtain ⟨rr, rest, c, g1, g2, g3, g4, g5⟩ := mem_post hk H' hr
    rw [mem0_evl (e := e) (b := b) rfl h0 h1] at g4 g5
    exact ⟨left_of H' rfl (fun _ => rfl), rr, rest, c, g1, g2, g3, g4, g5⟩
  | empty r off =>
    let e : Env := ⟨fun i => match i with | 50 => b | _ => 0, fun _ => List.replicate off 0, fun _ _ _ => 0⟩
    have hoff : offT.ev e = (off : Int) := by
      unfold offT lenT
      show 1 * (((List.replicate off (0 : Int)).length : Int) * 1) + 0 = _
      rw [List.length_replicate]; omega
    have hc := callN_ok (P := Tryz.prog) (F := base1 w (some (r, off))) (loops := memLoop) mixed ext_ok (e0 := e) no_sums 600 60 e (Env.near_refl e)
    have H := heap1 (e := e) (w := w) (m0 := some (r, off)) (fs := []) (fun x hx => by cases hx)
    have hs : VR e (base1 w (some (r, off))).M0 (.slice 0 offT (.lit 0) (some (.lit 0)) 2) (.slice (some ⟨r, off, none⟩) 0 0) := by
      have := VR.slice (e := e) (M := (base1 w (some (r, off))).M0) 0 offT (.lit 0) (some (.lit 0)) 2 r off 0 rfl (by rw [hoff]; omega) (by rw [ev_lit]; omega) (by rw [ev_lit]; simp) (fun t ht => by cases ht; rfl) ⟨by rw [hoff]; simp, fun h => by cases h⟩
      rw [hoff, ev_lit] at this
      exact this
    refine Calls.mono (hc _ _ w 9 _ #[_, _] _ mem_empty H (.cons _ _ _ _ hs (.cons _ _ _ _ (int_vr (vr_id (i := 50) rfl h0 h1)) .nil))) ?_
    rintro en w' ⟨M', h', r, _, H', hr, hk⟩
    obtain ⟨rr, rest, c, g1, g2, g3, g4, g5⟩ := mem_post hk H' hr
    rw [mem0_evl (e := e) (b := b) rfl h0 h1] at g4 g5
    exact ⟨left_of H' rfl (fun _ => rfl), rr, rest, c, g1, g2, g3, g4, g5⟩
  | some r off n c arr el fr C k1 k2 k3 k4 k5 k6 =>
    let e : Env := ⟨fun i => match i with | 50 => b | 61 => (c : Int) | 62 => (n : Int) | _ => 0, fun k => if k = 1 then C else List.replicate off 0, fun _ _ _ => 0⟩
    have hoff : offT.ev e = (off : Int) := by
      unfold offT lenT
      show 1 * (((List.replicate off (0 : Int)).length : Int) * 1) + 0 = _
      rw [List.length_replicate]; omega
    have hn : (vr 62 0 reach).ev e = (n : Int) := vr_id (i := 62) rfl (by omega) (by omega)
    have hcp : (vr 61 0 reach).ev e = (c : Int) := vr_id (i := 61) rfl (by omega) k2
    have hl : (lvk 1).evl e = C := rfl
    have hlen : (lenT (lvk 1)).ev e = (C.length : Int) := by
      unfold lenT
      show 1 * ((C.length : Int) * 1) + 0 = _
      omega
    have hc := callN_ok (P := Tryz.prog) (F := base1 w (some (r, arr.size))) (loops := memLoops) mixed ext_ok (e0 := e) no_sums 600 60 e (Env.near_refl e)
    have ho : ∀ M, OR e M (.recs [(.u16, 16), (.u8, 8)] (lvk 1) offT) (.cells arr el fr) arr.size := by
      intro M
      refine .recs _ _ _ el arr fr (by rw [hoff]; omega) ?_
      intro q x hq
      rw [hl] at hq
      rw [hoff]
      exact k6 q x hq
    have hf : someH.fs.ok e := by
      intro x hx
      have hx' : x ∈ [(T.sub (vr 62 0 reach) (vr 61 0 reach), -reach, 0), (T.sub (T.scale 2 (vr 62 0 reach)) (lenT (lvk 1)), -reach, (0 : Int))] := hx
      have hr : reach = 140737488355328 := rfl
      rcases List.mem_cons.1 hx' with rfl | hx'
      · simp only [sub_ev, hn, hcp]; omega
      · rcases List.mem_cons.1 hx' with rfl | hx'
        · simp only [sub_ev, scale_ev, hn, hlen, k5]; omega
        · cases hx'
    have H := heap1s (e := e) k4 ho hf
    have hs : VR e (base1 w (some (r, arr.size))).M0 (.slice 0 offT (vr 62 0 reach) (some (vr 61 0 reach)) 2) (.slice (some ⟨r, off, none⟩) n c) := by
      have := VR.slice (e := e) (M := (base1 w (some (r, arr.size))).M0) 0 offT (vr 62 0 reach) (some (vr 61 0 reach)) 2 r arr.size c rfl (by rw [hoff]; omega) (by rw [hn]; omega) (by rw [hn]; omega) (fun t ht => by cases ht; exact hcp) ⟨by rw [hoff]; omega, fun h => by cases h⟩
      rw [hoff, hn] at this
      exact this
    refine Calls.mono (hc _ _ w 9 _ #[_, _] _ mem_some H (.cons _ _ _ _ hs (.cons _ _ _ _ (int_vr (vr_id (i := 50) rfl h0 h1)) .nil))) ?_
    rintro en w' ⟨M', h', r, _, H', hr, hk⟩
    obtain ⟨rr, rest, cc, g1, g2, g3, g4, g5⟩ := mem_post hk H' hr
    rw [memT_evl (e := e) (b := b) (n := n) rfl h0 h1 rfl (by omega)] at g4 g5
    exact ⟨left_of H' rfl (fun _ => rfl), rr, rest, cc, g1, g2, g3, g4, g5⟩
end Go.Proofs.YtnhphhlojkhlcaaGreatDoor

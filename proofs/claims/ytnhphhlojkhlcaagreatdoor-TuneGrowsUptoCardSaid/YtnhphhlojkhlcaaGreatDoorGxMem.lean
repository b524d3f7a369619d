/- Loads and stores of rows of cells. -/
import Derived.Test.YtnhphhlojkhlcaaGreatDoorGxQuiet
namespace Go.Sx
open Go Go.RowKit

section
variable {P : Program} {e : Env} {F : Base} {M : Lay} {h : Hs} {w : World}

theorem cell_of {r : Nat} {c : Array Value} {el : TypeId} {fr : Nat × Nat} (hb : w.heap[r]? = some (.cells c el fr)) (o : Nat) : w.cell? ⟨r, o, none⟩ = c[o]? := by
  simp [World.cell?, hb]

theorem addr_add (r o i : Nat) : (⟨r, o, none⟩ : Addr).add i = ⟨r, o + i, none⟩ := by
  unfold Addr.add; split
  · rename_i h; subst h; rfl
  · rfl

theorem loadCellsFrom_run {r : Nat} {c : Array Value} {el : TypeId} {fr : Nat × Nat} (hb : w.heap[r]? = some (.cells c el fr)) (o : Nat) :
    ∀ (n i : Nat) (acc : Array Value), o + i + n ≤ c.size → (loadCellsFrom ⟨r, o, none⟩ i n acc).run P w = .ok (acc ++ c.extract (o + i) (o + i + n)) w := by
  intro n
  induction n with
  | zero => intro i acc hle; simp [loadCellsFrom]; omega
  | succ n ih =>
    intro i acc hle
    have hc : w.cell? ⟨r, o + i, none⟩ = some c[o + i] := by rw [cell_of hb, Array.getElem?_eq_getElem (by omega)]
    simp only [loadCellsFrom, Sem.run_bind, addr_add, run_load, hc, Result.andThen_ok]
    rw [ih (i + 1) _ (by omega)]
    congr 1
    apply Array.ext'
    simp only [Array.toList_append, Array.toList_push, Array.toList_extract, List.append_assoc, List.extract_eq_take_drop]
    congr 1
    rw [show o + (i + 1) + n - (o + (i + 1)) = n by omega, show o + i + (n + 1) - (o + i) = n + 1 by omega]
    rw [List.drop_eq_getElem_cons (i := o + i) (by simpa using (by omega : o + i < c.size)), List.take_succ_cons]
    rfl

theorem loadCells_run {r : Nat} {c : Array Value} {el : TypeId} {fr : Nat × Nat} (hb : w.heap[r]? = some (.cells c el fr)) (o n : Nat) (hle : o + n ≤ c.size) :
    (loadCells ⟨r, o, none⟩ n).run P w = .ok (c.extract o (o + n)) w := by
  have := loadCellsFrom_run (P := P) hb o n 0 #[] (by omega)
  simpa [loadCells] using this

/-- Values put over a row from a place on. -/
def overlay (l : List Value) (o : Nat) : List Value → List Value
  | [] => l
  | v :: vs => overlay (l.set o v) (o + 1) vs

theorem setCell_heap {r o : Nat} {c : Array Value} {el : TypeId} {fr : Nat × Nat} (hb : w.heap[r]? = some (.cells c el fr)) (v : Value) (k : Nat) :
    (w.setCell ⟨r, o, none⟩ v).heap[k]? = if k = r then some (.cells (c.setIfInBounds o v) el fr) else w.heap[k]? := by
  simp only [World.setCell, Array.getElem?_modify]
  by_cases hk : r = k
  · subst hk; simp [hb]
  · rw [if_neg hk, if_neg (by omega)]

theorem storeCells_run {r : Nat} {el : TypeId} (o : Nat) : ∀ (vs : List Value) (i : Nat) (c : Array Value) (w : World), w.heap[r]? = some (.cells c el (0, 0)) → o + i + vs.length ≤ c.size →
    (∀ v ∈ vs, v.oneCell' = true) → ∃ w', (storeCells ⟨r, o, none⟩ vs i).run P w = .ok () w' ∧
      (∀ k, w'.heap[k]? = if k = r then some (.cells (overlay c.toList (o + i) vs).toArray el (0, 0)) else w.heap[k]?) ∧ w'.os = w.os ∧ w'.tape = w.tape ∧ w'.output = w.output := by
  intro vs
  induction vs with
  | nil =>
    intro i c w hb _ _
    refine ⟨w, by simp [storeCells], ?_, rfl, rfl, rfl⟩
    intro k
    split
    · rename_i hk; subst hk; simpa [overlay] using hb
    · rfl
  | cons v vs ih =>
    intro i c w hb hle hone
    have hlt : o + i < c.size := by simp at hle; omega
    have hc : w.cell? ⟨r, o + i, none⟩ = some c[o + i] := by rw [cell_of hb, Array.getElem?_eq_getElem hlt]
    have hfz : w.frozen? ⟨r, o + i, none⟩ = false := by simp [World.frozen?, hb]
    have hs : (store ⟨r, o + i, none⟩ v).run P w = .ok () (w.setCell ⟨r, o + i, none⟩ v) := by
      rw [run_store P w _ v .plain (hone v (List.mem_cons_self ..)), hc]
      simp [hfz]
    have hb' : (w.setCell ⟨r, o + i, none⟩ v).heap[r]? = some (.cells (c.setIfInBounds (o + i) v) el (0, 0)) := by rw [setCell_heap hb, if_pos rfl]
    obtain ⟨w', h1, h2, h3, h4, h5⟩ := ih (i + 1) _ _ hb' (by simp at hle ⊢; omega) (fun u hu => hone u (List.mem_cons_of_mem _ hu))
    refine ⟨w', ?_, ?_, h3, h4, h5⟩
    · simp only [storeCells, Sem.run_bind, addr_add, hs, Result.andThen_ok]
      exact h1
    · intro k
      rw [h2 k]
      split
      · simp only [overlay, Array.toList_setIfInBounds]
        rfl
      · rename_i hk; rw [setCell_heap hb, if_neg hk]

theorem overlay_length : ∀ (vs l : List Value) (o : Nat), (overlay l o vs).length = l.length := by
  intro vs
  induction vs with
  | nil => intro l o; rfl
  | cons v vs ih => intro l o; simp [overlay, ih]

/-- Symbolic values put over a row. -/
def overlayS (l : List SV) (o : Nat) : List SV → List SV
  | [] => l
  | v :: vs => overlayS (l.set o v) (o + 1) vs

theorem overlay_ok : ∀ (ss : List SV) (vs : List Value) (l : List SV) (pre rest : List Value) (o : Nat), VRs e M ss vs → VRs e M l pre → o + ss.length ≤ l.length →
    ∃ pre', overlay (pre ++ rest) o vs = pre' ++ rest ∧ VRs e M (overlayS l o ss) pre' := by
  intro ss
  induction ss with
  | nil => intro vs l pre rest o hs hl _; cases hs; exact ⟨pre, rfl, hl⟩
  | cons s ss ih =>
    intro vs l pre rest o hs hl hle
    cases hs with
    | cons _ v _ vs h1 h2 =>
      have hlen := hl.length
      have ho : o < pre.length := by simp at hle; omega
      obtain ⟨pre', h3, h4⟩ := ih vs (l.set o s) (pre.set o v) rest (o + 1) h2 (hl.set h1 o) (by simp at hle ⊢; omega)
      refine ⟨pre', ?_, h4⟩
      simp only [overlay]
      rw [List.set_append_left _ _ ho]; exact h3

/-- Is a value one cell? -/
def SV.one : SV → Bool
  | .junk => false
  | .when _ _ => false
  | .agg _ => false
  | .tup _ => false
  | _ => true

theorem one_ok {s : SV} {v : Value} (h : VR e M s v) (ho : s.one = true) : v.oneCell' = true := by
  cases h <;> first | rfl | (simp [SV.one] at ho)
theorem ones_ok {l : List SV} {vs : List Value} (h : VRs e M l vs) (ho : l.all SV.one = true) : ∀ v ∈ vs, v.oneCell' = true := by
  induction l generalizing vs with
  | nil => cases h; intro v hv; cases hv
  | cons s l ih =>
    cases h with
    | cons _ x _ vs h1 h2 =>
      simp only [List.all_cons, Bool.and_eq_true] at ho
      intro v hv
      cases hv with
      | head => exact one_ok h1 ho.1
      | tail _ hv => exact ih h2 ho.2 v hv

/-- The cells of a value. -/
def SV.cells : SV → Option (List SV)
  | .agg l => bif l.all SV.one then some l else none
  | .junk => none
  | .when _ _ => none
  | .tup _ => none
  | v => some [v]

theorem cells_ok {s : SV} {v : Value} {l : List SV} (h : VR e M s v) (hc : s.cells = some l) : VRs e M l v.cells.toList ∧ ∀ x ∈ v.cells.toList, x.oneCell' = true := by
  cases h with
  | agg l' x hl =>
    simp only [SV.cells] at hc
    cases ha : l'.all SV.one with
    | false => rw [ha] at hc; cases hc
    | true => rw [ha] at hc; cases hc; exact ⟨hl, ones_ok hl ha⟩
  | junk => cases hc
  | tup => cases hc
  | iface t s x hx => cases hc; exact ⟨.cons _ _ _ _ (.iface t s x hx) .nil, by intro y hy; simp [Value.cells] at hy; subst hy; rfl⟩
  | int k p => cases hc; exact ⟨.cons _ _ _ _ (.int k p) .nil, by intro y hy; simp [Value.cells] at hy; subst hy; rfl⟩
  | bool p b hp => cases hc; exact ⟨.cons _ _ _ _ (.bool p b hp) .nil, by intro y hy; simp [Value.cells] at hy; subst hy; rfl⟩
  | str l hl => cases hc; exact ⟨.cons _ _ _ _ (.str l hl) .nil, by intro y hy; simp [Value.cells] at hy; subst hy; rfl⟩
  | nilp => cases hc; exact ⟨.cons _ _ _ _ .nilp .nil, by intro y hy; simp [Value.cells] at hy; subst hy; rfl⟩
  | ptr b off r n h1 h2 => cases hc; exact ⟨.cons _ _ _ _ (.ptr b off r n h1 h2) .nil, by intro y hy; simp [Value.cells] at hy; subst hy; rfl⟩
  | nils => cases hc; exact ⟨.cons _ _ _ _ .nils .nil, by intro y hy; simp [Value.cells] at hy; subst hy; rfl⟩
  | slice b off len cap sz r n c h1 h2 h3 h4 h5 h6 => cases hc; exact ⟨.cons _ _ _ _ (.slice b off len cap sz r n c h1 h2 h3 h4 h5 h6) .nil, by intro y hy; simp [Value.cells] at hy; subst hy; rfl⟩
  | nsome b off len cap sz nl r n c h0 h1 h2 h3 h4 h5 h6 => cases hc; exact ⟨.cons _ _ _ _ (.nsome b off len cap sz nl r n c h0 h1 h2 h3 h4 h5 h6) .nil, by intro y hy; simp [Value.cells] at hy; subst hy; rfl⟩
  | nnone b off len cap sz nl h0 h1 h2 => cases hc; exact ⟨.cons _ _ _ _ (.nnone b off len cap sz nl h0 h1 h2) .nil, by intro y hy; simp [Value.cells] at hy; subst hy; rfl⟩
  | «when» q u y h1 => cases hc
  | nilm => cases hc; exact ⟨.cons _ _ _ _ .nilm .nil, by intro y hy; simp [Value.cells] at hy; subst hy; rfl⟩
  | map b r n h1 => cases hc; exact ⟨.cons _ _ _ _ (.map b r n h1) .nil, by intro y hy; simp [Value.cells] at hy; subst hy; rfl⟩
  | fn f a c x y h1 h2 => cases hc; exact ⟨.cons _ _ _ _ (.fn f a c x y h1 h2) .nil, by intro z hz; simp [Value.cells] at hz; subst hz; rfl⟩
  | nilf => cases hc; exact ⟨.cons _ _ _ _ .nilf .nil, by intro y hy; simp [Value.cells] at hy; subst hy; rfl⟩
  | nili => cases hc; exact ⟨.cons _ _ _ _ .nili .nil, by intro y hy; simp [Value.cells] at hy; subst hy; rfl⟩

/-! ## A load -/

/-- Is it known that p is at most 0? -/
def nonpos (fs : Facts) (p : T) : Bool := match knownD fs (T.le0 fs p) with
  | some true => true
  | _ => false

theorem nonpos_ok {fs : Facts} (hf : fs.ok e) {p : T} (hn : nonpos fs p = true) : p.ev e ≤ 0 := by
  unfold nonpos at hn
  split at hn
  · rename_i hk
    have h1 := le0_ev hf p
    by_cases hp : p.ev e ≤ 0
    · exact hp
    · rw [if_neg hp] at h1
      have := knownD_ok (v := false) hf (by rw [h1]; rfl) hk
      cases this
  · cases hn

def lenT (L : T) : T := T.atom (.op .len L (.lit 0) 0)
theorem lenT_ev (L : T) : (lenT L).ev e = ((L.evl e).length : Int) := by unfold lenT; rw [atom_ev]; rfl
def rdT (L : T) (bits : Nat) (p : T) : T := T.atom (.op .rd L p bits)
theorem rdT_ev (L : T) (bits : Nat) (p : T) : (rdT L bits p).ev e = clamp 0 (2 ^ bits - 1) ((L.evl e).getD (p.ev e).toNat 0) := by unfold rdT; rw [atom_ev]; rfl

/-- A list with one place set. -/
def lsetT (L p v : T) : T := .op .lset L (.op .pair p v 0) 0
theorem lsetT_evl (L p v : T) : (lsetT L p v).evl e = (L.evl e).set (p.ev e).toNat (v.ev e) := rfl

/-- Is a number surely not below 0, by its make? -/
def isSize : T → Bool
  | .lit (.ofNat _) => true
  | .term (.ofNat 1) (.prod (.op .len _ _ _) .one) (.lit (.ofNat 0)) => true
  | .term (.ofNat 1) (.prod (.var _ (.ofNat a) hi) .one) (.lit (.ofNat 0)) => decide ((a : Int) ≤ hi)
  | _ => false
theorem isSize_ok {t : T} (h : isSize t = true) : 0 ≤ t.ev e := by
  unfold isSize at h
  split at h
  · rename_i n; rw [ev_lit]; exact Int.natCast_nonneg n
  · rename_i a b k
    have : (T.term (.ofNat 1) (.prod (.op .len a b k) .one) (.lit (.ofNat 0))).ev e = ((a.evl e).length : Int) := by
      rw [ev_term, ev_prod, ev_one, ev_lit]
      show 1 * (((a.evl e).length : Int) * 1) + 0 = _
      omega
    rw [this]; omega
  · rename_i i a hi
    have hle : (a : Int) ≤ hi := by simpa using h
    have h1 := clamp_ge (x := e.ρ i) hle
    have : (T.term (.ofNat 1) (.prod (.var i (.ofNat a) hi) .one) (.lit (.ofNat 0))).ev e = clamp (a : Int) hi (e.ρ i) := by
      rw [ev_term, ev_prod, ev_one, ev_lit]
      show 1 * (clamp (a : Int) hi (e.ρ i) * 1) + 0 = _
      omega
    rw [this]; omega
  · cases h

def lenL : T → T
  | .op o L x k => match o, x with
    | .lset, .op .pair _ _ _ => lenL L
    | .lputs, _ => lenL L
    | .lpair, _ => lenL L
    | .lmix, x => lenL x
    | .lmem, x => lenL x
    | .lrep, x => bif isSize x then x else lenT (.op .lrep L x k)
    | .lapp, x => T.add (lenL L) (lenL x)
    | o, x => lenT (.op o L x k)
  | L => lenT L
theorem lenL_ev : ∀ L : T, (lenL L).ev e = ((L.evl e).length : Int) := by
  intro L
  induction L with
  | op o a b k iha ihb =>
    unfold lenL
    split
    · rename_i p v j
      rw [iha]
      show _ = (((a.evl e).set (p.ev e).toNat (v.ev e)).length : Int)
      rw [List.length_set]
    · rw [iha]
      show _ = ((putsL (a.evl e) (b.evl e) (b.ev e).toNat).length : Int)
      rw [putsL_length]
    · rw [iha]; rfl
    · rw [ihb]
      show _ = ((mixL (a.evl e) (b.evl e) (b.ev e).toNat).length : Int)
      rw [mixL_length]
    · rw [ihb]
      show _ = ((memL (a.ev e) (b.evl e) (b.ev e).toNat).length : Int)
      rw [memL_length]
    · cases hs : isSize b with
      | true =>
        simp only [cond_true]
        have := isSize_ok (e := e) hs
        show _ = ((List.replicate (b.ev e).toNat (a.ev e)).length : Int)
        rw [List.length_replicate]; omega
      | false => exact lenT_ev _
    · rw [add_ev, iha, ihb]
      show _ = ((a.evl e ++ b.evl e).length : Int)
      rw [List.length_append]; omega
    · exact lenT_ev _
  | _ => exact lenT_ev _

def inBits (fs : Facts) (bits : Nat) (v : T) : Bool := match rng fs v with
  | some (.ofNat _, y) => decide (y < 2 ^ bits)
  | _ => false
theorem inBits_ok {fs : Facts} (hf : fs.ok e) {bits : Nat} {v : T} (h : inBits fs bits v = true) : 0 ≤ v.ev e ∧ v.ev e < 2 ^ bits := by
  unfold inBits at h
  split at h
  · rename_i x y hr
    have h1 := rng_ok hf _ _ _ hr
    have hx : (0 : Int) ≤ Int.ofNat x := Int.natCast_nonneg x
    simp only [decide_eq_true_eq] at h
    omega
  · cases h

/-- What stands at a place: of places that were set the last. -/
def rdS (fs : Facts) (bits : Nat) (p : T) : T → T
  | .op o L x k => match o, x with
    | .lset, .op .pair i v _ => (match knownD fs (T.eq0 fs (T.sub p i)) with
      | some true => bif inBits fs bits v then v else rdT (.op o L x k) bits p
      | some false => bif nonneg fs i && nonneg fs p then rdS fs bits p L else rdT (.op o L x k) bits p
      | none => rdT (.op o L x k) bits p)
    | .lmix, .op .lpair _ i _ => bif nonneg fs p && nonpos fs (T.sub (T.addc 1 p) i) then rdT L bits p else rdT (.op o L x k) bits p
    | .lapp, x => bif nonneg fs p && nonpos fs (T.sub (T.addc 1 p) (lenL L)) then rdS fs bits p L
        else bif nonpos fs (T.sub (lenL L) p) then rdT x bits (T.sub p (lenL L)) else rdT (.op o L x k) bits p
    | o, x => rdT (.op o L x k) bits p
  | L => rdT L bits p

theorem rdS_ev {fs : Facts} (hf : fs.ok e) {bits : Nat} {p : T} : ∀ L : T, (p.ev e).toNat < (L.evl e).length → (rdS fs bits p L).ev e = (rdT L bits p).ev e := by
  intro L
  induction L with
  | op o a b k iha ihb =>
    intro hlt
    unfold rdS
    split
    · rename_i i v j
      have hl : (T.op .lset a (.op .pair i v j) k).evl e = (a.evl e).set (i.ev e).toNat (v.ev e) := rfl
      rw [hl, List.length_set] at hlt
      have hz : (T.eq0 fs (T.sub p i)).ev e = bint (decide (p.ev e = i.ev e)) := by
        rw [eq0_ev hf, sub_ev]
        by_cases h : p.ev e = i.ev e
        · rw [if_pos (by omega)]; simp [h, bint]
        · rw [if_neg (by omega)]; simp [h, bint]
      split
      · rename_i hk
        cases hb : inBits fs bits v with
        | false => rfl
        | true =>
          simp only [cond_true]
          have he : p.ev e = i.ev e := by simpa using knownD_ok hf hz hk
          have hv := inBits_ok hf hb
          rw [rdT_ev, hl, he, List.getD_eq_getElem?_getD, List.getElem?_set_self (by rw [← he]; exact hlt), Option.getD_some, clamp_id hv.1 (by omega)]
      · rename_i hk
        cases hb : (nonneg fs i && nonneg fs p) with
        | false => rfl
        | true =>
          simp only [Bool.and_eq_true] at hb
          have h1 := nonneg_ok hf hb.1
          have h2 := nonneg_ok hf hb.2
          simp only [cond_true]
          have he : ¬ p.ev e = i.ev e := by simpa using knownD_ok hf hz hk
          rw [iha hlt, rdT_ev, rdT_ev, hl, List.getD_eq_getElem?_getD, List.getD_eq_getElem?_getD, List.getElem?_set_ne (by omega)]
      · rfl
    · rename_i Z i j
      cases hb : (nonneg fs p && nonpos fs (T.sub (T.addc 1 p) i)) with
      | false => rfl
      | true =>
        simp only [Bool.and_eq_true] at hb
        have h1 := nonneg_ok hf hb.1
        have h2 := nonpos_ok hf hb.2
        rw [sub_ev, addc_ev] at h2
        simp only [cond_true]
        have hl : (T.op .lmix a (.op .lpair Z i j) k).evl e = mixL (a.evl e) (Z.evl e) (i.ev e).toNat := rfl
        rw [hl, mixL_length] at hlt
        rw [rdT_ev, rdT_ev, hl, mixL_getD _ _ _ _ hlt, if_pos (by omega)]
    · have hl : (T.op .lapp a b k).evl e = a.evl e ++ b.evl e := rfl
      cases hb : (nonneg fs p && nonpos fs (T.sub (T.addc 1 p) (lenL a))) with
      | true =>
        simp only [Bool.and_eq_true] at hb
        have h1 := nonneg_ok hf hb.1
        have h2 := nonpos_ok hf hb.2
        rw [sub_ev, addc_ev, lenL_ev] at h2
        simp only [cond_true]
        rw [iha (by omega), rdT_ev, rdT_ev, hl, List.getD_eq_getElem?_getD, List.getD_eq_getElem?_getD, List.getElem?_append_left (by omega)]
      | false =>
        simp only [cond_false]
        cases hc : nonpos fs (T.sub (lenL a) p) with
        | false => rfl
        | true =>
          have h2 := nonpos_ok hf hc
          rw [sub_ev, lenL_ev] at h2
          simp only [cond_true]
          rw [rdT_ev, rdT_ev, hl, sub_ev, lenL_ev, List.getD_eq_getElem?_getD, List.getD_eq_getElem?_getD, List.getElem?_append_right (by omega)]
          congr 2
          have : (p.ev e - ((a.evl e).length : Int)).toNat = (p.ev e).toNat - (a.evl e).length := by omega
          rw [this]
    · rfl
  | _ => intro _; rfl

/-- The number itself, where what is known leaves but one. -/
def litD (fs : Facts) (t : T) : T := match litNat fs t with
  | some n => .lit (n : Int)
  | none => t
theorem litD_ev {fs : Facts} (hf : fs.ok e) (t : T) : (litD fs t).ev e = t.ev e := by
  unfold litD
  split
  · rename_i n hn; rw [ev_lit, litNat_ok hf hn]
  · rfl

/-- A record's cells. -/
def recL (C : T) : List (IntKind × Nat) → T → List SV
  | [], _ => []
  | (k, bits) :: ks, q => .int k (rdT C bits q) :: recL C ks (T.addc 1 q)

variable (P)
def loadS (h : Hs) (t : TypeId) (a : SV) : Option SV :=
  match a with
  | .ptr b off => match h.hp.get b with
    | some (.row cs _ _) => match litNat h.fs off with
      | some n => match isAggS P t with
        | some false => cs[n]?
        | some true => match sizeS P t with
          | some m => bif Nat.ble (n + m) cs.length then some (.agg ((cs.drop n).take m)) else none
          | none => none
        | none => none
      | none => none
    | some (.ints k bits L _ _) => match isAggS P t with
      | some false => bif nonneg h.fs off && nonpos h.fs (T.sub (T.addc 1 off) (lenL L)) then some (.int k (litD h.fs (rdS h.fs bits off L))) else none
      | _ => none
    | some (.recs ks C o) => match isAggS P t with
      | some false => match T.sub off o with
        | q => bif Nat.blt 0 ks.length && nonneg h.fs q && nonpos h.fs (T.sub (T.addc 1 q) (lenL C)) then (match litNat h.fs (T.mod h.fs ks.length q) with
          | some f => match ks[f]? with
            | some (k, bits) => some (.int k (litD h.fs (rdT C bits q)))
            | none => none
          | none => none) else none
      | some true => match sizeS P t with
        | some m => match T.sub off o with
          | q => bif Nat.beq m ks.length && Nat.blt 0 m && nonneg h.fs q && nonpos h.fs (T.sub (T.addc (m : Int) q) (lenL C)) then (match litNat h.fs (T.mod h.fs ks.length q) with
            | some 0 => some (.agg (recL C ks q))
            | _ => none) else none
        | none => none
      | _ => none
    | _ => none
  | _ => none

variable {P}
theorem loadS_ok (H : HeapOK e F M h w) {t : TypeId} {a v : SV} {va : Value} (hv : loadS P h t a = some v) (ha : VR e M a va) :
    ∃ x, (Instr.loadAt t va).run P w = .ok x w ∧ VR e M v x := by
  unfold loadS at hv
  split at hv
  · rename_i b off
    cases ha with
    | ptr _ _ r n hM hoff =>
      split at hv
      · rename_i cs el wr hg
        obtain ⟨r', n', x, h1, h2, h3⟩ := H.live b _ hg rfl
        rw [hM] at h1; cases h1
        cases h3 with
        | row _ _ _ c pre rest fr hc hcs hfr =>
          split at hv
          · rename_i m hm
            have ho := litNat_ok H.fact hm
            have hom : (off.ev e).toNat = m := by omega
            rw [hom]
            split at hv
            · rename_i hagg
              obtain ⟨y, hy1, hy2⟩ := hcs.get hv
              refine ⟨y, ?_, hy2⟩
              have : c[m]? = some y := by
                rw [← Array.getElem?_toList, hc]
                rw [List.getElem?_append_left (List.getElem?_eq_some_iff.1 hy1).1]; exact hy1
              simp [Instr.loadAt, Instr.sureAddr, loadVar, isAggS_ok hagg, cell_of h2, this]
            · rename_i hagg
              split at hv
              · rename_i sz hsz
                cases hle : Nat.ble (m + sz) cs.length with
                | false => rw [hle] at hv; cases hv
                | true =>
                  rw [hle] at hv; cases hv
                  have hle' := Nat.le_of_ble_eq_true hle
                  have hlen := hcs.length
                  have hsize : c.size = pre.length + rest.length := by
                    have := congrArg List.length hc; simpa using this
                  refine ⟨.agg (c.extract m (m + sz)), ?_, .agg _ _ ?_⟩
                  · simp only [Instr.loadAt, Instr.sureAddr, loadVar, Sem.run_bind, Sem.run_pure, Result.andThen_ok, isAggS_ok hagg, if_true, sizeS_ok hsz, loadCells_run h2 m sz (by omega)]
                  · rw [Array.toList_extract, List.extract_eq_take_drop, hc, show m + sz - m = sz by omega, List.drop_append_of_le_length (by omega), List.take_append_of_le_length (by simp; omega)]
                    exact (hcs.drop m).take sz
              · cases hv
            · cases hv
          · cases hv
      · rename_i k bits L el wr hg
        obtain ⟨r', n', x, h1, h2, h3⟩ := H.live b _ hg rfl
        rw [hM] at h1; cases h1
        cases h3 with
        | ints _ _ _ _ _ c rest fr hc hrng hfr =>
          split at hv
          · rename_i hagg
            cases hb : (nonneg h.fs off && nonpos h.fs (T.sub (T.addc 1 off) (lenL L))) with
            | false => rw [hb] at hv; cases hv
            | true =>
              rw [hb] at hv; cases hv
              simp only [Bool.and_eq_true] at hb
              have hn := nonpos_ok H.fact hb.2
              rw [sub_ev, addc_ev, lenL_ev] at hn
              have hlt : (off.ev e).toNat < (L.evl e).length := by omega
              refine ⟨.int k ((L.evl e)[(off.ev e).toNat]), ?_, ?_⟩
              · have : c[(off.ev e).toNat]? = some (.int k ((L.evl e)[(off.ev e).toNat])) := by
                  rw [← Array.getElem?_toList, hc, List.getElem?_append_left (by simpa using hlt), List.getElem?_map, List.getElem?_eq_getElem hlt]; rfl
                simp [Instr.loadAt, Instr.sureAddr, loadVar, isAggS_ok hagg, cell_of h2, this]
              · have hr := hrng _ (List.getElem_mem hlt)
                have : (rdS h.fs bits off L).ev e = (L.evl e)[(off.ev e).toNat] := by
                  rw [rdS_ev H.fact L hlt, rdT_ev, List.getD_eq_getElem?_getD, List.getElem?_eq_getElem hlt, Option.getD_some, clamp_id hr.1 (by omega)]
                rw [← litD_ev H.fact] at this
                rw [← this]; exact .int _ _
          · cases hv
      · rename_i ks C o hg
        obtain ⟨r', n', x, h1, h2, h3⟩ := H.live b _ hg rfl
        rw [hM] at h1; cases h1
        cases h3 with
        | recs _ _ _ _ c fr ho hrng =>
          split at hv
          · rename_i hagg
            simp only at hv
            cases hb : (Nat.blt 0 ks.length && nonneg h.fs (T.sub off o) && nonpos h.fs (T.sub (T.addc 1 (T.sub off o)) (lenL C))) with
            | false => rw [hb] at hv; cases hv
            | true =>
              rw [hb] at hv; simp only [cond_true] at hv
              simp only [Bool.and_eq_true] at hb
              have hk0 : 0 < ks.length := by simpa [Nat.blt_eq] using hb.1.1
              have hq0 := nonneg_ok H.fact hb.1.2
              have hn := nonpos_ok H.fact hb.2
              rw [sub_ev, addc_ev, lenL_ev] at hn
              have hsub := sub_ev e off o
              generalize T.sub off o = q at *
              have hlt : (q.ev e).toNat < (C.evl e).length := by omega
              have hoq : (off.ev e).toNat = (o.ev e).toNat + (q.ev e).toNat := by omega
              split at hv
              · rename_i f hfl
                have hf2 := litNat_ok H.fact hfl
                rw [mod_ev H.fact hk0] at hf2
                have hf3 : (q.ev e).toNat % ks.length = f := by
                  have := Int.toNat_emod hq0 (y := (ks.length : Int)) (by omega)
                  rw [hf2, Int.toNat_natCast, Int.toNat_natCast] at this
                  exact this.symm
                split at hv
                · rename_i kd bits hkf
                  cases hv
                  have hgd : ks.getD ((q.ev e).toNat % ks.length) (.u8, 0) = (kd, bits) := by
                    rw [hf3, List.getD_eq_getElem?_getD, hkf]; rfl
                  have hxx : (C.evl e)[(q.ev e).toNat]? = some ((C.evl e)[(q.ev e).toNat]) := List.getElem?_eq_getElem hlt
                  obtain ⟨z1, z2, z3⟩ := hrng _ _ hxx
                  rw [hgd] at z1 z3
                  refine ⟨.int kd ((C.evl e)[(q.ev e).toNat]), ?_, ?_⟩
                  · rw [← hoq] at z1
                    simp [Instr.loadAt, Instr.sureAddr, loadVar, isAggS_ok hagg, cell_of h2, z1]
                  · have : (litD h.fs (rdT C bits q)).ev e = (C.evl e)[(q.ev e).toNat] := by
                      rw [litD_ev H.fact, rdT_ev, List.getD_eq_getElem?_getD, List.getElem?_eq_getElem hlt, Option.getD_some, clamp_id z2 (by simp only at z3; omega)]
                    rw [← this]; exact .int _ _
                · cases hv
              · cases hv
          · rename_i hagg
            split at hv
            · rename_i m hsz
              simp only at hv
              cases hb : (Nat.beq m ks.length && Nat.blt 0 m && nonneg h.fs (T.sub off o) && nonpos h.fs (T.sub (T.addc (m : Int) (T.sub off o)) (lenL C))) with
              | false => rw [hb] at hv; cases hv
              | true =>
                rw [hb] at hv; simp only [cond_true] at hv
                simp only [Bool.and_eq_true] at hb
                have hmk := Nat.eq_of_beq_eq_true hb.1.1.1
                have hm0 : 0 < m := by simpa [Nat.blt_eq] using hb.1.1.2
                have hq0 := nonneg_ok H.fact hb.1.2
                have hn := nonpos_ok H.fact hb.2
                rw [sub_ev, addc_ev, lenL_ev] at hn
                have hsub := sub_ev e off o
                generalize T.sub off o = q at *
                have hlt : (q.ev e).toNat + m ≤ (C.evl e).length := by omega
                have hoq : (off.ev e).toNat = (o.ev e).toNat + (q.ev e).toNat := by omega
                split at hv
                · rename_i hfl
                  cases hv
                  have hf2 := litNat_ok H.fact hfl
                  rw [mod_ev H.fact (by omega)] at hf2
                  have hf3 : (q.ev e).toNat % ks.length = 0 := by
                    have := Int.toNat_emod hq0 (y := (ks.length : Int)) (by omega)
                    rw [hf2, Int.toNat_natCast] at this
                    simpa using this.symm
                  have hat : ∀ j, j < m → ∃ x, (C.evl e)[(q.ev e).toNat + j]? = some x ∧ c[(off.ev e).toNat + j]? = some (.int (ks.getD j (.u8, 0)).1 x) ∧ 0 ≤ x ∧ x < 2 ^ (ks.getD j (.u8, 0)).2 := by
                    intro j hj
                    have hxx : (C.evl e)[(q.ev e).toNat + j]? = some ((C.evl e)[(q.ev e).toNat + j]'(by omega)) := List.getElem?_eq_getElem (by omega)
                    obtain ⟨z1, z2, z3⟩ := hrng _ _ hxx
                    have hmod : ((q.ev e).toNat + j) % ks.length = j := by
                      rw [Nat.add_mod, hf3, Nat.zero_add, Nat.mod_mod, Nat.mod_eq_of_lt (by omega)]
                    rw [hmod] at z1 z3
                    exact ⟨_, hxx, by rw [hoq, Nat.add_assoc]; exact z1, z2, z3⟩
                  have hfit : (off.ev e).toNat + m ≤ c.size := by
                    obtain ⟨x, _, x2, _⟩ := hat (m - 1) (by omega)
                    have := (Array.getElem?_eq_some_iff.1 x2).1
                    omega
                  refine ⟨.agg (c.extract (off.ev e).toNat ((off.ev e).toNat + m)), ?_, .agg _ _ ?_⟩
                  · simp only [Instr.loadAt, Instr.sureAddr, loadVar, Sem.run_bind, Sem.run_pure, Result.andThen_ok, isAggS_ok hagg, if_true, sizeS_ok hsz, loadCells_run h2 _ m hfit]
                  · have key : ∀ (l : List (IntKind × Nat)) (p : T) (j : Nat), j + l.length = m → (∀ i : Nat, l[i]? = ks[j + i]?) → 0 ≤ p.ev e → (p.ev e).toNat = (q.ev e).toNat + j →
                        VRs e M (recL C l p) (((c.toList).drop ((off.ev e).toNat + j)).take l.length) := by
                      intro l
                      induction l with
                      | nil => intro p j _ _ _ _; simp only [recL, List.length_nil, List.take_zero]; exact .nil
                      | cons kb l ih =>
                        intro p j hjl hks hp0 hpj
                        obtain ⟨kd, bits⟩ := kb
                        obtain ⟨x, x1, x2, x3, x4⟩ := hat j (by simp only [List.length_cons] at hjl; omega)
                        have hk : ks.getD j (.u8, 0) = (kd, bits) := by
                          rw [List.getD_eq_getElem?_getD, ← Nat.add_zero j, ← hks 0]; rfl
                        rw [hk] at x2 x4
                        have hlt' : (off.ev e).toNat + j < c.toList.length := by simp only [Array.length_toList]; simp only [List.length_cons] at hjl; omega
                        rw [List.drop_eq_getElem_cons hlt', List.length_cons, List.take_succ_cons]
                        have hx' : c.toList[(off.ev e).toNat + j] = .int kd x := by
                          have := x2
                          rw [← Array.getElem?_toList, List.getElem?_eq_getElem hlt'] at this
                          exact Option.some.inj this
                        rw [hx']
                        simp only [recL]
                        refine .cons _ _ _ _ ?_ (ih (T.addc 1 p) (j + 1) (by simp only [List.length_cons] at hjl; omega) (fun i => ?_) (by rw [addc_ev]; omega) (by rw [addc_ev]; omega))
                        · have hrd : (rdT C bits p).ev e = x := by
                            rw [rdT_ev, List.getD_eq_getElem?_getD, hpj, x1, Option.getD_some, clamp_id x3 (by simp only at x4; omega)]
                          rw [← hrd]; exact .int _ _
                        · have := hks (i + 1)
                          rw [List.getElem?_cons_succ] at this
                          rw [this]; congr 1; omega
                    have := key ks q 0 (by omega) (fun i => by rw [Nat.zero_add]) hq0 rfl
                    rw [Array.toList_extract, List.extract_eq_take_drop]
                    rw [Nat.add_zero, ← hmk] at this
                    rw [show (off.ev e).toNat + m - (off.ev e).toNat = m by omega]
                    exact this
                · cases hv
            · cases hv
          · cases hv
      · cases hv
  · cases hv

end
end Go.Sx

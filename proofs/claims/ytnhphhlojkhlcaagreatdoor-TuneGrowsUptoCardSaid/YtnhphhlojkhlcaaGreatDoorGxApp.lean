/- Slices that are made: literals, append, make. -/
import Derived.Test.YtnhphhlojkhlcaaGreatDoorGxEff
namespace Go.Sx
open Go Go.RowKit

section
variable {P : Program} {e : Env} {F : Base} {M : Lay} {h : Hs} {w : World}

/-- The same cells again and again. -/
def zerosS (z : Value) (n : Nat) : List SV := (List.range n).map fun i => scal (z.cells[i % z.cells.size]!)

theorem zerosS_ok (z : Value) (n : Nat) : VRs e M (zerosS z n) ((Array.range n).map (z.cells[· % z.cells.size]!)).toList := by
  have : ((Array.range n).map (z.cells[· % z.cells.size]!)).toList = (List.range n).map (z.cells[· % z.cells.size]!) := by simp
  rw [this]
  unfold zerosS
  generalize List.range n = l
  induction l with
  | nil => exact .nil
  | cons i l ih => exact .cons _ _ _ _ (scal_ok _) ih

/-- Parts that come in order, each behind the one ahead: their cells. -/
def fastParts (ev : Operand → SV) (sz : Nat) : Nat → List (Nat × Operand) → Option (List SV)
  | _, [] => some []
  | i, (j, x) :: rest => bif Nat.beq i j then (match (ev x).cells with
      | some l => bif Nat.beq l.length sz then (match fastParts ev sz (i + 1) rest with
        | some r => some (l ++ r)
        | none => none) else none
      | none => none) else none

theorem overlayS_mid : ∀ (l xs : List SV) (o : Nat), o + xs.length ≤ l.length → overlayS l o xs = l.take o ++ xs ++ l.drop (o + xs.length) := by
  intro l xs
  induction xs generalizing l with
  | nil => intro o ho; simp [overlayS]
  | cons x xs ih =>
    intro o ho
    simp only [List.length_cons] at ho
    rw [overlayS, ih _ _ (by rw [List.length_set]; omega)]
    apply List.ext_getElem?
    intro i
    simp only [List.append_assoc, List.getElem?_append, List.length_take, List.length_set, List.getElem?_take, List.getElem?_set, List.getElem?_drop, List.length_cons]
    have e1 : min (o + 1) l.length = o + 1 := by omega
    have e2 : min o l.length = o := by omega
    rw [e1, e2]
    by_cases h1 : i < o
    · rw [if_pos (by omega), if_pos (by omega), if_neg (by omega), if_pos h1, if_pos h1]
    · by_cases h2 : i = o
      · subst h2
        rw [if_pos (by omega), if_pos (by omega), if_pos rfl, if_pos (by omega), if_neg (by omega), if_pos (by omega)]
        simp
      · rw [if_neg (by omega), if_neg h1]
        by_cases h3 : i - (o + 1) < xs.length
        · rw [if_pos h3, if_pos (by omega)]
          rw [show i - o = (i - (o + 1)) + 1 from by omega, List.getElem?_cons_succ]
        · rw [if_neg h3, if_neg (by omega), if_neg (by omega)]
          congr 1; omega

theorem fastParts_eq {ev : Operand → SV} {sz : Nat} : ∀ (ps : List (Nat × Operand)) (i : Nat) (cells l : List SV), fastParts ev sz i ps = some l → i * sz + l.length ≤ cells.length →
    buildParts ev (fun i => some (i * sz, sz)) cells ps = some (cells.take (i * sz) ++ l ++ cells.drop (i * sz + l.length)) := by
  intro ps
  induction ps with
  | nil => intro i cells l h hl; cases h; simp [buildParts]
  | cons p ps ih =>
    intro i cells l h hl
    obtain ⟨j, x⟩ := p
    simp only [fastParts] at h
    cases hij : Nat.beq i j with
    | false => rw [hij] at h; cases h
    | true =>
      rw [hij] at h; simp only [cond_true] at h
      have := Nat.eq_of_beq_eq_true hij
      subst this
      split at h
      · rename_i xs hxs
        cases hs : Nat.beq xs.length sz with
        | false => rw [hs] at h; cases h
        | true =>
          rw [hs] at h; simp only [cond_true] at h
          have hs' := Nat.eq_of_beq_eq_true hs
          split at h
          · rename_i r hr
            cases h
            simp only [List.length_append] at hl
            have hb : (Nat.beq xs.length sz && Nat.ble (i * sz + xs.length) cells.length) = true := by
              rw [hs, Nat.ble_eq_true_of_le (by omega)]; rfl
            simp only [buildParts, hxs, hb, cond_true]
            rw [overlayS_mid _ _ _ (by omega)]
            have e1 : (i + 1) * sz = i * sz + xs.length := by rw [Nat.add_mul, hs']; omega
            have hlen : (cells.take (i * sz) ++ xs ++ cells.drop (i * sz + xs.length)).length = cells.length := by simp; omega
            rw [ih (i + 1) _ r hr (by rw [hlen, e1]; omega), e1]
            have t1 : (cells.take (i * sz) ++ xs ++ cells.drop (i * sz + xs.length)).take (i * sz + xs.length) = cells.take (i * sz) ++ xs := by
              rw [List.take_append_of_le_length (by simp; omega), List.take_of_length_le (by simp; omega)]
            have t2 : (cells.take (i * sz) ++ xs ++ cells.drop (i * sz + xs.length)).drop (i * sz + xs.length + r.length) = cells.drop (i * sz + (xs ++ r).length) := by
              rw [List.drop_append]
              have l1 : (cells.take (i * sz) ++ xs).length = i * sz + xs.length := by simp; omega
              rw [l1, List.drop_of_length_le (by rw [l1]; omega), List.nil_append, List.drop_drop]
              congr 1; simp; omega
            rw [t1, t2]; simp
          · cases h
      · cases h

/-- The cells of a literal. -/
def partsS (ev : Operand → SV) (sz n : Nat) (z : Value) (ps : List (Nat × Operand)) : Option (List SV) :=
  match fastParts ev sz 0 ps with
  | some l => bif Nat.beq l.length (n * sz) then some l else buildParts ev (fun i => some (i * sz, sz)) (zerosS z (n * sz)) ps
  | none => buildParts ev (fun i => some (i * sz, sz)) (zerosS z (n * sz)) ps

theorem partsS_eq {ev : Operand → SV} {sz n : Nat} {z : Value} {ps : List (Nat × Operand)} {l : List SV} (h : partsS ev sz n z ps = some l) :
    buildParts ev (fun i => some (i * sz, sz)) (zerosS z (n * sz)) ps = some l := by
  unfold partsS at h
  split at h
  · rename_i r hr
    cases hb : Nat.beq r.length (n * sz) with
    | false => rw [hb] at h; exact h
    | true =>
      rw [hb] at h; cases h
      have hb' := Nat.eq_of_beq_eq_true hb
      have hz : (zerosS z (n * sz)).length = n * sz := by simp [zerosS]
      rw [fastParts_eq ps 0 _ _ hr (by rw [hz]; omega)]
      simp [hb', hz, List.drop_of_length_le]
  · exact h

variable (P)
def litSliceS (h : Hs) (ev : Operand → SV) (t : TypeId) (len : Nat) (parts : Array (Nat × Operand)) (k : SV → Hs → V) : V :=
  match P.underlying t with
  | some (.slice el) => match sizeS P el with
    | some sz => match zeroS P el with
      | some z => bif Nat.ble (len * sz) 100000 then
          (match partsS ev sz len z parts.toList with
          | some l => k (.slice h.hn (.lit 0) (.lit len) (some (.lit len)) sz) (h.alloc (.row l el true))
          | none => .bad 10 []) else .bad 11 []
      | none => .bad 12 []
    | none => .bad 13 []
  | _ => .bad 14 []

variable {P}
theorem litSliceS_ok (H : HeapOK e F M h w) {ev : Operand → SV} {ρ : Operand → Value} (hev : ∀ x, VR e M (ev x) (ρ x)) {t : TypeId} {len : Nat} {parts : Array (Nat × Operand)} {k : SV → Hs → V}
    (hk : litSliceS P h ev t len parts k = .ok) : Post e F M k ((Instr.buildSlice t len (parts.map fun (i, x) => (i, ρ x))).run P w) := by
  unfold litSliceS at hk
  split at hk
  · rename_i el hu
    split at hk
    · rename_i sz hsz
      split at hk
      · rename_i z hz
        cases hle : Nat.ble (len * sz) 100000 with
        | false => rw [hle] at hk; cases hk
        | true =>
          rw [hle] at hk; simp only [cond_true] at hk
          have g1 := Nat.le_of_ble_eq_true hle
          split at hk
          · rename_i l hl
            have hl := partsS_eq hl
            have hzs : ∃ zc : Array Value, ((len * sz = 0 ∧ zc = #[]) ∨ (len * sz ≠ 0 ∧ zc = z.cells)) ∧
                VRs e M (zerosS z (len * sz)) ((Array.range (len * sz)).map (zc[· % zc.size]!)).toList := by
              by_cases h0 : len * sz = 0
              · refine ⟨#[], .inl ⟨h0, rfl⟩, ?_⟩
                rw [h0]
                have : ((Array.range 0).map ((#[] : Array Value)[· % (#[] : Array Value).size]!)).toList = [] := by simp
                rw [this]; exact .nil
              · exact ⟨z.cells, .inr ⟨h0, rfl⟩, zerosS_ok z _⟩
            obtain ⟨zc, hz1, hz2⟩ := hzs
            obtain ⟨cs', h1, h2⟩ := fill_ok hev _ _ _ _ hz2 hl
            have hp := post_row H el h2
            have hparts : (parts.map fun (x : Nat × Operand) => (x.1, ρ x.2)).toList = parts.toList.map fun x => (x.1, ρ x.2) := by simp
            have hsize : cs'.size = len * sz := by
              have := h2.length
              have hll : l.length = len * sz := by
                have : ∀ (ps : List (Nat × Operand)) (c l : List SV), buildParts ev (fun i => some (i * sz, sz)) c ps = some l → l.length = c.length := by
                  intro ps
                  induction ps with
                  | nil => intro c l hb; cases hb; rfl
                  | cons p ps ih =>
                    intro c l hb
                    obtain ⟨i, x⟩ := p
                    simp only [buildParts] at hb
                    split at hb
                    · cases hb
                    · rename_i xs _
                      cases hc : (Nat.beq xs.length sz && Nat.ble (i * sz + xs.length) c.length) with
                      | false => rw [hc] at hb; cases hb
                      | true =>
                        rw [hc] at hb; simp only [cond_true] at hb
                        rw [ih _ _ hb]
                        have : ∀ (ss l : List SV) (o : Nat), (overlayS l o ss).length = l.length := by
                          intro ss
                          induction ss with
                          | nil => intro l o; rfl
                          | cons s ss ih => intro l o; simp [overlayS, ih]
                        exact this _ _ _
                rw [this _ _ _ hl]; simp [zerosS]
              simp only [Array.length_toList] at this; omega
            refine ⟨_, _, _, _, _, ?_, hp.1, hp.2, .slice h.hn (.lit 0) (.lit len) (some (.lit len)) sz w.heap.size cs'.size len (Lay.put_same _ _ _) (Int.le_refl _) ?_ ?_ ?_ ?_, hk⟩
            · have hbig : ¬ (len * sz > 2 ^ 24) := by omega
              simp only [Instr.buildSlice, Sem.run_bind, run_underlying hu, Result.andThen_ok, sizeS_ok hsz]
              rw [if_neg hbig]
              rcases hz1 with ⟨h0, rfl⟩ | ⟨h0, rfl⟩
              · rw [if_pos h0]
                simp only [Sem.run_bind, Sem.run_pure, Result.andThen_ok, hparts, h1, run_newRow]
                simp [ev_lit]
              · rw [if_neg h0]
                simp only [Sem.run_bind, Sem.run_pure, Result.andThen_ok, zeroS_ok hz, hparts, h1, run_newRow]
                simp [ev_lit]
            · rw [ev_lit]; omega
            · rw [ev_lit]; omega
            · intro t' ht'; cases ht'; rfl
            · exact ⟨by rw [ev_lit, hsize]; simp, fun hc => by cases hc⟩
          · cases hk
      · cases hk
    · cases hk
  · cases hk

/-! ## append -/

/-- So many numbers of a list, from a place on. -/
def rdsS (fs : Facts) (k : IntKind) (bits : Nat) (L : T) : Nat → Nat → List SV
  | _, 0 => []
  | o, n + 1 => .int k (rdS fs bits (.lit (o : Int)) L) :: rdsS fs k bits L (o + 1) n

theorem rdsS_ok {fs : Facts} (hf : fs.ok e) {k : IntKind} {bits : Nat} {L : T} {rest : List Value} (hr : ∀ x ∈ L.evl e, 0 ≤ x ∧ x < 2 ^ bits) : ∀ (n o : Nat), o + n ≤ (L.evl e).length →
    VRs e M (rdsS fs k bits L o n) ((((L.evl e).map (Value.int k) ++ rest).drop o).take n) := by
  intro n
  induction n with
  | zero => intro o _; simp only [rdsS, List.take_zero]; exact .nil
  | succ n ih =>
    intro o ho
    have hlt : o < (L.evl e).length := by omega
    have hl : o < ((L.evl e).map (Value.int k) ++ rest).length := by simp; omega
    rw [List.drop_eq_getElem_cons hl, List.take_succ_cons]
    refine .cons _ _ _ _ ?_ (ih (o + 1) (by omega))
    rw [List.getElem_append_left (by simpa using hlt), List.getElem_map]
    have hb := hr _ (List.getElem_mem hlt)
    have ho' : ((T.lit (o : Int)).ev e).toNat = o := by rw [ev_lit]; simp
    have : (rdS fs bits (.lit (o : Int)) L).ev e = (L.evl e)[o] := by
      rw [rdS_ev hf L (by rw [ho']; exact hlt), rdT_ev, ho', List.getD_eq_getElem?_getD, List.getElem?_eq_getElem hlt, Option.getD_some, clamp_id hb.1 (by omega)]
    rw [← this]; exact .int _ _

theorem rdsS_length (fs : Facts) (k : IntKind) (bits : Nat) (L : T) : ∀ (n o : Nat), (rdsS fs k bits L o n).length = n := by
  intro n
  induction n with
  | zero => intro o; rfl
  | succ n ih => intro o; simp only [rdsS, List.length_cons, ih]

/-- So many numbers of a row of records of one number. -/
def recS (h : Hs) (sz b : Nat) (off : T) (n : Nat) : Option (List SV) := match h.hp.get b with
  | some (.recs [(k, bits)] C o) => match litNat h.fs (T.sub off o) with
    | some s => bif Nat.ble n 64 && Nat.beq sz 1 && nonpos h.fs (T.sub (.lit ((s + n : Nat) : Int)) (lenL C)) then some (rdsS h.fs k bits C s n) else none
    | none => none
  | _ => none

theorem rdsS_get {fs : Facts} (hf : fs.ok e) {k : IntKind} {bits : Nat} {L : T} : ∀ (n s : Nat) (vs : List Value), vs.length = n →
    (∀ i, i < n → ∃ x, (L.evl e)[s + i]? = some x ∧ vs[i]? = some (.int k x) ∧ 0 ≤ x ∧ x < 2 ^ bits) → VRs e M (rdsS fs k bits L s n) vs := by
  intro n
  induction n with
  | zero => intro s vs hl _; cases vs with
    | nil => exact .nil
    | cons => simp at hl
  | succ n ih =>
    intro s vs hl hx
    cases vs with
    | nil => simp at hl
    | cons v vs =>
      obtain ⟨x, x1, x2, x3, x4⟩ := hx 0 (by omega)
      simp only [Nat.add_zero] at x1
      simp only [List.getElem?_cons_zero, Option.some.injEq] at x2
      subst x2
      have hlt : s < (L.evl e).length := (List.getElem?_eq_some_iff.1 x1).1
      have ho' : ((T.lit (s : Int)).ev e).toNat = s := by rw [ev_lit]; simp
      have hev : (rdS fs bits (.lit (s : Int)) L).ev e = x := by
        rw [rdS_ev hf L (by rw [ho']; exact hlt), rdT_ev, ho', List.getD_eq_getElem?_getD, x1, Option.getD_some, clamp_id x3 (by omega)]
      refine .cons _ _ _ _ (by rw [← hev]; exact .int _ _) (ih (s + 1) vs (by simpa using hl) ?_)
      intro i hi
      obtain ⟨y, y1, y2, y3⟩ := hx (i + 1) (by omega)
      exact ⟨y, by rw [← y1]; congr 1; omega, by simpa using y2, y3⟩

/-- What is appended: how many elements, their cells. -/
def srcS (h : Hs) (sz : Nat) (x : SV) : Option (Nat × List SV) :=
  match x with
  | .nils => some (0, [])
  | .str l => bif Nat.beq sz 1 then some (l.length, l.map fun (c : Nat) => .int .u8 (.lit (c : Int))) else none
  | .slice b off len _ _ => match litNat h.fs len with
    | some n => match recS h sz b off n with
     | some l => some (n, l)
     | none => match litNat h.fs off with
      | some o => match h.hp.get b with
        | some (.row cs _ _) => bif Nat.ble (o + n * sz) cs.length then some (n, (cs.drop o).take (n * sz)) else none
        | some (.ints k bits L _ _) => bif Nat.ble n 64 && Nat.beq sz 1 && nonpos h.fs (T.sub (.lit ((o + n : Nat) : Int)) (lenL L)) then some (n, rdsS h.fs k bits L o n) else none
        | _ => bif Nat.beq n 0 then some (0, []) else none
      | none => none
    | none => none
  | _ => none

theorem srcS_ok (H : HeapOK e F M h w) {sz : Nat} {x : SV} {vx : Value} {n : Nat} {l : List SV} (hs : srcS h sz x = some (n, l)) (hx : VR e M x vx) :
    (Builtin.lenOf vx).run P w = .ok n w ∧ ∃ arr : Array Value, (Builtin.firstCells sz n vx).run P w = .ok arr w ∧ VRs e M l arr.toList ∧ arr.size = n * sz := by
  unfold srcS at hs
  split at hs
  · cases hs; cases hx
    exact ⟨by simp [Builtin.lenOf], #[], by simp [Builtin.firstCells], .nil, by simp⟩
  · rename_i s
    cases hb : Nat.beq sz 1 with
    | false => rw [hb] at hs; cases hs
    | true =>
      rw [hb] at hs; cases hs
      have h1 := Nat.eq_of_beq_eq_true hb
      subst h1
      cases hx with
      | str _ hl =>
        refine ⟨by simp [Builtin.lenOf, bytesOf_size], (((bytesOf s).extract 0 s.length).data.map fun b => .int .u8 b.toNat), by simp [Builtin.firstCells], ?_, ?_⟩
        · have : (((bytesOf s).extract 0 s.length).data.map fun b => Value.int .u8 b.toNat).toList = s.map fun (c : Nat) => Value.int .u8 (c : Int) := by
            have hx : ((bytesOf s).extract 0 s.length).data = (s.map (fun n => UInt8.ofNat n)).toArray := by
              rw [ByteArray.data_extract]
              apply Array.ext'
              simp [bytesOf, List.extract_eq_take_drop]
              rw [List.take_of_length_le (by simp)]
            rw [hx]
            simp only [List.map_toArray, List.map_map]
            apply List.map_congr_left
            intro c hc
            have := hl c hc
            simp [Nat.mod_eq_of_lt this]
          rw [this]
          clear hl this
          induction s with
          | nil => exact .nil
          | cons c s ih => exact .cons _ _ _ _ (.int .u8 (.lit c)) ih
        · simp [ByteArray.data_extract, bytesOf]
  · rename_i b off len cap sz0
    cases hx with
    | slice _ _ _ _ _ r nn c hM hoff hlen hlc hcap hn =>
      split at hs
      · rename_i m hm
        have e1 := litNat_ok H.fact hm
        split at hs
        · rename_i lr hrec
          cases hs
          unfold recS at hrec
          split at hrec
          · rename_i k bits C o hg
            split at hrec
            · rename_i st hst
              cases hcc : (Nat.ble n 64 && Nat.beq sz 1 && nonpos h.fs (T.sub (.lit ((st + n : Nat) : Int)) (lenL C))) with
              | false => rw [hcc] at hrec; cases hrec
              | true =>
                rw [hcc] at hrec; cases hrec
                simp only [Bool.and_eq_true] at hcc
                have hsz := Nat.eq_of_beq_eq_true hcc.1.2
                subst hsz
                have hlen' := nonpos_ok H.fact hcc.2
                rw [sub_ev, ev_lit, lenL_ev] at hlen'
                have hst' := litNat_ok H.fact hst
                rw [sub_ev] at hst'
                obtain ⟨r', n', y, h1, h2, h3⟩ := H.live b _ hg rfl
                rw [hM] at h1; cases h1
                cases h3 with
                | recs _ _ _ _ cc fr ho hrng =>
                  have e3 : (len.ev e).toNat = n := by omega
                  have e4 : (off.ev e).toNat = (o.ev e).toNat + st := by omega
                  have hin : ∀ i, i < n → ∃ x, (C.evl e)[st + i]? = some x ∧ cc[(off.ev e).toNat + i]? = some (.int k x) ∧ 0 ≤ x ∧ x < 2 ^ bits := by
                    intro i hi
                    have hlt : st + i < (C.evl e).length := by omega
                    obtain ⟨z1, z2, z3⟩ := hrng (st + i) _ (List.getElem?_eq_getElem hlt)
                    have hm1 : (st + i) % [(k, bits)].length = 0 := by simp [Nat.mod_one]
                    rw [hm1] at z1 z3
                    simp only [List.getD_eq_getElem?_getD, List.getElem?_cons_zero, Option.getD_some] at z1 z3
                    exact ⟨_, List.getElem?_eq_getElem hlt, by rw [e4, Nat.add_assoc]; exact z1, z2, z3⟩
                  have hfit : (off.ev e).toNat + n * 1 ≤ cc.size := by
                    rcases Nat.eq_zero_or_pos n with h0 | h0
                    · subst h0
                      have h9 := hn.1
                      omega
                    · obtain ⟨x, _, x2, _⟩ := hin (n - 1) (by omega)
                      have := (Array.getElem?_eq_some_iff.1 x2).1
                      omega
                  refine ⟨by simp [Builtin.lenOf, e3], cc.extract (off.ev e).toNat ((off.ev e).toNat + n * 1), ?_, ?_, ?_⟩
                  · simp only [Builtin.firstCells]
                    exact loadCells_run h2 (off.ev e).toNat (n * 1) hfit
                  · refine rdsS_get H.fact n st _ (by simp; omega) ?_
                    intro i hi
                    obtain ⟨x, x1, x2, x3⟩ := hin i hi
                    refine ⟨x, x1, ?_, x3⟩
                    rw [Array.getElem?_toList, Array.getElem?_extract, if_pos (by omega)]
                    exact x2
                  · simp; omega
            · cases hrec
          · cases hrec
        split at hs
        · rename_i o ho
          have e2 := litNat_ok H.fact ho
          have e3 : (len.ev e).toNat = m := by omega
          have e4 : (off.ev e).toNat = o := by omega
          split at hs
          · rename_i cs el wr hg
            cases hle : Nat.ble (o + m * sz) cs.length with
            | false => rw [hle] at hs; cases hs
            | true =>
              rw [hle] at hs; cases hs
              have g := Nat.le_of_ble_eq_true hle
              obtain ⟨r', n', y, h1, h2, h3⟩ := H.live b _ hg rfl
              rw [hM] at h1; cases h1
              cases h3 with
              | row _ _ _ cc pre rest fr hc hcs hfr =>
                have hcl := hcs.length
                have hsize : cc.size = pre.length + rest.length := by
                  have := congrArg List.length hc; simpa using this
                refine ⟨by simp [Builtin.lenOf, e3], cc.extract o (o + n * sz), ?_, ?_, ?_⟩
                · simp only [Builtin.firstCells, e4]
                  exact loadCells_run h2 o (n * sz) (by omega)
                · rw [Array.toList_extract, List.extract_eq_take_drop, hc, show o + n * sz - o = n * sz by omega, List.drop_append_of_le_length (by omega), List.take_append_of_le_length (by simp; omega)]
                  exact (hcs.drop o).take _
                · simp; omega
          · rename_i k bits L el wr hg
            cases hle : (Nat.ble m 64 && Nat.beq sz 1 && nonpos h.fs (T.sub (.lit ((o + m : Nat) : Int)) (lenL L))) with
            | false => rw [hle] at hs; cases hs
            | true =>
              rw [hle] at hs; cases hs
              simp only [Bool.and_eq_true] at hle
              have hsz := Nat.eq_of_beq_eq_true hle.1.2
              subst hsz
              have hlen := nonpos_ok H.fact hle.2
              rw [sub_ev, ev_lit, lenL_ev] at hlen
              obtain ⟨r', n', y, h1, h2, h3⟩ := H.live b _ hg rfl
              rw [hM] at h1; cases h1
              cases h3 with
              | ints _ _ _ _ _ cc rest fr hc hrng hfr =>
                have hsize : cc.size = (L.evl e).length + rest.length := by
                  have := congrArg List.length hc; simpa using this
                refine ⟨by simp [Builtin.lenOf, e3], cc.extract o (o + n * 1), ?_, ?_, ?_⟩
                · simp only [Builtin.firstCells, e4]
                  exact loadCells_run h2 o (n * 1) (by omega)
                · rw [Array.toList_extract, List.extract_eq_take_drop, hc, show o + n * 1 - o = n by omega]
                  exact rdsS_ok H.fact hrng n o (by omega)
                · simp; omega
          · cases hb : Nat.beq m 0 with
            | false => rw [hb] at hs; cases hs
            | true =>
              rw [hb] at hs; cases hs
              have hm0 := Nat.eq_of_beq_eq_true hb
              refine ⟨by simp [Builtin.lenOf, e3, hm0], #[], ?_, .nil, by simp⟩
              simp [Builtin.firstCells, loadCells, loadCellsFrom]
        · cases hs
      · cases hs
  · cases hs

theorem growBy_le (newLen : Nat) : ∀ (r c : Nat), c ≤ newLen → Builtin.growBy newLen r c ≤ newLen + (newLen + 768) / 4 := by
  intro r
  induction r with
  | zero => intro c hc; simp [Builtin.growBy]; omega
  | succ r ih =>
    intro c hc
    simp only [Builtin.growBy]
    split
    · omega
    · by_cases h2 : c + (c + 768) / 4 ≤ newLen
      · exact ih _ h2
      · have : ∀ r, Builtin.growBy newLen r (c + (c + 768) / 4) = c + (c + 768) / 4 := by
          intro r
          cases r with
          | zero => rfl
          | succ r => simp only [Builtin.growBy]; rw [if_pos (by omega)]
        rw [this]; omega

theorem nextcap_le {need c : Nat} (hc : c < need) : Builtin.nextslicecap need c ≤ 2 * need + 512 := by
  unfold Builtin.nextslicecap
  split
  · omega
  · split
    · omega
    · have := growBy_le need 4 c (by omega)
      omega

theorem zeroCells_toList (z : Array Value) (n : Nat) : (Builtin.zeroCells z n).size = n * z.size := by simp [Builtin.zeroCells]

/-- A new row for a slice that has grown. -/
theorem grown_run {ats : Array TypeId} {ts tx : TypeId} {el : TypeId} {sz : Nat} {z : Value} {inf : TypeInfo} {base : Option Addr} {sLen sCap n : Nat} {vx : Value} {old new : Array Value}
    (h0 : ats[0]? = some ts) (h1 : ats[1]? = some tx) (hu : P.underlying ts = some (.slice el)) (hx : P.underlying tx = some .string ∨ ∃ y, P.underlying tx = some (.slice y)) (hsz : sizeS P el = some sz) (hz : zeroS P el = some z)
    (hinf : P.info? el = some inf) (hb : inf.bytes ≤ 4096) (hzs : z.cells.size = sz) (hlen : (Builtin.lenOf vx).run P w = .ok n w) (hgrow : sCap < sLen + n) (hsmall : sLen + n ≤ 1073741824) (ty : TypeId)
    (hold : (Builtin.firstCells sz sLen (.slice base sLen sCap)).run P { w with drawn := w.drawn + 1 } = .ok old { w with drawn := w.drawn + 1 })
    (hnew : (Builtin.firstCells sz n vx).run P { w with drawn := w.drawn + 1 } = .ok new { w with drawn := w.drawn + 1 }) (ho : old.size = sLen * sz) (hn : new.size = n * sz) :
    ∃ (c : Array Value) (cap : Nat), (Builtin.append_ ats ty #[.slice base sLen sCap, vx]).run P w = .ok (.slice (some ⟨w.heap.size, 0, none⟩) (sLen + n) cap) { w with heap := w.heap.push (.cells c el), drawn := w.drawn + 1 } ∧
      sLen + n ≤ cap ∧ c.size = cap * sz ∧ ∃ rest, c.toList = old.toList ++ new.toList ++ rest := by
  have hcap : ∃ cap, Question.cut (.appendCap (sLen + n) sCap el) (w.tape w.drawn (.appendCap (sLen + n) sCap el)) = cap ∧ sLen + n ≤ cap := ⟨_, rfl, by simp only [Question.cut]; omega⟩
  obtain ⟨cap, hc1, hc2⟩ := hcap
  refine ⟨old ++ new ++ Builtin.zeroCells z.cells (cap - (sLen + n)), cap, ?_, hc2, ?_, ⟨(Builtin.zeroCells z.cells (cap - (sLen + n))).toList, by simp only [Array.toList_append]⟩⟩
  · have hnext := nextcap_le hgrow
    have hbytes : ¬ (Builtin.nextslicecap (sLen + n) sCap * inf.bytes > 2 ^ 48) := by
      have h2 := Nat.mul_le_mul hnext hb
      have h3 : (2 * (sLen + n) + 512) * 4096 ≤ 281474976710656 := by omega
      have h4 : (2 : Nat) ^ 48 = 281474976710656 := by decide
      rw [h4]; omega
    have hne : ¬ (sLen + n ≤ sCap) := by omega
    have hmx : ¬ (((sLen + n : Nat) : Int) > IntKind.i64.max) := by
      have : IntKind.i64.max = 9223372036854775807 := by decide
      rw [this]; omega
    rcases hx with hd1 | ⟨y, hd1⟩
    all_goals
      simp only [Builtin.append_, h0, List.getElem?_toArray, List.getElem?_cons_zero, List.getElem?_cons_succ, Sem.run_bind, run_underlying hu, Result.andThen_ok, Sem.run_pure, sizeS_ok hsz, h1, run_underlying hd1,
        Bool.false_eq_true, if_false, hlen, hne, typeInfo_ok hinf, hmx, false_and, hbytes, run_choose, Question.forced, hc1, run_askRoom, hold, hnew, zeroS_ok hz, run_newRow, Bool.not_false, if_true]
  · simp only [Array.size_append, ho, hn, zeroCells_toList, hzs]
    rw [← Nat.add_mul, ← Nat.add_mul]
    congr 1; omega


theorem overlay_append : ∀ (vs pre rest : List Value), vs.length ≤ rest.length → overlay (pre ++ rest) pre.length vs = pre ++ vs ++ rest.drop vs.length := by
  intro vs
  induction vs with
  | nil => intro pre rest _; simp [overlay]
  | cons v vs ih =>
    intro pre rest hle
    cases rest with
    | nil => simp at hle
    | cons x rest =>
      simp only [overlay]
      rw [List.set_append_right _ _ (Nat.le_refl _), Nat.sub_self, List.set_cons_zero]
      have := ih (pre ++ [v]) rest (by simpa using hle)
      simp only [List.append_assoc, List.singleton_append, List.length_append, List.length_cons, List.length_nil] at this ⊢
      rw [this]; simp

/-- append where there is room: what is there already is written over. -/
theorem room_run {ats : Array TypeId} {ts tx : TypeId} {el : TypeId} {sz : Nat} {base : Option Addr} {sLen sCap n : Nat} {vx : Value} {new : Array Value}
    (h0 : ats[0]? = some ts) (h1 : ats[1]? = some tx) (hu : P.underlying ts = some (.slice el)) (hx : P.underlying tx = some .string ∨ ∃ y, P.underlying tx = some (.slice y)) (hsz : sizeS P el = some sz)
    (hlen : (Builtin.lenOf vx).run P w = .ok n w) (hroom : sLen + n ≤ sCap) (hnew : (Builtin.firstCells sz n vx).run P w = .ok new w) (ty : TypeId) :
    (Builtin.append_ ats ty #[.slice base sLen sCap, vx]).run P w = match base with
      | some a => ((storeCells (a.add (sLen * sz)) new.toList).run P w).andThen fun _ w' => .ok (.slice base (sLen + n) sCap) w'
      | none => .ok (.slice base (sLen + n) sCap) w := by
  rcases hx with hd1 | ⟨y, hd1⟩
  all_goals
    simp only [Builtin.append_, h0, List.getElem?_toArray, List.getElem?_cons_zero, List.getElem?_cons_succ, Sem.run_bind, run_underlying hu, Result.andThen_ok, Sem.run_pure, sizeS_ok hsz, h1, run_underlying hd1,
      Bool.false_eq_true, if_false, hlen, hroom, hnew, Bool.not_false, if_true]
    cases base with
    | none => simp
    | some a => simp

variable (P)
def spread (t : TypeId) : Bool := match P.underlying t with
  | some .string => true
  | some (.slice _) => true
  | _ => false

/-- Are two numbers surely the same? -/
def sureEq (fs : Facts) (p q : T) : Bool := T.same p q || (nonpos fs (T.sub p q) && nonpos fs (T.sub q p))
/-- What is appended is of no known length: bytes of a row of records of one number, behind a row of numbers that it fills. -/
def longS (h : Hs) (el : TypeId) (s x : SV) (k : SV → Hs → V) : V :=
  match x with
  | .nslice _ _ l _ 1 _ => (match litNat h.fs l with
    | some 0 => (match s with
      | .slice b off len cap sz => k (.slice b off len cap sz) h
      | s => .bad 271 [s])
    | _ => .bad 272 [x])
  | .slice bx ox xl _ 1 => (match h.hp.get bx with
    | some (.recs [(kd, bits)] X o) => (match s with
      | .slice b (.lit (.ofNat 0)) len (some cap) 1 => (match h.hp.get b with
        | some (.ints kd' bits' L el' _) => bif decide (kd = kd') && Nat.beq bits bits' && Nat.beq el el' && T.same ox o && T.same xl (lenL X) && sureEq h.fs len (lenL L) && sureEq h.fs cap len && nonpos h.fs (T.sub (.lit 1) xl) && nonpos h.fs (T.addc (-1073741824) (T.add len xl)) then
            k (.slice h.hn (.lit 0) (T.add len xl) none 1) (h.alloc (.ints kd bits (.op .lapp L X 0) el true)) else .bad 273 [s, x]
        | some (.row [] el' _) => bif Nat.beq el el' && T.same ox o && T.same xl (lenL X) && sureEq h.fs len (.lit 0) && sureEq h.fs cap (.lit 0) && nonpos h.fs (T.sub (.lit 1) xl) && nonpos h.fs (T.addc (-1073741824) xl) then
            k (.slice h.hn (.lit 0) xl none 1) (h.alloc (.ints kd bits X el true)) else .bad 274 [s, x]
        | _ => .bad 275 [s])
      | s => .bad 276 [s])
    | _ => .bad 277 [x])
  | x => .bad 278 [x]
def appendB (h : Hs) (ts tx : TypeId) (s x : SV) (k : SV → Hs → V) : V :=
  match P.underlying ts with
  | some (.slice el) => match sizeS P el, zeroS P el, P.info? el with
    | some sz, some z, some inf => bif spread P tx && Nat.ble inf.bytes 4096 && Nat.beq z.cells.size sz then
        (match srcS h sz x with
        | some (n, xs) => match s with
          | .nils => bif Nat.beq n 0 then k .nils h
            else bif Nat.ble n 1000000 then k (.slice h.hn (.lit 0) (.lit n) none sz) (h.alloc (.row xs el true)) else .bad 20 []
          | .slice b off len cap sz' => bif Nat.beq n 0 then k (.slice b off len cap sz') h
            else match litNat h.fs len, litNat h.fs off, h.hp.get b with
            | some m, some o, some (.row cs el' wr) => bif Nat.ble (m + n) 1000000 && Nat.beq sz sz' && Nat.ble (o + m * sz) cs.length && xs.all SV.one then
                (match cap with
                | some ct => match litNat h.fs ct with
                  | some c => bif Nat.ble (m + n) c then
                      (bif wr && Nat.ble (o + (m + n) * sz) cs.length then k (.slice b off (.lit ((m + n : Nat) : Int)) cap sz) (h.upd b (.row (overlayS cs (o + m * sz) xs) el' true)) else .bad 21 [s])
                    else k (.slice h.hn (.lit 0) (.lit ((m + n : Nat) : Int)) none sz) (h.alloc (.row ((cs.drop o).take (m * sz) ++ xs) el true))
                  | none => .bad 22 [s]
                | none => bif wr && Nat.ble 1 sz && Nat.ble (o + (m + n) * sz) cs.length then
                    k (.slice b off (.lit ((m + n : Nat) : Int)) none sz) (h.upd b (.row (overlayS cs (o + m * sz) xs) el' true))
                  else bif wr && Nat.beq o 0 && Nat.beq (m * sz) cs.length && Nat.ble h.n0 b && Nat.beq el el' then
                    k (.slice h.hn (.lit 0) (.lit ((m + n : Nat) : Int)) none sz) ((h.upd b .dead).alloc (.row (cs ++ xs) el true)) else .bad 23 [s])
              else .bad 24 [s]
            | _, _, _ => .bad 25 [s]
          | _ => .bad 26 [s]
        | none => bif Nat.beq sz 1 then longS h el s x k else .bad 27 [s, x]) else .bad 28 [s, .int .i64 (.lit ts), .int .i64 (.lit tx), .int .i64 (.lit sz), .int .i64 (.lit inf.bytes), .int .i64 (.lit z.cells.size)]
    | _, _, _ => .bad 29 []
  | _ => .bad 30 []

variable {P}
theorem spread_ok {t : TypeId} (hs : spread P t = true) : P.underlying t = some .string ∨ ∃ y, P.underlying t = some (.slice y) := by
  unfold spread at hs
  split at hs
  · rename_i hu; exact .inl hu
  · rename_i y hu; exact .inr ⟨y, hu⟩
  · cases hs

theorem sureEq_ok {fs : Facts} (hf : fs.ok e) {p q : T} (h : sureEq fs p q = true) : p.ev e = q.ev e := by
  unfold sureEq at h
  rw [Bool.or_eq_true] at h
  rcases h with h | h
  · rw [T.same_eq h]
  · rw [Bool.and_eq_true] at h
    have h1 := nonpos_ok hf h.1
    have h2 := nonpos_ok hf h.2
    rw [sub_ev] at h1 h2
    omega

theorem longS_ok (H : HeapOK e F M h w) {ats : Array TypeId} {ts tx ty : TypeId} {el : TypeId} {z : Value} {inf : TypeInfo} {s x : SV} {vs vx : Value} {k : SV → Hs → V} (h0 : ats[0]? = some ts) (h1 : ats[1]? = some tx)
    (hu : P.underlying ts = some (.slice el)) (hxk : P.underlying tx = some .string ∨ ∃ y, P.underlying tx = some (.slice y)) (hsz : sizeS P el = some 1) (hz : zeroS P el = some z) (hinf : P.info? el = some inf) (hby : inf.bytes ≤ 4096) (hzs : z.cells.size = 1)
    (hk : longS h el s x k = .ok) (hs : VR e M s vs) (hx : VR e M x vx) : Post e F M k ((Builtin.append_ ats ty #[vs, vx]).run P w) := by
  unfold longS at hk
  split at hk
  · rename_i bx ox xl xc xn
    split at hk
    · rename_i hl0
      have hlz := litNat_ok H.fact hl0
      split at hk
      · rename_i b off len cap sz
        cases hs with
        | slice _ _ _ _ _ r nn c hM hoff hlen hlc hcap hn =>
          have key : ∀ (base : Option Addr) (c' : Nat), vx = .slice base 0 c' → Post e F M k ((Builtin.append_ ats ty #[.slice (some ⟨r, (off.ev e).toNat, none⟩) (len.ev e).toNat c, vx]).run P w) := by
            intro base c' hvx
            subst hvx
            have hr := room_run (P := P) (w := w) (base := some ⟨r, (off.ev e).toNat, none⟩) (sLen := (len.ev e).toNat) (sCap := c) (n := 0) (vx := .slice base 0 c') (new := #[]) h0 h1 hu hxk hsz (by simp [Builtin.lenOf]) (by omega)
              (by cases base <;> simp [Builtin.firstCells, loadCells, loadCellsFrom]) ty
            refine ⟨_, w, M, h, .slice b off len cap sz, ?_, M.le_refl, H, .slice b off len cap sz r nn c hM hoff hlen hlc hcap hn, hk⟩
            rw [hr]; simp [storeCells]
          cases hx with
          | nsome _ _ _ _ _ _ r' n' c' g1 g2 g3 g4 g5 g6 g7 =>
            have : (xl.ev e).toNat = 0 := by omega
            exact key _ _ (by rw [this])
          | nnone _ _ _ _ _ _ g1 g2 g3 => exact key _ _ rfl
      · cases hk
    · cases hk
  · rename_i bx ox xl xc
    split at hk
    · rename_i kd bits X o hgx
      split at hk
      · rename_i b len cap
        cases hs with
        | slice _ _ _ _ _ r nn c hM hoff hlen hlc hcap hn =>
        cases hx with
        | slice _ _ _ _ _ rx nx cx xM xoff xlen xlc xcap xn =>
        obtain ⟨r2, n2, y2, l1, l2, l3⟩ := H.live bx _ hgx rfl
        rw [xM] at l1; cases l1
        cases l3 with
        | recs _ _ _ elx cc fr ho hrng =>
        -- the bytes that are appended
        have newAt : ∀ (hso : ox = o) (hxl : xl.ev e = ((X.evl e).length : Int)) (w' : World) (hw' : w'.heap = w.heap), ∃ new : Array Value, (Builtin.firstCells 1 (xl.ev e).toNat (.slice (some ⟨rx, (ox.ev e).toNat, none⟩) (xl.ev e).toNat cx)).run P w' = .ok new w' ∧
            new.toList = (X.evl e).map (Value.int kd) ∧ new.size = (xl.ev e).toNat * 1 ∧ ∀ x ∈ X.evl e, 0 ≤ x ∧ x < 2 ^ bits := by
          intro hso hxl w' hw'
          subst hso
          have hin : ∀ (i : Nat) (x : Int), (X.evl e)[i]? = some x → cc[(ox.ev e).toNat + i]? = some (.int kd x) ∧ 0 ≤ x ∧ x < 2 ^ bits := by
            intro i x hi
            have := hrng i x hi
            have hm1 : i % [(kd, bits)].length = 0 := by simp [Nat.mod_one]
            rw [hm1] at this
            simpa using this
          have hfit : (ox.ev e).toNat + (xl.ev e).toNat * 1 ≤ cc.size := by
            have := xn.1; omega
          refine ⟨cc.extract (ox.ev e).toNat ((ox.ev e).toNat + (xl.ev e).toNat * 1), ?_, ?_, ?_, ?_⟩
          · simp only [Builtin.firstCells]
            exact loadCells_run (by rw [hw']; exact l2) _ _ hfit
          · apply List.ext_getElem?
            intro i
            by_cases hi : i < (X.evl e).length
            · have hx1 := List.getElem?_eq_getElem hi
              rw [Array.getElem?_toList, Array.getElem?_extract, if_pos (by omega), (hin i _ hx1).1, List.getElem?_map, hx1]; rfl
            · rw [List.getElem?_eq_none (by simp; omega), List.getElem?_eq_none (by simp; omega)]
          · simp; omega
          · intro x hx
            obtain ⟨i, hi, rfl⟩ := List.getElem_of_mem hx
            exact (hin i _ (List.getElem?_eq_getElem hi)).2
        split at hk
        · rename_i kd' bits' L el' wr hg
          cases hc : (decide (kd = kd') && Nat.beq bits bits' && Nat.beq el el' && T.same ox o && T.same xl (lenL X) && sureEq h.fs len (lenL L) && sureEq h.fs cap len && nonpos h.fs (T.sub (.lit 1) xl) && nonpos h.fs (T.addc (-1073741824) (T.add len xl))) with
          | false => rw [hc] at hk; cases hk
          | true =>
            rw [hc] at hk; simp only [cond_true] at hk
            simp only [Bool.and_eq_true, decide_eq_true_eq] at hc
            obtain ⟨⟨⟨⟨⟨⟨⟨⟨c1, c2⟩, c3⟩, c4⟩, c5⟩, c6⟩, c7⟩, c8⟩, c9⟩ := hc
            subst c1
            have c2 := Nat.eq_of_beq_eq_true c2
            subst c2
            have c3 := Nat.eq_of_beq_eq_true c3
            subst c3
            have c4 := T.same_eq c4
            have c5 : xl.ev e = ((X.evl e).length : Int) := by rw [T.same_eq c5, lenL_ev]
            have c6 := sureEq_ok H.fact c6
            rw [lenL_ev] at c6
            have c7 := sureEq_ok H.fact c7
            have c8 := nonpos_ok H.fact c8
            rw [sub_ev, ev_lit] at c8
            have c9 := nonpos_ok H.fact c9
            rw [addc_ev, add_ev] at c9
            have hcc : cap.ev e = (c : Int) := hcap _ rfl
            obtain ⟨r3, n3, y3, j1, j2, j3⟩ := H.live b _ hg rfl
            rw [hM] at j1; cases j1
            cases j3 with
            | ints _ _ _ _ _ ca rest fra z1 z2 z3 =>
            have hsa : ca.size = (L.evl e).length + rest.length := by
              have := congrArg List.length z1; simpa using this
            obtain ⟨new, n1, n2, n3, n4⟩ := newAt c4 c5 { w with drawn := w.drawn + 1 } rfl
            have hold : (Builtin.firstCells 1 (len.ev e).toNat (.slice (some ⟨r, ((T.lit (Int.ofNat 0)).ev e).toNat, none⟩) (len.ev e).toNat c)).run P { w with drawn := w.drawn + 1 } = .ok (ca.extract 0 ((len.ev e).toNat * 1)) { w with drawn := w.drawn + 1 } := by
              simp only [Builtin.firstCells]
              have := loadCells_run (P := P) (w := { w with drawn := w.drawn + 1 }) (r := r) (c := ca) j2 0 ((len.ev e).toNat * 1) (by omega)
              rw [Nat.zero_add] at this
              exact this
            obtain ⟨c', cap', g1, g2, g3, rest', g4⟩ := grown_run (P := P) (w := w) (base := some ⟨r, ((T.lit (Int.ofNat 0)).ev e).toNat, none⟩) (sLen := (len.ev e).toNat) (sCap := c) (n := (xl.ev e).toNat) (vx := .slice (some ⟨rx, (ox.ev e).toNat, none⟩) (xl.ev e).toNat cx) h0 h1 hu hxk hsz hz hinf hby hzs
              (by simp [Builtin.lenOf]) (by omega) (by omega) ty hold n1 (by simp; omega) n3
            have hlist : c'.toList = ((T.op .lapp L X 0).evl e).map (Value.int kd) ++ rest' := by
              have e1 : (T.op .lapp L X 0).evl e = L.evl e ++ X.evl e := rfl
              have e2 : (ca.extract 0 ((len.ev e).toNat * 1)).toList = (L.evl e).map (Value.int kd) := by
                rw [Array.toList_extract, List.extract_eq_take_drop, z1, List.drop_zero, Nat.sub_zero, List.take_append_of_le_length (by simp; omega), List.take_of_length_le (by simp; omega)]
              rw [g4, e1, List.map_append, e2, n2]
            have ha := (H.drew (w.drawn + 1)).alloc (.ints kd bits (.op .lapp L X 0) el true) (.cells c' el) c'.size
              (fun M' _ => .ints kd bits (.op .lapp L X 0) el true c' rest' (0, 0) hlist (fun x hx => by
                have e1 : (T.op .lapp L X 0).evl e = L.evl e ++ X.evl e := rfl
                rw [e1] at hx
                rcases List.mem_append.1 hx with hx | hx
                · exact z2 x hx
                · exact n4 x hx) (fun _ => rfl))
            refine ⟨_, _, _, _, _, g1, ha.1, ha.2, ?_, hk⟩
            have hadd : (T.add len xl).ev e = len.ev e + xl.ev e := add_ev e len xl
            have := VR.slice (e := e) (M := M.put h.hn w.heap.size c'.size) h.hn (.lit 0) (T.add len xl) none 1 w.heap.size c'.size cap' (Lay.put_same _ _ _) (Int.le_refl _) (by rw [hadd]; omega) (by rw [hadd]; omega)
              (fun t ht => by cases ht) ⟨by rw [ev_lit, g3]; simp, fun _ => by rw [ev_lit, g3]; simp⟩
            rw [ev_lit, hadd, show (len.ev e + xl.ev e).toNat = (len.ev e).toNat + (xl.ev e).toNat by omega] at this
            exact this
        · rename_i el' wr hg
          cases hc : (Nat.beq el el' && T.same ox o && T.same xl (lenL X) && sureEq h.fs len (.lit 0) && sureEq h.fs cap (.lit 0) && nonpos h.fs (T.sub (.lit 1) xl) && nonpos h.fs (T.addc (-1073741824) xl)) with
          | false => rw [hc] at hk; cases hk
          | true =>
            rw [hc] at hk; simp only [cond_true] at hk
            simp only [Bool.and_eq_true] at hc
            obtain ⟨⟨⟨⟨⟨⟨c3, c4⟩, c5⟩, c6⟩, c7⟩, c8⟩, c9⟩ := hc
            have c4 := T.same_eq c4
            have c5 : xl.ev e = ((X.evl e).length : Int) := by rw [T.same_eq c5, lenL_ev]
            have c6 := sureEq_ok H.fact c6
            rw [ev_lit] at c6
            have c7 := sureEq_ok H.fact c7
            rw [ev_lit] at c7
            have c8 := nonpos_ok H.fact c8
            rw [sub_ev, ev_lit] at c8
            have c9 := nonpos_ok H.fact c9
            rw [addc_ev] at c9
            have hcc : cap.ev e = (c : Int) := hcap _ rfl
            have hl0 : (len.ev e).toNat = 0 := by omega
            obtain ⟨new, n1, n2, n3, n4⟩ := newAt c4 c5 { w with drawn := w.drawn + 1 } rfl
            have hold : (Builtin.firstCells 1 0 (.slice (some ⟨r, ((T.lit (Int.ofNat 0)).ev e).toNat, none⟩) 0 c)).run P { w with drawn := w.drawn + 1 } = .ok #[] { w with drawn := w.drawn + 1 } := by
              simp [Builtin.firstCells, loadCells, loadCellsFrom]
            obtain ⟨c', cap', g1, g2, g3, rest', g4⟩ := grown_run (P := P) (w := w) (base := some ⟨r, ((T.lit (Int.ofNat 0)).ev e).toNat, none⟩) (sLen := 0) (sCap := c) (n := (xl.ev e).toNat) (vx := .slice (some ⟨rx, (ox.ev e).toNat, none⟩) (xl.ev e).toNat cx) h0 h1 hu hxk hsz hz hinf hby hzs
              (by simp [Builtin.lenOf]) (by omega) (by omega) ty hold n1 (by simp) n3
            have hlist : c'.toList = (X.evl e).map (Value.int kd) ++ rest' := by rw [g4, n2]; simp
            have ha := (H.drew (w.drawn + 1)).alloc (.ints kd bits X el true) (.cells c' el) c'.size (fun M' _ => .ints kd bits X el true c' rest' (0, 0) hlist n4 (fun _ => rfl))
            rw [hl0]
            refine ⟨_, _, _, _, _, g1, ha.1, ha.2, ?_, hk⟩
            have := VR.slice (e := e) (M := M.put h.hn w.heap.size c'.size) h.hn (.lit 0) xl none 1 w.heap.size c'.size cap' (Lay.put_same _ _ _) (Int.le_refl _) (by omega) (by omega)
              (fun t ht => by cases ht) ⟨by rw [ev_lit, g3]; simp, fun _ => by rw [ev_lit, g3]; simp⟩
            rw [ev_lit] at this
            rw [Nat.zero_add]
            exact this
        · cases hk
      · cases hk
    · cases hk
  · cases hk

theorem appendB_ok (H : HeapOK e F M h w) {ats : Array TypeId} {ts tx ty : TypeId} {s x : SV} {vs vx : Value} {k : SV → Hs → V} (h0 : ats[0]? = some ts) (h1 : ats[1]? = some tx)
    (hk : appendB P h ts tx s x k = .ok) (hs : VR e M s vs) (hx : VR e M x vx) : Post e F M k ((Builtin.append_ ats ty #[vs, vx]).run P w) := by
  unfold appendB at hk
  split at hk
  · rename_i el hu
    split at hk
    · rename_i sz z inf hsz hz hinf
      cases hc0 : (spread P tx && Nat.ble inf.bytes 4096 && Nat.beq z.cells.size sz) with
      | false => rw [hc0] at hk; cases hk
      | true =>
        rw [hc0] at hk; simp only [cond_true] at hk
        simp only [Bool.and_eq_true] at hc0
        obtain ⟨⟨hsp, hby⟩, hzs⟩ := hc0
        have hxk := spread_ok hsp
        have hby' := Nat.le_of_ble_eq_true hby
        have hzs' := Nat.eq_of_beq_eq_true hzs
        split at hk
        · rename_i n xs hsrc
          obtain ⟨hlenx, new, hnewx, hvx, hnsz⟩ := srcS_ok (P := P) H hsrc hx
          obtain ⟨hlenx', new', hnewx', hvx', hnsz'⟩ := srcS_ok (P := P) (H.drew (w.drawn + 1)) hsrc hx
          split at hk
          · cases hs
            cases hn0 : Nat.beq n 0 with
            | true =>
              rw [hn0] at hk; simp only [cond_true] at hk
              have hn0' := Nat.eq_of_beq_eq_true hn0
              subst hn0'
              have := room_run (P := P) (w := w) (base := none) (sLen := 0) (sCap := 0) h0 h1 hu hxk hsz hlenx (by omega) hnewx ty
              exact ⟨_, w, M, h, .nils, this, M.le_refl, H, .nils, hk⟩
            | false =>
              rw [hn0] at hk; simp only [cond_false] at hk
              have hn1 : n ≠ 0 := fun he => by rw [Tr.beq_true he] at hn0; cases hn0
              cases hle : Nat.ble n 1000000 with
              | false => rw [hle] at hk; cases hk
              | true =>
                rw [hle] at hk; simp only [cond_true] at hk
                have hle' := Nat.le_of_ble_eq_true hle
                obtain ⟨c, cap, g1, g2, g3, rest, g4⟩ := grown_run (P := P) (w := w) (base := none) (sLen := 0) (sCap := 0) (old := #[]) h0 h1 hu hxk hsz hz hinf hby' hzs' hlenx (by omega) (by omega) ty (by simp [Builtin.firstCells]) hnewx' (by simp) hnsz'
                have ha := (H.drew (w.drawn + 1)).alloc (.row xs el true) (.cells c el) c.size
                  (fun M' hM => .row xs el true c new'.toList rest (0, 0) (by simpa using g4) (hvx'.mono hM) (fun _ => rfl))
                refine ⟨_, _, _, _, _, g1, ha.1, ha.2, ?_, hk⟩
                have := VR.slice (e := e) (M := M.put h.hn w.heap.size c.size) h.hn (.lit 0) (.lit n) none sz w.heap.size c.size cap (Lay.put_same _ _ _) (Int.le_refl _) (by rw [ev_lit]; omega) (by rw [ev_lit]; omega)
                  (fun t ht => by cases ht) ⟨by rw [ev_lit, g3]; simp, fun _ => by rw [ev_lit, g3]; simp⟩
                simpa [ev_lit] using this
          · rename_i b off len cap0 sz'
            cases hs with
            | slice _ _ _ _ _ r nn c hM hoff hlen hlc hcap hn =>
              cases hn0 : Nat.beq n 0 with
              | true =>
                rw [hn0] at hk; simp only [cond_true] at hk
                have hn0' := Nat.eq_of_beq_eq_true hn0
                subst hn0'
                have hr := room_run (P := P) (w := w) (base := some ⟨r, (off.ev e).toNat, none⟩) (sLen := (len.ev e).toNat) (sCap := c) h0 h1 hu hxk hsz hlenx (by omega) hnewx ty
                have hnil : new.toList = [] := List.eq_nil_of_length_eq_zero (by simp [hnsz])
                rw [hnil] at hr
                refine ⟨_, w, M, h, .slice b off len cap0 sz', ?_, M.le_refl, H, .slice b off len cap0 sz' r nn c hM hoff hlen hlc hcap hn, hk⟩
                rw [hr]; simp [storeCells]
              | false =>
                rw [hn0] at hk; simp only [cond_false] at hk
                have hn1 : n ≠ 0 := fun he => by rw [Tr.beq_true he] at hn0; cases hn0
                split at hk
                · rename_i m o cs el' wr hm ho hg
                  have e1 := litNat_ok H.fact hm
                  have e2 := litNat_ok H.fact ho
                  have e3 : (len.ev e).toNat = m := by omega
                  have e4 : (off.ev e).toNat = o := by omega
                  obtain ⟨r', n', y, l1, l2, l3⟩ := H.live b _ hg rfl
                  rw [hM] at l1; cases l1
                  cases hc1 : (Nat.ble (m + n) 1000000 && Nat.beq sz sz' && Nat.ble (o + m * sz) cs.length && xs.all SV.one) with
                  | false => rw [hc1] at hk; cases hk
                  | true =>
                    rw [hc1] at hk; simp only [cond_true] at hk
                    simp only [Bool.and_eq_true] at hc1
                    obtain ⟨⟨⟨hsm, hss⟩, hfit⟩, hones⟩ := hc1
                    have hsm' := Nat.le_of_ble_eq_true hsm
                    have hss' := Nat.eq_of_beq_eq_true hss
                    subst hss'
                    have hfit' := Nat.le_of_ble_eq_true hfit
                    rw [e3, e4]
                    cases l3 with
                    | row _ _ _ cc pre rest fr hcc hcs hfr =>
                      have hcl := hcs.length
                      have hsize : cc.size = pre.length + rest.length := by
                        have := congrArg List.length hcc; simpa using this
                      have hold : (Builtin.firstCells sz m (.slice (some ⟨r, o, none⟩) m c)).run P { w with drawn := w.drawn + 1 } = .ok (cc.extract o (o + m * sz)) { w with drawn := w.drawn + 1 } := by
                        simp only [Builtin.firstCells]
                        exact loadCells_run (w := { w with drawn := w.drawn + 1 }) l2 o (m * sz) (by omega)
                      have holdl : (cc.extract o (o + m * sz)).toList = (pre.drop o).take (m * sz) := by
                        rw [Array.toList_extract, List.extract_eq_take_drop, hcc, show o + m * sz - o = m * sz by omega, List.drop_append_of_le_length (by omega), List.take_append_of_le_length (by simp; omega)]
                      have grow : ∀ (hgr : c < m + n) (k' : SV → Hs → V), k' (.slice h.hn (.lit 0) (.lit ((m + n : Nat) : Int)) none sz) (h.alloc (.row ((cs.drop o).take (m * sz) ++ xs) el true)) = .ok →
                          Post e F M k' ((Builtin.append_ ats ty #[.slice (some ⟨r, o, none⟩) m c, vx]).run P w) := by
                        intro hgr k' hk'
                        obtain ⟨c', cap, g1, g2, g3, rest', g4⟩ := grown_run (P := P) (w := w) (base := some ⟨r, o, none⟩) (sLen := m) (sCap := c) h0 h1 hu hxk hsz hz hinf hby' hzs' hlenx hgr (by omega) ty hold hnewx' (by simp; omega) hnsz'
                        have ha := (H.drew (w.drawn + 1)).alloc (.row ((cs.drop o).take (m * sz) ++ xs) el true) (.cells c' el) c'.size
                          (fun M' hM' => .row _ el true c' ((pre.drop o).take (m * sz) ++ new'.toList) rest' (0, 0) (by rw [g4, holdl]) ((((hcs.drop o).take _).append hvx').mono hM') (fun _ => rfl))
                        refine ⟨_, _, _, _, _, g1, ha.1, ha.2, ?_, hk'⟩
                        have := VR.slice (e := e) (M := M.put h.hn w.heap.size c'.size) h.hn (.lit 0) (.lit ((m + n : Nat) : Int)) none sz w.heap.size c'.size cap (Lay.put_same _ _ _) (Int.le_refl _) (by rw [ev_lit]; omega) (by rw [ev_lit]; omega)
                          (fun t ht => by cases ht) ⟨by rw [ev_lit, g3]; simp, fun _ => by rw [ev_lit, g3]; simp⟩
                        simpa only [ev_lit, Int.toNat_natCast, Int.toNat_zero] using this
                      -- in place: what is written, where
                      have place : ∀ (hwr : wr = true) (hroom : m + n ≤ c), ∃ w', (Builtin.append_ ats ty #[.slice (some ⟨r, o, none⟩) m c, vx]).run P w = .ok (.slice (some ⟨r, o, none⟩) (m + n) c) w' ∧
                          (∀ q, w'.heap[q]? = if q = r then some (.cells (overlay cc.toList (o + m * sz) new.toList).toArray el' (0, 0)) else w.heap[q]?) ∧ w'.os = w.os ∧ w'.tape = w.tape ∧ w'.output = w.output := by
                        intro hwr hroom
                        cases hfr hwr
                        have hcc2 : o + (m + n) * sz ≤ cc.size := by
                          have : (m + n) * sz ≤ c * sz := Nat.mul_le_mul_right _ hroom
                          omega
                        have hone : ∀ v ∈ new.toList, v.oneCell' = true := ones_ok hvx hones
                        obtain ⟨w', s1, s2, s3, s4, s5⟩ := storeCells_run (P := P) (o + m * sz) new.toList 0 cc w l2 (by simp only [Array.length_toList, hnsz]; rw [Nat.add_mul] at hcc2; omega) hone
                        refine ⟨w', ?_, s2, s3, s4, s5⟩
                        rw [room_run (P := P) (w := w) h0 h1 hu hxk hsz hlenx hroom hnewx ty]
                        simp only [addr_add, s1, Result.andThen_ok]
                      split at hk
                      · rename_i ct
                        split at hk
                        · rename_i cl hcl'
                          have ec := litNat_ok H.fact hcl'
                          have ecc : c = cl := by have := hcap ct rfl; omega
                          subst ecc
                          cases hrm : Nat.ble (m + n) c with
                          | true =>
                            rw [hrm] at hk; simp only [cond_true] at hk
                            have hrm' := Nat.le_of_ble_eq_true hrm
                            cases hw2 : (wr && Nat.ble (o + (m + n) * sz) cs.length) with
                            | false => rw [hw2] at hk; cases hk
                            | true =>
                              rw [hw2] at hk; simp only [cond_true] at hk
                              simp only [Bool.and_eq_true] at hw2
                              have hw3 := Nat.le_of_ble_eq_true hw2.2
                              obtain ⟨w', p1, p2, p3, p4, p5⟩ := place hw2.1 hrm'
                              have hxl := hvx.length
                              obtain ⟨pre', q1, q2⟩ := overlay_ok (rest := rest) xs new.toList cs pre (o + m * sz) hvx hcs (by rw [hxl]; simp only [Array.length_toList, hnsz]; rw [Nat.add_mul] at hw3; omega)
                              have hnew2 : (overlay cc.toList (o + m * sz) new.toList).toArray.size = cc.size := by simp [overlay_length]
                              have HU := H.upd (o' := .row (overlayS cs (o + m * sz) xs) el' true) hg rfl hw2.1 hM p2 p3 p4 p5 (fun _ => by
                                rw [← hnew2]
                                exact .row _ el' true _ pre' rest (0, 0) (by simp [hcc, q1]) q2 (fun _ => rfl))
                              refine ⟨_, w', M, _, _, p1, M.le_refl, HU, ?_, hk⟩
                              have := VR.slice (e := e) (M := M) b off (.lit ((m + n : Nat) : Int)) (some ct) sz r cc.size c hM hoff (by rw [ev_lit]; omega) (by rw [ev_lit]; omega) hcap hn
                              simpa only [ev_lit, Int.toNat_natCast, e4] using this
                          | false =>
                            rw [hrm] at hk; simp only [cond_false] at hk
                            have hgr : c < m + n := by
                              rcases Nat.lt_or_ge c (m + n) with hlt | hge
                              · exact hlt
                              · rw [Nat.ble_eq_true_of_le hge] at hrm; cases hrm
                            exact grow hgr k hk
                        · cases hk
                      · cases hwi : (wr && Nat.ble 1 sz && Nat.ble (o + (m + n) * sz) cs.length) with
                        | true =>
                          rw [hwi] at hk; simp only [cond_true] at hk
                          simp only [Bool.and_eq_true] at hwi
                          have hw3 := Nat.le_of_ble_eq_true hwi.2
                          have hsz1 := Nat.le_of_ble_eq_true hwi.1.2
                          have hroom : m + n ≤ c := by
                            have h6 := hn.2 rfl
                            have h7 : (m + n) * sz ≤ c * sz := by omega
                            exact Nat.le_of_mul_le_mul_right h7 hsz1
                          obtain ⟨w', p1, p2, p3, p4, p5⟩ := place hwi.1.1 hroom
                          have hxl := hvx.length
                          obtain ⟨pre', q1, q2⟩ := overlay_ok (rest := rest) xs new.toList cs pre (o + m * sz) hvx hcs (by rw [hxl]; simp only [Array.length_toList, hnsz]; rw [Nat.add_mul] at hw3; omega)
                          have hnew2 : (overlay cc.toList (o + m * sz) new.toList).toArray.size = cc.size := by simp [overlay_length]
                          have HU := H.upd (o' := .row (overlayS cs (o + m * sz) xs) el' true) hg rfl hwi.1.1 hM p2 p3 p4 p5 (fun _ => by
                            rw [← hnew2]
                            exact .row _ el' true _ pre' rest (0, 0) (by simp [hcc, q1]) q2 (fun _ => rfl))
                          refine ⟨_, w', M, _, _, p1, M.le_refl, HU, ?_, hk⟩
                          have := VR.slice (e := e) (M := M) b off (.lit ((m + n : Nat) : Int)) none sz r cc.size c hM hoff (by rw [ev_lit]; omega) (by rw [ev_lit]; omega) hcap hn
                          simpa only [ev_lit, Int.toNat_natCast, e4] using this
                        | false =>
                        rw [hwi] at hk; simp only [cond_false] at hk
                        cases hw2 : (wr && Nat.beq o 0 && Nat.beq (m * sz) cs.length && Nat.ble h.n0 b && Nat.beq el el') with
                        | false => rw [hw2] at hk; cases hk
                        | true =>
                          rw [hw2] at hk; simp only [cond_true] at hk
                          simp only [Bool.and_eq_true] at hw2
                          obtain ⟨⟨⟨⟨hwr, ho0⟩, hwhole⟩, hb0⟩, hel⟩ := hw2
                          have ho0' := Nat.eq_of_beq_eq_true ho0
                          have hwhole' := Nat.eq_of_beq_eq_true hwhole
                          have hb0' := Nat.le_of_ble_eq_true hb0
                          have hel' := Nat.eq_of_beq_eq_true hel
                          subst ho0'; subst hel'
                          have hpre : pre.length = m * sz := by omega
                          rcases Nat.lt_or_ge c (m + n) with hgr | hroom
                          · obtain ⟨c', cap, g1, g2, g3, rest', g4⟩ := grown_run (P := P) (w := w) (base := some ⟨r, 0, none⟩) (sLen := m) (sCap := c) h0 h1 hu hxk hsz hz hinf hby' hzs' hlenx hgr (by omega) ty hold hnewx' (by simp; omega) hnsz'
                            have HD := (H.drew (w.drawn + 1)).upd (o' := .dead) (w' := { w with drawn := w.drawn + 1 }) hg rfl hwr hM (x := .cells cc el fr)
                              (fun q => by split
                                           · rename_i hq; subst hq; exact l2
                                           · rfl) rfl rfl rfl (fun hx => by cases hx)
                            have holdp : (pre.drop 0).take (m * sz) = pre := by rw [List.drop_zero, List.take_of_length_le (by omega)]
                            have ha := HD.alloc (.row (cs ++ xs) el true) (.cells c' el) c'.size
                              (fun M' hM' => .row _ el true c' (pre ++ new'.toList) rest' (0, 0) (by rw [g4, holdl, holdp]) ((hcs.append hvx').mono hM') (fun _ => rfl))
                            refine ⟨_, _, _, _, _, g1, ha.1, ha.2, ?_, hk⟩
                            have := VR.slice (e := e) (M := M.put h.hn w.heap.size c'.size) h.hn (.lit 0) (.lit ((m + n : Nat) : Int)) none sz w.heap.size c'.size cap (Lay.put_same _ _ _) (Int.le_refl _) (by rw [ev_lit]; omega) (by rw [ev_lit]; omega)
                              (fun t ht => by cases ht) ⟨by rw [ev_lit, g3]; simp, fun _ => by rw [ev_lit, g3]; simp⟩
                            show VR e (M.put h.hn w.heap.size c'.size) _ _
                            simpa only [ev_lit, Int.toNat_natCast, Int.toNat_zero] using this
                          · obtain ⟨w', p1, p2, p3, p4, p5⟩ := place hwr hroom
                            have hcc2 : (m + n) * sz ≤ cc.size := by
                              have : (m + n) * sz ≤ c * sz := Nat.mul_le_mul_right _ hroom
                              omega
                            have hov : overlay cc.toList (0 + m * sz) new.toList = pre ++ new.toList ++ rest.drop new.toList.length := by
                              rw [hcc, Nat.zero_add, ← hpre]
                              refine overlay_append _ _ _ ?_
                              simp only [Array.length_toList, hnsz]
                              rw [Nat.add_mul] at hcc2
                              omega
                            have hnew2 : (overlay cc.toList (0 + m * sz) new.toList).toArray.size = cc.size := by simp [overlay_length]
                            have hmv := H.move (o' := .row (cs ++ xs) el true) hg rfl hwr hM (by rw [← H.cn0]; exact hb0') p2 p3 p4 p5 (fun M' hM' => by
                              rw [← hnew2]
                              exact .row _ el true _ (pre ++ new.toList) (rest.drop new.toList.length) (0, 0) (by rw [List.toList_toArray, hov]) ((hcs.append hvx).mono hM') (fun _ => rfl))
                            refine ⟨_, w', _, _, _, p1, hmv.1, hmv.2, ?_, hk⟩
                            have := VR.slice (e := e) (M := M.put h.hn r cc.size) h.hn (.lit 0) (.lit ((m + n : Nat) : Int)) none sz r cc.size c (Lay.put_same _ _ _) (Int.le_refl _) (by rw [ev_lit]; omega) (by rw [ev_lit]; omega)
                              (fun t ht => by cases ht) ⟨by rw [ev_lit]; simp; omega, fun _ => by have := hn.2 rfl; rw [ev_lit]; simp; omega⟩
                            simpa only [ev_lit, Int.toNat_natCast, Int.toNat_zero] using this
                · cases hk
          · cases hk
        · cases hs1 : Nat.beq sz 1 with
          | false => rw [hs1] at hk; cases hk
          | true =>
            rw [hs1] at hk; simp only [cond_true] at hk
            have hs1' := Nat.eq_of_beq_eq_true hs1
            rw [hs1'] at hsz hzs'
            exact longS_ok H h0 h1 hu hxk hsz hz hinf hby' hzs' hk hs hx
    · cases hk
  · cases hk

/-! ## Noughts appended to nothing -/

variable (P)
def appendMakeS (h : Hs) (el : TypeId) (s x : SV) (k : SV → Hs → V) : V :=
  match sizeS P el, zeroS P el, P.info? el with
  | some sz, some z, some inf => match s, x with
    | .nils, .int _ p => match litNat h.fs p with
      | some n => bif Nat.ble 1 n && Nat.ble n 100000 && Nat.ble inf.bytes 4096 && Nat.beq z.cells.size sz && Nat.ble 1 sz then
          k (.slice h.hn (.lit 0) (.lit (n : Int)) none sz) (h.alloc (.row (zerosS z (n * sz)) el true)) else .bad 31 [x]
      | none => .bad 32 [x]
    | s, x => .bad 33 [s, x]
  | _, _, _ => .bad 34 []

def appendS (h : Hs) (ts tx : TypeId) (s x : SV) (k : SV → Hs → V) : V :=
  match P.underlying tx with
  | some (.int _) => (match P.underlying ts with
    | some (.slice el) => appendMakeS P h el s x k
    | _ => .bad 35 [])
  | _ => appendB P h ts tx s x k

variable {P}
theorem appendMake_run {ats : Array TypeId} {ts tx : TypeId} {el : TypeId} {sz n : Nat} {z : Value} {inf : TypeInfo} {kd : IntKind} {kt : IntKind}
    (h0 : ats[0]? = some ts) (h1 : ats[1]? = some tx) (hu : P.underlying ts = some (.slice el)) (hx : P.underlying tx = some (.int kt)) (hsz : sizeS P el = some sz) (hz : zeroS P el = some z)
    (hinf : P.info? el = some inf) (hb : inf.bytes ≤ 4096) (hzs : z.cells.size = sz) (hn0 : 1 ≤ n) (hsmall : n ≤ 100000) (h1z : 1 ≤ sz) (ty : TypeId) :
    ∃ (c : Array Value) (cap : Nat), (Builtin.append_ ats ty #[.slice none 0 0, .int kd (n : Int)]).run P w = .ok (.slice (some ⟨w.heap.size, 0, none⟩) n cap) { w with heap := w.heap.push (.cells c el), drawn := w.drawn + 1 } ∧
      n ≤ cap ∧ c.size = cap * sz ∧ ∃ rest, c.toList = (Builtin.zeroCells z.cells n).toList ++ rest := by
  have hcap : ∃ cap, Question.cut (.appendCap n 0 el) (w.tape w.drawn (.appendCap n 0 el)) = cap ∧ n ≤ cap := ⟨_, rfl, by simp only [Question.cut]; omega⟩
  obtain ⟨cap, hc1, hc2⟩ := hcap
  refine ⟨Builtin.zeroCells z.cells n ++ Builtin.zeroCells z.cells (cap - n), cap, ?_, hc2, ?_, ⟨(Builtin.zeroCells z.cells (cap - n)).toList, by simp only [Array.toList_append]⟩⟩
  · have hnext := nextcap_le (need := n) (c := 0) (by omega)
    have hbytes : ¬ (Builtin.nextslicecap n 0 * inf.bytes > 2 ^ 48) := by
      have h2 := Nat.mul_le_mul hnext hb
      have h3 : (2 * n + 512) * 4096 ≤ 281474976710656 := by omega
      have h4 : (2 : Nat) ^ 48 = 281474976710656 := by decide
      rw [h4]; omega
    have hne : ¬ (n ≤ 0) := by omega
    have hmx : ¬ (((n : Nat) : Int) > IntKind.i64.max) := by
      have : IntKind.i64.max = 9223372036854775807 := by decide
      rw [this]; omega
    have hw : IntKind.i64.wrap (n : Int) = n := wrap_id (k := .i64) (by have : klo .i64 = -9223372036854775808 := by decide
                                                                        rw [this]; omega) (by have : khi .i64 = 9223372036854775807 := by decide
                                                                                              rw [this]; omega)
    have hl0 : ¬ ((n : Int) < 0) := by omega
    have hl1 : ¬ ((n : Int) * (inf.bytes : Int) > 2 ^ 48) := by
      have h2 : n * inf.bytes ≤ 100000 * 4096 := Nat.mul_le_mul hsmall hb
      have h3 : (n : Int) * (inf.bytes : Int) = ((n * inf.bytes : Nat) : Int) := by rw [Int.natCast_mul]
      rw [h3]
      have h4 : (2 : Int) ^ 48 = 281474976710656 := by decide
      rw [h4]; omega
    have hz0 : ¬ (n * sz = 0) := by
      have : 0 < n * sz := Nat.mul_pos (by omega) (by omega)
      omega
    simp only [Builtin.append_, h0, h1, List.getElem?_toArray, List.getElem?_cons_zero, List.getElem?_cons_succ, Sem.run_bind, run_underlying hu, run_underlying hx, Result.andThen_ok, Sem.run_pure, sizeS_ok hsz, asInt, asIntOf, hw, hl0, if_false, if_true,
      typeInfo_ok hinf, hl1, Int.toNat_natCast, Nat.zero_add, hne, hmx, false_and, hbytes, run_choose, Question.forced, hc1, run_askRoom, Builtin.firstCells, Bool.not_true, Bool.false_eq_true, hz0, zeroS_ok hz, run_newRow]
    simp [Array.empty_append]
  · simp only [Array.size_append, zeroCells_toList, hzs]
    rw [← Nat.add_mul]
    congr 1; omega

theorem appendMakeS_ok (H : HeapOK e F M h w) {ats : Array TypeId} {ts tx ty el : TypeId} {kt : IntKind} {s x : SV} {vs vx : Value} {k : SV → Hs → V} (h0 : ats[0]? = some ts) (h1 : ats[1]? = some tx)
    (hu : P.underlying ts = some (.slice el)) (hx' : P.underlying tx = some (.int kt)) (hk : appendMakeS P h el s x k = .ok) (hs : VR e M s vs) (hx : VR e M x vx) : Post e F M k ((Builtin.append_ ats ty #[vs, vx]).run P w) := by
  unfold appendMakeS at hk
  split at hk
  · rename_i sz z inf hsz hz hinf
    split at hk
    · rename_i kd p
      split at hk
      · rename_i n hn
        have hp := litNat_ok H.fact hn
        cases hc : (Nat.ble 1 n && Nat.ble n 100000 && Nat.ble inf.bytes 4096 && Nat.beq z.cells.size sz && Nat.ble 1 sz) with
        | false => rw [hc] at hk; cases hk
        | true =>
          rw [hc] at hk; simp only [cond_true] at hk
          simp only [Bool.and_eq_true] at hc
          obtain ⟨⟨⟨⟨c1, c2⟩, c3⟩, c4⟩, c5⟩ := hc
          have c4' := Nat.eq_of_beq_eq_true c4
          cases hs; cases hx
          rw [hp]
          obtain ⟨c, cap, g1, g2, g3, rest, g4⟩ := appendMake_run (P := P) (w := w) (kd := kd) h0 h1 hu hx' hsz hz hinf (Nat.le_of_ble_eq_true c3) c4' (Nat.le_of_ble_eq_true c1) (Nat.le_of_ble_eq_true c2) (Nat.le_of_ble_eq_true c5) ty
          have hzc : Builtin.zeroCells z.cells n = (Array.range (n * sz)).map (z.cells[· % z.cells.size]!) := by unfold Builtin.zeroCells; rw [c4']
          have ha := (H.drew (w.drawn + 1)).alloc (.row (zerosS z (n * sz)) el true) (.cells c el) c.size
            (fun M' hM' => .row _ el true c (Builtin.zeroCells z.cells n).toList rest (0, 0) g4 (by rw [hzc]; exact zerosS_ok z (n * sz)) (fun _ => rfl))
          refine ⟨_, _, _, _, _, g1, ha.1, ha.2, ?_, hk⟩
          have := VR.slice (e := e) (M := M.put h.hn w.heap.size c.size) h.hn (.lit 0) (.lit (n : Int)) none sz w.heap.size c.size cap (Lay.put_same _ _ _) (Int.le_refl _) (by rw [ev_lit]; omega) (by rw [ev_lit]; omega)
            (fun t ht => by cases ht) ⟨by rw [ev_lit, g3]; simp, fun _ => by rw [ev_lit, g3]; simp⟩
          simpa only [ev_lit, Int.toNat_natCast, Int.toNat_zero] using this
      · cases hk
    · cases hk
  · cases hk

theorem appendS_ok (H : HeapOK e F M h w) {ats : Array TypeId} {ts tx ty : TypeId} {s x : SV} {vs vx : Value} {k : SV → Hs → V} (h0 : ats[0]? = some ts) (h1 : ats[1]? = some tx)
    (hk : appendS P h ts tx s x k = .ok) (hs : VR e M s vs) (hx : VR e M x vx) : Post e F M k ((Builtin.append_ ats ty #[vs, vx]).run P w) := by
  unfold appendS at hk
  split at hk
  · rename_i kt hkt
    split at hk
    · rename_i el hu; exact appendMakeS_ok H h0 h1 hu hkt hk hs hx
    · cases hk
  · exact appendB_ok H h0 h1 hk hs hx

end
end Go.Sx

/- The other operations that change nothing; and all of them together. -/
import Derived.Test.YtnhphhlojkhlcaaGreatDoorGxMem
namespace Go.Sx
open Go Go.RowKit

section
variable (P : Program)

/-- The field's address. -/
def fieldAddrS (t : TypeId) (x : SV) (f : Nat) : Option SV :=
  match x with
  | .ptr b off => match P.underlying t with
    | some (.struct fl) => match fl[f]? with
      | some fd => match sizeS P fd.type with
        | some (_ + 1) => some (.ptr b (T.addc (fd.offset : Int) off))
        | _ => none
      | none => none
    | _ => none
  | _ => none

def fieldS (t : TypeId) (x : SV) (f : Nat) : Option SV :=
  match x with
  | .agg l => match P.underlying t with
    | some (.struct fl) => match fl[f]? with
      | some fd => partS P fd.type l fd.offset
      | none => none
    | _ => none
  | _ => none

/-- Is it known that 0 ≤ i < n? -/
def inside (fs : Facts) (i n : T) : Bool := nonneg fs i && nonpos fs (T.sub (T.addc 1 i) n)

def indexAddrS (fs : Facts) (t : TypeId) (x i : SV) : Option SV :=
  match i with
  | .int _ p => match P.underlying t with
    | some (.slice el) => match x with
      | .slice b off len _ _ => match sizeS P el with
        | some sz => bif inside fs p len then some (.ptr b (T.add off (T.scale (sz : Int) p))) else none
        | none => none
      | .nslice b off len _ _ _ => match sizeS P el with
        | some sz => bif inside fs p len then some (.ptr b (T.add off (T.scale (sz : Int) p))) else none
        | none => none
      | _ => none
    | some (.array n el) => match x with
      | .ptr b off => match sizeS P el with
        | some sz => bif inside fs p (.lit n) then some (.ptr b (T.add off (T.scale (sz : Int) p))) else none
        | none => none
      | _ => none
    | _ => none
  | _ => none

def indexS (fs : Facts) (t : TypeId) (x i : SV) : Option SV :=
  match i with
  | .int _ p => match litNat fs p with
    | some n => match P.underlying t with
      | some .string => match x with
        | .str l => match l[n]? with
          | some c => some (.int .u8 (.lit c))
          | none => none
        | _ => none
      | some (.array m el) => match x with
        | .agg l => match sizeS P el with
          | some sz => bif Nat.blt n m then partS P el l (n * sz) else none
          | none => none
        | _ => none
      | _ => none
    | none => none
  | _ => none

/-- A slice expression's bound, if there is one. -/
def boundS (x : Option SV) (d : T) : Option T := match x with
  | none => some d
  | some (.int _ p) => some p
  | _ => none

/-- How far a slice may reach, as far as that is known. -/
def capT (cap : Option T) (len : T) : T := match cap with
  | some c => c
  | none => len
def capSub (cap : Option T) (i : T) : Option T := match cap with
  | some c => some (T.sub c i)
  | none => none
def isZero (fs : Facts) (i : T) : Bool := match litNat fs i with
  | some 0 => true
  | _ => false

def sliceS (fs : Facts) (t : TypeId) (x : SV) (lo hi mx : Option SV) : Option SV :=
  match mx with
  | some _ => none
  | none => match x with
    | .str l => match P.underlying t with
      | some .string => match boundS lo (.lit 0), boundS hi (.lit l.length) with
        | some a, some b => match litNat fs a, litNat fs b with
          | some i, some j => bif Nat.ble i j && Nat.ble j l.length then some (.str ((l.take j).drop i)) else none
          | _, _ => none
        | _, _ => none
      | _ => none
    | .slice b off len cap sz => match P.underlying t with
      | some (.slice el) => match boundS lo (.lit 0), boundS hi len with
        | some i, some j => match sizeS P el with
          | some m => bif Nat.beq m sz && nonneg fs i && nonpos fs (T.sub i j) && nonpos fs (T.sub j (capT cap len)) && (isZero fs i || nonpos fs (T.sub (T.addc 1 i) (capT cap len))) then
              some (.slice b (T.add off (T.scale (sz : Int) i)) (T.sub j i) (capSub cap i) sz) else none
          | none => none
        | _, _ => none
      | _ => none
    | .nslice b off len cap sz nl => match P.underlying t with
      | some (.slice el) => match boundS lo (.lit 0), boundS hi len with
        | some i, some j => match sizeS P el with
          | some m => bif Nat.beq m sz && nonneg fs i && nonpos fs (T.sub i j) && nonpos fs (T.sub j cap) && (isZero fs i || nonpos fs (T.sub (T.addc 1 i) cap)) then
              some (.nslice b (T.add off (T.scale (sz : Int) i)) (T.sub j i) (T.sub cap i) sz nl) else none
          | none => none
        | _, _ => none
      | _ => none
    | .nils => match P.underlying t with
      | some (.slice el) => match boundS lo (.lit 0), boundS hi (.lit 0) with
        | some i, some j => match litNat fs i, litNat fs j with
          | some 0, some 0 => match sizeS P el with
            | some _ => some .nils
            | none => none
          | _, _ => none
        | _, _ => none
      | _ => none
    | _ => none

def extractS (x : SV) (i : Nat) : Option SV := match x with
  | .tup l => l[i]?
  | _ => none

def lenS (t : TypeId) (x : SV) : Option SV :=
  match P.underlying t with
  | some .string => match x with
    | .str l => some (.int .i64 (.lit l.length))
    | _ => none
  | some (.slice _) => match x with
    | .slice _ _ len _ _ => some (.int .i64 len)
    | .nslice _ _ len _ _ _ => some (.int .i64 len)
    | .nils => some (.int .i64 (.lit 0))
    | _ => none
  | some (.array n _) => some (.int .i64 (.lit n))
  | _ => none

def capS (t : TypeId) (x : SV) : Option SV :=
  match P.underlying t with
  | some (.slice _) => match x with
    | .slice _ _ _ (some c) _ => some (.int .i64 c)
    | .nils => some (.int .i64 (.lit 0))
    | _ => none
  | _ => none

def nilCheckS (x : SV) : Option SV := match x with
  | .ptr b off => some (.ptr b off)
  | .fn f a c => some (.fn f a c)
  | .slice b o l c s => some (.slice b o l c s)
  | _ => none

/-- One of two values, by a test. -/
def mergeS (fs : Facts) (c : T) (x y : SV) : Option SV := match x with
  | .int k p => match y with
    | .int k' q => if k = k' then some (.int k (T.add q (T.mul fs c (T.sub p q)))) else none
    | _ => none
  | .bool p => match y with
    | .bool q => some (.bool (T.add q (T.mul fs c (T.sub p q))))
    | _ => none
  | _ => none

/-- What stands under a test, where that is so. -/
def strip (q : T) (x : SV) : SV := match x with
  | .when q' v => bif T.same q' q then v else .when q' v
  | x => x

def pickS (fs : Facts) (c x y : SV) : Option SV := match c with
  | .bool p => match known fs p with
    | some true => some (strip p x)
    | some false => some (strip (T.not1 p) y)
    | none => mergeS fs p (strip p x) (strip (T.not1 p) y)
  | _ => none

def convS (fs : Facts) (src dst : TypeId) (x : SV) : Option SV :=
  match P.underlying src with
  | some _ => match P.underlying dst with
    | some (.int k) => match x with
      | .int _ p => some (.int k (wrapT fs k p))
      | _ => none
    | some .string => match x with
      | .str l => some (.str l)
      | _ => none
    | _ => none
  | none => none

def ifaceS (t : TypeId) (x : SV) : Option SV :=
  match P.underlying t with
  | some (.interface _) => none
  | some _ => some (.iface t x)
  | none => none

def assertS (asserted : TypeId) (x : SV) (ok : Bool) : Option SV :=
  match P.underlying asserted with
  | some (.interface _) => none
  | some _ => match x with
    | .iface u v => bif Nat.beq u asserted then some (bif ok then .tup [v, .bool (.lit 1)] else v)
      else bif ok then (match (P.info? asserted).map (·.zero) with
        | some (some z) => some (.tup [konst z, .bool (.lit 0)])
        | _ => none) else none
    | .nili => bif ok then (match (P.info? asserted).map (·.zero) with
        | some (some z) => some (.tup [konst z, .bool (.lit 0)])
        | _ => none) else none
    | _ => none
  | none => none

variable {P} {e : Env} {F : Base} {M : Lay} {h : Hs} {w : World}

theorem fieldAddrS_ok {t : TypeId} {x v : SV} {f : Nat} {vx : Value} (hv : fieldAddrS P t x f = some v) (hx : VR e M x vx) :
    ∃ z, (Instr.fieldAt t vx f).run P w = .ok z w ∧ VR e M v z := by
  unfold fieldAddrS at hv
  split at hv
  · rename_i b off
    cases hx with
    | ptr _ _ r n hM hoff =>
      split at hv
      · rename_i fl hu
        split at hv
        · rename_i fd hfd
          split at hv
          · rename_i m hm
            cases hv
            refine ⟨_, ?_, .ptr b _ r n hM (by rw [addc_ev]; omega)⟩
            have hne : ¬ (m + 1 = 0) := by omega
            simp only [Instr.fieldAt, Sem.run_bind, run_underlying hu, Result.andThen_ok, hfd, Instr.sureAddr, Sem.run_pure, fieldPlace, sizeS_ok hm, hne, if_false, addr_add]
            rw [addc_ev]
            congr 5
            omega
          · cases hv
        · cases hv
      · cases hv
  · cases hv

theorem fieldS_ok {t : TypeId} {x v : SV} {f : Nat} {vx : Value} (hv : fieldS P t x f = some v) (hx : VR e M x vx) :
    ∃ z, (Instr.field t vx f).run P w = .ok z w ∧ VR e M v z := by
  unfold fieldS at hv
  split at hv
  · rename_i l
    cases hx with
    | agg _ cs hcs =>
      split at hv
      · rename_i fl hu
        split at hv
        · rename_i fd hfd
          obtain ⟨z, h1, h2⟩ := partS_ok (P := P) (w := w) hcs hv
          refine ⟨z, ?_, h2⟩
          simp [Instr.field, run_underlying hu, hfd, asAgg, h1]
        · cases hv
      · cases hv
  · cases hv

theorem inside_ok {fs : Facts} (hf : fs.ok e) {i n : T} (hi : inside fs i n = true) : 0 ≤ i.ev e ∧ i.ev e < n.ev e := by
  simp only [inside, Bool.and_eq_true] at hi
  have h1 := nonneg_ok hf hi.1
  have h2 := nonpos_ok hf hi.2
  rw [sub_ev, addc_ev] at h2
  omega

theorem toNat_scale {sz : Nat} {o p : Int} (h1 : 0 ≤ o) (h2 : 0 ≤ p) : (o + (sz : Int) * p).toNat = o.toNat + p.toNat * sz := by
  have : ((o.toNat + p.toNat * sz : Nat) : Int) = o + (sz : Int) * p := by
    rw [Int.natCast_add, Int.natCast_mul, Int.toNat_of_nonneg h1, Int.toNat_of_nonneg h2, Int.mul_comm]
  omega

theorem indexAddrS_ok {fs : Facts} (hf : fs.ok e) {t : TypeId} {x i v : SV} {vx vi : Value} (hv : indexAddrS P fs t x i = some v) (hx : VR e M x vx) (hi : VR e M i vi) :
    ∃ z, (Instr.indexAt t vx vi).run P w = .ok z w ∧ VR e M v z := by
  unfold indexAddrS at hv
  split at hv
  · rename_i k p
    cases hi
    split at hv
    · rename_i el hu
      split at hv
      · rename_i b off len cap sz0
        cases hx with
        | slice _ _ _ _ _ r n c hM hoff hlen hlc hcap hn =>
          split at hv
          · rename_i sz hsz
            cases hin : inside fs p len with
            | false => rw [hin] at hv; cases hv
            | true =>
              rw [hin] at hv; cases hv
              have := inside_ok hf hin
              have hs : 0 ≤ (T.add off (T.scale (sz : Int) p)).ev e := by
                rw [add_ev, scale_ev]; have := Int.mul_nonneg (show (0 : Int) ≤ (sz : Int) by omega) this.1; omega
              refine ⟨_, ?_, .ptr b _ r n hM hs⟩
              have hlt : p.ev e < ((len.ev e).toNat : Int) := by omega
              simp only [Instr.indexAt, asIntOf, Sem.run_bind, Sem.run_pure, Result.andThen_ok, run_underlying hu]
              simp only [this.1, hlt, and_self, if_true, Sem.run_bind, sizeS_ok hsz, Result.andThen_ok, addr_add, Sem.run_pure]
              rw [add_ev, scale_ev, toNat_scale hoff this.1]
          · cases hv
      · rename_i b off len cap sz0 nl
        split at hv
        · rename_i sz hsz
          cases hin : inside fs p len with
          | false => rw [hin] at hv; cases hv
          | true =>
            rw [hin] at hv; cases hv
            have := inside_ok hf hin
            cases hx with
            | nsome _ _ _ _ _ _ r n c h0 hM hoff hlen hlc hcap hn =>
              have hs : 0 ≤ (T.add off (T.scale (sz : Int) p)).ev e := by
                rw [add_ev, scale_ev]; have := Int.mul_nonneg (show (0 : Int) ≤ (sz : Int) by omega) this.1; omega
              refine ⟨_, ?_, .ptr b _ r n hM hs⟩
              have hlt : p.ev e < ((len.ev e).toNat : Int) := by omega
              simp only [Instr.indexAt, asIntOf, Sem.run_bind, Sem.run_pure, Result.andThen_ok, run_underlying hu]
              simp only [this.1, hlt, and_self, if_true, Sem.run_bind, sizeS_ok hsz, Result.andThen_ok, addr_add, Sem.run_pure]
              rw [add_ev, scale_ev, toNat_scale hoff this.1]
            | nnone _ _ _ _ _ _ h0 h1 h2 => omega
        · cases hv
      · cases hv
    · rename_i m el hu
      split at hv
      · rename_i b off
        cases hx with
        | ptr _ _ r n hM hoff =>
          split at hv
          · rename_i sz hsz
            cases hin : inside fs p (.lit m) with
            | false => rw [hin] at hv; cases hv
            | true =>
              rw [hin] at hv; cases hv
              have := inside_ok hf hin
              rw [ev_lit] at this
              have hs : 0 ≤ (T.add off (T.scale (sz : Int) p)).ev e := by
                rw [add_ev, scale_ev]; have := Int.mul_nonneg (show (0 : Int) ≤ (sz : Int) by omega) this.1; omega
              refine ⟨_, ?_, .ptr b _ r n hM hs⟩
              simp only [Instr.indexAt, asIntOf, Sem.run_bind, Sem.run_pure, Result.andThen_ok, run_underlying hu, Instr.sureAddr]
              simp only [this.1, this.2, and_self, if_true, Sem.run_bind, sizeS_ok hsz, Result.andThen_ok, addr_add, Sem.run_pure]
              rw [add_ev, scale_ev, toNat_scale hoff this.1]
          · cases hv
      · cases hv
    · cases hv
  · cases hv


theorem bytesOf_get (l : List Nat) (n : Nat) : (bytesOf l)[n]? = (l[n]?).map (fun c => UInt8.ofNat c) := by
  have h1 : (bytesOf l)[n]? = (bytesOf l).data[n]? := by
    simp only [getElem?_def]
    rfl
  rw [h1]
  simp [bytesOf]

theorem indexS_ok {fs : Facts} (hf : fs.ok e) {t : TypeId} {x i v : SV} {vx vi : Value} (hv : indexS P fs t x i = some v) (hx : VR e M x vx) (hi : VR e M i vi) :
    ∃ z, (Instr.index t vx vi).run P w = .ok z w ∧ VR e M v z := by
  unfold indexS at hv
  split at hv
  · rename_i k p
    cases hi
    split at hv
    · rename_i n hn
      have hp := litNat_ok hf hn
      split at hv
      · rename_i hu
        split at hv
        · rename_i l
          cases hx with
          | str _ hl =>
            split at hv
            · rename_i c hc
              cases hv
              refine ⟨.int .u8 c, ?_, .int .u8 (.lit c)⟩
              have h0 : (0 : Int) ≤ (n : Int) := by omega
              have hlt := hl c (List.mem_of_getElem? hc)
              simp only [Instr.index, asIntOf, hp, Sem.run_bind, Sem.run_pure, Result.andThen_ok, run_underlying hu, h0, if_true, Int.toNat_natCast, bytesOf_get, hc, Option.map_some]
              rw [UInt8.toNat_ofNat']
              rw [Nat.mod_eq_of_lt (by omega)]
            · cases hv
        · cases hv
      · rename_i m el hu
        split at hv
        · rename_i l
          cases hx with
          | agg _ cs hcs =>
            split at hv
            · rename_i sz hsz
              cases hlt : Nat.blt n m with
              | false => rw [hlt] at hv; cases hv
              | true =>
                rw [hlt] at hv; simp only [cond_true] at hv
                have hlt' : n < m := by simpa [Nat.blt_eq] using hlt
                obtain ⟨z, h1, h2⟩ := partS_ok (P := P) (w := w) hcs hv
                refine ⟨z, ?_, h2⟩
                have h0 : (0 : Int) ≤ (n : Int) ∧ (n : Int) < (m : Int) := by omega
                simp only [Instr.index, asIntOf, hp, Sem.run_bind, Sem.run_pure, Result.andThen_ok, run_underlying hu, h0, and_self, if_true, sizeS_ok hsz, Int.toNat_natCast, h1]
            · cases hv
        · cases hv
      · cases hv
    · cases hv
  · cases hv

theorem boundS_ok {x : Option SV} {d i : T} {vx : Option Value} (hb : boundS x d = some i) (hx : ∀ s, x = some s → ∃ v, vx = some v ∧ VR e M s v) (hn : x = none → vx = none) :
    (vx = none ∧ i = d) ∨ ∃ k, vx = some (.int k (i.ev e)) := by
  unfold boundS at hb
  split at hb
  · cases hb; exact .inl ⟨hn rfl, rfl⟩
  · rename_i k p
    cases hb
    obtain ⟨v, h1, h2⟩ := hx _ rfl
    cases h2
    exact .inr ⟨k, h1⟩
  · cases hb

theorem sliceBound_run {k : IntKind} {i : Int} {y : Nat} {c : BoundsCode} (h0 : 0 ≤ i) (h1 : i ≤ (y : Int)) : (Instr.sliceBound (.int k i) y c).run P w = .ok i.toNat w := by
  simp [Instr.sliceBound, asIntOf, h0, h1]

/-- The bounds of a slice expression without a third one. -/
theorem sliceBounds_run {sl : Bool} {len cap : Nat} {lo hi : Option Value} {i j : Int} (hlo : (lo = none ∧ i = 0) ∨ ∃ k, lo = some (.int k i)) (hhi : (hi = none ∧ j = (len : Int)) ∨ ∃ k, hi = some (.int k j))
    (h0 : 0 ≤ i) (hij : i ≤ j) (hj : j ≤ (cap : Int)) : (Instr.sliceBounds sl len cap lo hi none).run P w = .ok (i.toNat, j.toNat, cap) w := by
  have hj' : i ≤ ((j.toNat : Nat) : Int) := by omega
  rcases hlo with ⟨rfl, rfl⟩ | ⟨k, rfl⟩ <;> rcases hhi with ⟨rfl, rfl⟩ | ⟨k', rfl⟩
  · simp [Instr.sliceBounds]
  · simp [Instr.sliceBounds, sliceBound_run (P := P) (w := w) (show 0 ≤ j by omega) hj]
  · simp [Instr.sliceBounds, sliceBound_run (P := P) (w := w) h0 hij]
  · simp [Instr.sliceBounds, sliceBound_run (P := P) (w := w) (show 0 ≤ j by omega) hj, sliceBound_run (P := P) (w := w) h0 hj']

theorem sliceS_ok {fs : Facts} (hf : fs.ok e) {t : TypeId} {x v : SV} {lo hi : Option SV} {vx : Value} {vlo vhi : Option Value} (hv : sliceS P fs t x lo hi none = some v) (hx : VR e M x vx)
    (hlo : ∀ s, lo = some s → ∃ v, vlo = some v ∧ VR e M s v) (hln : lo = none → vlo = none) (hhi : ∀ s, hi = some s → ∃ v, vhi = some v ∧ VR e M s v) (hhn : hi = none → vhi = none) :
    ∃ z, (Instr.sliceAt t vx vlo vhi none).run P w = .ok z w ∧ VR e M v z := by
  unfold sliceS at hv
  simp only at hv
  split at hv
  · rename_i l
    cases hx with
    | str _ hl =>
      split at hv
      · rename_i hu
        split at hv
        · rename_i a b ha hb
          have h1 := boundS_ok ha hlo hln
          have h2 := boundS_ok hb hhi hhn
          split at hv
          · rename_i i j hi' hj'
            have ei := litNat_ok hf hi'
            have ej := litNat_ok hf hj'
            cases hle : (Nat.ble i j && Nat.ble j l.length) with
            | false => rw [hle] at hv; cases hv
            | true =>
              rw [hle] at hv; cases hv
              simp only [Bool.and_eq_true] at hle
              have g1 := Nat.le_of_ble_eq_true hle.1
              have g2 := Nat.le_of_ble_eq_true hle.2
              have hrun := sliceBounds_run (P := P) (w := w) (sl := false) (len := (bytesOf l).size) (cap := (bytesOf l).size) (lo := vlo) (hi := vhi) (i := (i : Int)) (j := (j : Int))
                (by rcases h1 with ⟨rfl, rfl⟩ | ⟨k, rfl⟩
                    · left; rw [ev_lit] at ei; exact ⟨rfl, ei.symm⟩
                    · right; exact ⟨k, by rw [ei]⟩)
                (by rcases h2 with ⟨rfl, rfl⟩ | ⟨k, rfl⟩
                    · left; rw [ev_lit] at ej; rw [bytesOf_size]; exact ⟨rfl, ej.symm⟩
                    · right; exact ⟨k, by rw [ej]⟩)
                (by omega) (by omega) (by rw [bytesOf_size]; omega)
              refine ⟨.string ((bytesOf l).extract i j), ?_, ?_⟩
              · simp only [Instr.sliceAt, Sem.run_bind, run_underlying hu, Result.andThen_ok, Instr.slice, Option.isSome_none, Bool.false_eq_true, if_false, hrun, Int.toNat_natCast, Sem.run_pure]
              · have : (bytesOf l).extract i j = bytesOf ((l.take j).drop i) := by
                  refine ByteArray.ext ?_
                  rw [ByteArray.data_extract]
                  apply Array.ext'
                  rw [Array.toList_extract]
                  simp only [bytesOf]
                  simp [List.extract_eq_take_drop, List.map_drop, List.map_take, List.drop_take]
                rw [this]
                exact .str _ (fun y hy => hl y (List.mem_of_mem_take (List.mem_of_mem_drop hy)))
          · cases hv
        · cases hv
      · cases hv
  · rename_i b off len cap sz
    cases hx with
    | slice _ _ _ _ _ r n c hM hoff hlen hlc hcap hn =>
      split at hv
      · rename_i el hu
        split at hv
        · rename_i i j ha hb
          have h1 := boundS_ok ha hlo hln
          have h2 := boundS_ok hb hhi hhn
          split at hv
          · rename_i m hm
            have hqc : (capT cap len).ev e ≤ (c : Int) := by
              cases cap with
              | none => show len.ev e ≤ (c : Int); omega
              | some t => show t.ev e ≤ (c : Int); rw [hcap t rfl]; omega
            cases hall : (Nat.beq m sz && nonneg fs i && nonpos fs (T.sub i j) && nonpos fs (T.sub j (capT cap len)) && (isZero fs i || nonpos fs (T.sub (T.addc 1 i) (capT cap len)))) with
            | false => rw [hall] at hv; cases hv
            | true =>
              rw [hall] at hv; cases hv
              simp only [Bool.and_eq_true, Bool.or_eq_true] at hall
              obtain ⟨⟨⟨⟨g1, g2⟩, g3⟩, g4⟩, g5⟩ := hall
              have hlast : i.ev e = 0 ∨ i.ev e < (c : Int) := by
                rcases g5 with g5 | g5
                · left
                  unfold isZero at g5
                  split at g5
                  · rename_i hz; exact litNat_ok hf hz
                  · cases g5
                · right
                  have := nonpos_ok hf g5
                  rw [sub_ev, addc_ev] at this; omega
              have hms : m = sz := Nat.eq_of_beq_eq_true g1
              subst hms
              have k1 := nonneg_ok hf g2
              have k2 := nonpos_ok hf g3
              have k3 := nonpos_ok hf g4
              rw [sub_ev] at k2 k3
              have hrun := sliceBounds_run (P := P) (w := w) (sl := true) (len := (len.ev e).toNat) (cap := c) (lo := vlo) (hi := vhi) (i := i.ev e) (j := j.ev e)
                (by rcases h1 with ⟨rfl, rfl⟩ | ⟨k, rfl⟩
                    · left; exact ⟨rfl, rfl⟩
                    · right; exact ⟨k, rfl⟩)
                (by rcases h2 with ⟨rfl, rfl⟩ | ⟨k, rfl⟩
                    · left; exact ⟨rfl, by omega⟩
                    · right; exact ⟨k, rfl⟩)
                k1 (by omega) (by omega)
              have hs : 0 ≤ (T.add off (T.scale (m : Int) i)).ev e := by
                rw [add_ev, scale_ev]; have := Int.mul_nonneg (show (0 : Int) ≤ (m : Int) by omega) k1; omega
              have hofs : ((T.add off (T.scale (m : Int) i)).ev e).toNat = (off.ev e).toNat + (i.ev e).toNat * m := by
                rw [add_ev, scale_ev, toNat_scale hoff k1]
              refine ⟨.slice (some ⟨r, ((T.add off (T.scale (m : Int) i)).ev e).toNat, none⟩) ((T.sub j i).ev e).toNat (c - (i.ev e).toNat), ?_, ?_⟩
              · simp only [Instr.sliceAt, Sem.run_bind, run_underlying hu, Result.andThen_ok, Instr.slice, hrun, sizeS_ok hm, Sem.run_pure, Option.map_some, addr_add]
                rw [hofs, sub_ev]
                have e1 : (j.ev e - i.ev e).toNat = (j.ev e).toNat - (i.ev e).toNat := by omega
                rw [e1]
                rcases hlast with hl0 | hl1
                · rw [hl0]; simp
                · rw [if_neg (by omega)]
              · refine .slice b _ _ _ m r n _ hM hs (by rw [sub_ev]; omega) (by rw [sub_ev]; omega) ?_ ?_
                · intro t' ht'
                  cases cap with
                  | none => cases ht'
                  | some t0 =>
                    simp only [capSub, Option.some.injEq] at ht'
                    subst ht'
                    rw [sub_ev, hcap t0 rfl]; omega
                · rw [hofs]
                  have : (i.ev e).toNat ≤ c := by omega
                  have e2 : (i.ev e).toNat * m + (c - (i.ev e).toNat) * m = c * m := by rw [← Nat.add_mul]; congr 1; omega
                  refine ⟨by omega, fun hnone => ?_⟩
                  have : cap = none := by cases cap with
                    | none => rfl
                    | some t0 => cases hnone
                  have := hn.2 this
                  omega
          · cases hv
        · cases hv
      · cases hv
  · rename_i b off len cap sz nl
    split at hv
    · rename_i el hu
      split at hv
      · rename_i i j ha hb
        have h1 := boundS_ok ha hlo hln
        have h2 := boundS_ok hb hhi hhn
        split at hv
        · rename_i m hm
          cases hall : (Nat.beq m sz && nonneg fs i && nonpos fs (T.sub i j) && nonpos fs (T.sub j cap) && (isZero fs i || nonpos fs (T.sub (T.addc 1 i) cap))) with
          | false => rw [hall] at hv; cases hv
          | true =>
            rw [hall] at hv; cases hv
            simp only [Bool.and_eq_true, Bool.or_eq_true] at hall
            obtain ⟨⟨⟨⟨g1, g2⟩, g3⟩, g4⟩, g5⟩ := hall
            have hlast : i.ev e = 0 ∨ i.ev e < cap.ev e := by
              rcases g5 with g5 | g5
              · left
                unfold isZero at g5
                split at g5
                · rename_i hz; exact litNat_ok hf hz
                · cases g5
              · right
                have := nonpos_ok hf g5
                rw [sub_ev, addc_ev] at this; omega
            have hms : m = sz := Nat.eq_of_beq_eq_true g1
            subst hms
            have k1 := nonneg_ok hf g2
            have k2 := nonpos_ok hf g3
            have k3 := nonpos_ok hf g4
            rw [sub_ev] at k2 k3
            cases hx with
            | nsome _ _ _ _ _ _ r n c h0 hM hoff hlen hlc hcap hn =>
              have hrun := sliceBounds_run (P := P) (w := w) (sl := true) (len := (len.ev e).toNat) (cap := c) (lo := vlo) (hi := vhi) (i := i.ev e) (j := j.ev e)
                (by rcases h1 with ⟨rfl, rfl⟩ | ⟨k, rfl⟩
                    · left; exact ⟨rfl, rfl⟩
                    · right; exact ⟨k, rfl⟩)
                (by rcases h2 with ⟨rfl, rfl⟩ | ⟨k, rfl⟩
                    · left; exact ⟨rfl, by omega⟩
                    · right; exact ⟨k, rfl⟩)
                k1 (by omega) (by omega)
              have hs : 0 ≤ (T.add off (T.scale (m : Int) i)).ev e := by
                rw [add_ev, scale_ev]; have := Int.mul_nonneg (show (0 : Int) ≤ (m : Int) by omega) k1; omega
              have hofs : ((T.add off (T.scale (m : Int) i)).ev e).toNat = (off.ev e).toNat + (i.ev e).toNat * m := by
                rw [add_ev, scale_ev, toNat_scale hoff k1]
              refine ⟨.slice (some ⟨r, ((T.add off (T.scale (m : Int) i)).ev e).toNat, none⟩) ((T.sub j i).ev e).toNat (c - (i.ev e).toNat), ?_, ?_⟩
              · simp only [Instr.sliceAt, Sem.run_bind, run_underlying hu, Result.andThen_ok, Instr.slice, hrun, sizeS_ok hm, Sem.run_pure, Option.map_some, addr_add]
                rw [hofs, sub_ev]
                have e1 : (j.ev e - i.ev e).toNat = (j.ev e).toNat - (i.ev e).toNat := by omega
                rw [e1]
                rcases hlast with hl0 | hl1
                · rw [hl0]; simp
                · rw [if_neg (by omega)]
              · refine .nsome b _ _ _ m nl r n _ h0 hM hs (by rw [sub_ev]; omega) (by rw [sub_ev]; omega) (by rw [sub_ev]; omega) ?_
                rw [hofs]
                have e2 : (i.ev e).toNat * m + (c - (i.ev e).toNat) * m = c * m := by rw [← Nat.add_mul]; congr 1; omega
                omega
            | nnone _ _ _ _ _ _ h0 hl0 hc0 =>
              have i0 : i.ev e = 0 := by omega
              have j0 : j.ev e = 0 := by omega
              have hrun := sliceBounds_run (P := P) (w := w) (sl := true) (len := 0) (cap := 0) (lo := vlo) (hi := vhi) (i := 0) (j := 0)
                (by rcases h1 with ⟨rfl, rfl⟩ | ⟨k, rfl⟩
                    · left; exact ⟨rfl, rfl⟩
                    · right; exact ⟨k, by rw [i0]⟩)
                (by rcases h2 with ⟨rfl, rfl⟩ | ⟨k, rfl⟩
                    · left; exact ⟨rfl, rfl⟩
                    · right; exact ⟨k, by rw [j0]⟩)
                (by omega) (by omega) (by omega)
              exact ⟨.slice none 0 0, by simp [Instr.sliceAt, run_underlying hu, Instr.slice, hrun, sizeS_ok hm], .nnone b _ _ _ m nl h0 (by rw [sub_ev]; omega) (by rw [sub_ev]; omega)⟩
        · cases hv
      · cases hv
    · cases hv
  · split at hv
    · rename_i el hu
      cases hx
      split at hv
      · rename_i a b ha hb
        have h1 := boundS_ok ha hlo hln
        have h2 := boundS_ok hb hhi hhn
        split at hv
        · rename_i hi' hj'
          have ei : a.ev e = 0 := litNat_ok hf hi'
          have ej : b.ev e = 0 := litNat_ok hf hj'
          have hrun := sliceBounds_run (P := P) (w := w) (sl := true) (len := 0) (cap := 0) (lo := vlo) (hi := vhi) (i := 0) (j := 0)
            (by rcases h1 with ⟨rfl, rfl⟩ | ⟨k, rfl⟩
                · left; exact ⟨rfl, rfl⟩
                · right; exact ⟨k, by rw [ei]⟩)
            (by rcases h2 with ⟨rfl, rfl⟩ | ⟨k, rfl⟩
                · left; exact ⟨rfl, rfl⟩
                · right; exact ⟨k, by rw [ej]⟩)
            (by omega) (by omega) (by omega)
          split at hv
          · rename_i sz hsz
            cases hv
            exact ⟨.slice none 0 0, by simp [Instr.sliceAt, run_underlying hu, Instr.slice, hrun, sizeS_ok hsz], .nils⟩
          · cases hv
        · cases hv
      · cases hv
    · cases hv
  · cases hv

end
end Go.Sx

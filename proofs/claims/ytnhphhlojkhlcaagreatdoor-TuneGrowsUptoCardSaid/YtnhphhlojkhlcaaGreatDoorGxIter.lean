/- Ranges over strings, maps, slices that are made. -/
import Derived.Test.YtnhphhlojkhlcaaGreatDoorGxApp
import Derived.MapKept
namespace Go.Sx
open Go Go.RowKit

section
variable {P : Program} {e : Env} {F : Base} {M : Lay} {h : Hs} {w : World}

/-! ## Strings, letter by letter -/

variable (P)
def rangeS (h : Hs) (t : TypeId) (x : SV) (k : SV → Hs → V) : V :=
  match P.underlying t, x with
  | some .string, .str l => bif l.all (Nat.blt · 128) then k (.ptr h.hn (.lit 0)) (h.alloc (.iter l 0)) else .bad 70 [x]
  | _, _ => .bad 71 [x]

def nextS (h : Hs) (x : SV) (isStr : Bool) (k : SV → Hs → V) : V :=
  match x, isStr with
  | .ptr b (.lit (.ofNat 0)), true => match h.hp.get b with
    | some (.iter l pos) => match l[pos]? with
      | some c => bif Nat.blt c 128 then k (.tup [.bool (.lit 1), .int .i64 (.lit (.ofNat pos)), .int .i32 (.lit (.ofNat c))]) (h.upd b (.iter l (pos + 1))) else .bad 72 []
      | none => k (.tup [.bool (.lit 0)]) h
    | _ => .bad 73 [x]
  | _, _ => .bad 74 [x]

variable {P}
theorem rangeS_ok (H : HeapOK e F M h w) {t : TypeId} {x : SV} {vx : Value} {k : SV → Hs → V} (hk : rangeS P h t x k = .ok) (hx : VR e M x vx) : Post e F M k ((Instr.range t vx).run P w) := by
  unfold rangeS at hk
  split at hk
  · rename_i l hu
    cases hb : l.all (Nat.blt · 128) with
    | false => rw [hb] at hk; cases hk
    | true =>
      rw [hb] at hk; simp only [cond_true] at hk
      cases hx with
      | str _ hl =>
        have hp := H.alloc (.iter l 0) (.stringIter (bytesOf l) 0) 1 (fun M' _ => .iter l 0 1)
        refine ⟨_, _, _, _, _, ?_, hp.1, hp.2, .ptr h.hn (.lit 0) w.heap.size 1 (Lay.put_same _ _ _) (Int.le_refl _), hk⟩
        simp [Instr.range, run_underlying hu, newObj, Sem.run, Result.andThen, ev_lit]
  · cases hk

theorem decode_ascii {l : List Nat} {pos c : Nat} (hc : l[pos]? = some c) (h1 : c < 128) : Utf8.decode (bytesOf l) pos = (c, 1) := by
  have hlt : pos < l.length := (List.getElem?_eq_some_iff.1 hc).1
  have hg : ((bytesOf l).get! (pos + 0)).toNat = c := by
    have h2 : l[pos] = c := (List.getElem?_eq_some_iff.1 hc).2
    simp only [bytesOf, ByteArray.get!, Nat.add_zero]
    rw [getElem!_pos _ _ (by simpa using hlt)]
    simp only [List.getElem_toArray, List.getElem_map, h2, UInt8.toNat_ofNat']
    omega
  unfold Utf8.decode
  simp only [hg]
  rw [if_pos (by omega)]

theorem nextS_ok (H : HeapOK e F M h w) {x : SV} {vx : Value} {b : Bool} {t : TypeId} {k : SV → Hs → V} (hk : nextS h x b k = .ok) (hx : VR e M x vx) : Post e F M k ((Instr.next vx b t).run P w) := by
  unfold nextS at hk
  split at hk
  · rename_i b
    cases hx with
    | ptr _ _ r n hM hoff =>
      split at hk
      · rename_i l pos hg
        obtain ⟨r', n', y, h1, h2, h3⟩ := H.live b _ hg rfl
        rw [hM] at h1; cases h1
        cases h3
        have hz : (((T.lit (Int.ofNat 0)).ev e).toNat) = 0 := by simp [ev_lit]
        split at hk
        · rename_i c hc
          cases hb : Nat.blt c 128 with
          | false => rw [hb] at hk; cases hk
          | true =>
            rw [hb] at hk; simp only [cond_true] at hk
            have hc' : c < 128 := by simpa [Nat.blt_eq] using hb
            have hlt : pos < l.length := (List.getElem?_eq_some_iff.1 hc).1
            have hr : r < w.heap.size := (Array.getElem?_eq_some_iff.1 h2).1
            refine ⟨.tuple #[.bool true, goInt pos, .int .i32 c], { w with heap := w.heap.setIfInBounds r (.stringIter (bytesOf l) (pos + 1)) }, M, _, _, ?_, M.le_refl, ?_, ?_, hk⟩
            · rw [hz]
              have hgo : (getObj r).run P w = .ok (.stringIter (bytesOf l) pos) w := by simp only [getObj, Sem.run, h2]
              have hso : ∀ o, (setObj r o).run P w = .ok () { w with heap := w.heap.setIfInBounds r o } := fun o => by
                simp only [setObj, Sem.run, h2]
              have hls : pos < (bytesOf l).size := by rw [bytesOf_size]; exact hlt
              simp only [Instr.next, Sem.run_bind, hgo, Result.andThen_ok]
              rw [if_pos hls]
              simp only [decode_ascii hc hc', Sem.run_bind, hso, Result.andThen_ok, Sem.run_pure]
            · refine H.upd hg rfl rfl hM (x := .stringIter (bytesOf l) (pos + 1)) ?_ rfl rfl rfl (fun _ => .iter l (pos + 1) n)
              intro j
              simp only [Array.getElem?_setIfInBounds]
              by_cases hj : r = j
              · subst hj; simp [hr]
              · rw [if_neg hj, if_neg (Ne.symm hj)]
            · refine .tup _ _ (.cons _ _ _ _ (.bool _ true rfl) (.cons _ _ _ _ ?_ (.cons _ _ _ _ ?_ .nil)))
              · exact .int .i64 _
              · exact .int .i32 _
        · rename_i hc
          have hge : l.length ≤ pos := by simpa using hc
          refine ⟨.tuple #[.bool false], w, M, h, _, ?_, M.le_refl, H, .tup _ _ (.cons _ _ _ _ (.bool _ false rfl) .nil), hk⟩
          rw [hz]
          have hgo : (getObj r).run P w = .ok (.stringIter (bytesOf l) pos) w := by simp only [getObj, Sem.run, h2]
          have hls : ¬ pos < (bytesOf l).size := by rw [bytesOf_size]; omega
          simp only [Instr.next, Sem.run_bind, hgo, Result.andThen_ok]
          rw [if_neg hls]
          simp only [Sem.run_pure]
      · cases hk
  · cases hk

/-! ## Maps by numbers -/

variable (P)
def makeMapS (h : Hs) (r : Option Operand) (k : SV → Hs → V) : V :=
  match r with
  | none => k (.map h.hn) (h.alloc (.map [] 0))
  | some _ => .bad 75 []

def findX (p : T) (kd : IntKind) : List (SV × SV × Nat) → Nat → Facts → (Facts → Option (Nat × SV) → V) → V
  | [], _, fs, k => k fs none
  | (.int kd' q, v, _) :: l, i, fs, k => if kd' = kd then match knownD fs (T.eq0 fs (T.sub p q)) with
      | some true => k fs (some (i, v))
      | some false => findX p kd l (i + 1) fs k
      | none => V.and (match assume (T.eq0 fs (T.sub p q)) true fs with
        | none => V.ok
        | some fs => k fs (some (i, v))) (match assume (T.eq0 fs (T.sub p q)) false fs with
        | none => V.ok
        | some fs => findX p kd l (i + 1) fs k)
    else .bad 76 []
  | _ :: _, _, _, _ => .bad 77 []

def lookupS (h : Hs) (t : TypeId) (x ix : SV) (ok : Bool) (k : SV → Hs → V) : V :=
  match P.underlying t, x, ix with
  | some (.map kt et), .map b, .int kd p => match P.underlying kt, h.hp.get b, zeroS P et with
    | some (.int kd'), some (.map es _), some z => if kd' = kd then findX p kd es 0 h.fs fun fs r => match r with
        | some (_, v) => k (bif ok then .tup [v, .bool (.lit 1)] else v) { h with fs := fs }
        | none => k (bif ok then .tup [scal z, .bool (.lit 0)] else scal z) { h with fs := fs }
      else .bad 79 []
    | _, _, _ => .bad 80 [x, ix]
  | _, _, _ => .bad 81 [x, ix]

def mapUpdateS (h : Hs) (t : TypeId) (x ix v : SV) (k : SV → Hs → V) : V :=
  match P.underlying t, x, ix with
  | some (.map kt _), .map b, .int kd p => match P.underlying kt, h.hp.get b with
    | some (.int kd'), some (.map es clock) => if kd' = kd then findX p kd es 0 h.fs fun fs r => match r with
        | some (i, _) => (match es[i]? with
          | some (_, _, born) => k .junk ({ h with fs := fs }.upd b (.map (es.set i (ix, v, born)) clock))
          | none => .bad 82 [])
        | none => k .junk ({ h with fs := fs }.upd b (.map (es ++ [(ix, v, clock)]) (clock + 1)))
      else .bad 79 []
    | _, _ => .bad 80 [x, ix]
  | _, _, _ => .bad 81 [x, ix]

variable {P}
theorem makeMapS_ok (H : HeapOK e F M h w) {t : TypeId} {r : Option Operand} {k : SV → Hs → V} (hk : makeMapS h r k = .ok) (ρ : Operand → Value) : Post e F M k ((Instr.makeMap t (r.map ρ)).run P w) := by
  unfold makeMapS at hk
  cases r with
  | some r => cases hk
  | none =>
    have hp := H.alloc (.map [] 0) (.map #[] 0) 1 (fun M' _ => .map [] 0 #[] 1 .nil)
    refine ⟨_, _, _, _, _, ?_, hp.1, hp.2, .map h.hn w.heap.size 1 (Lay.put_same _ _ _), hk⟩
    simp [Instr.makeMap, newObj, Sem.run, Result.andThen]

theorem findX_ok {p : T} {kd : IntKind} : ∀ (es : List (SV × SV × Nat)) (xs : List MapEntry) (i : Nat) (fs : Facts) (k : Facts → Option (Nat × SV) → V), findX p kd es i fs k = .ok → fs.ok e → ER e M es xs →
    ∃ fs' r, fs'.ok e ∧ k fs' r = .ok ∧ ((r = none ∧ Instr.findNow (.int kd) (.int kd (p.ev e)) xs i = some none) ∨
      (∃ j s x y, r = some (i + j, s) ∧ VR e M s x ∧ Instr.findNow (.int kd) (.int kd (p.ev e)) xs i = some (some (i + j, x)) ∧ xs[j]? = some y ∧ y.key = .int kd (p.ev e))) := by
  intro es
  induction es with
  | nil => intro xs i fs k hk hf hr; cases hr; exact ⟨fs, none, hf, hk, .inl ⟨rfl, rfl⟩⟩
  | cons en es ih =>
    intro xs i fs k hk hf hr
    obtain ⟨ks, vs, n⟩ := en
    cases hr with
    | cons _ _ _ _ x xs hkey hval hborn hrest =>
      have hk' : ∃ kd' q, ks = .int kd' q := by
        cases ks <;> first | exact ⟨_, _, rfl⟩ | (simp only [findX] at hk; cases hk)
      obtain ⟨kd', q, rfl⟩ := hk'
      simp only [findX] at hk
      · skip
        split at hk
        · rename_i hkd
          subst hkd
          generalize hxk : x.key = y at hkey
          cases hkey
          have hev : (T.eq0 fs (T.sub p q)).ev e = bint (decide (p.ev e = q.ev e)) := by
            rw [eq0_ev hf, sub_ev]
            by_cases h : p.ev e = q.ev e
            · rw [if_pos (by omega)]; simp [h, bint]
            · rw [if_neg (by omega)]; simp [h, bint]
          have hsame : ∀ b, decide (p.ev e = q.ev e) = b → Instr.sameNow (.int kd') (.int kd' (p.ev e)) x.key = some b := by
            intro b hb
            rw [hxk]
            simp only [Instr.sameNow, if_true]
            rw [← hb]
            congr 1
          have found : decide (p.ev e = q.ev e) = true → ∀ fs', fs'.ok e → k fs' (some (i, vs)) = .ok → _ := fun hd fs' hf' hk' =>
            (⟨fs', some (i, vs), hf', hk', .inr ⟨0, vs, x.val, x, rfl, hval, by simp [Instr.findNow, hsame _ hd], rfl, by rw [hxk]; simp only [decide_eq_true_eq] at hd; rw [hd]⟩⟩ :
              ∃ fs' r, fs'.ok e ∧ k fs' r = .ok ∧ ((r = none ∧ Instr.findNow (.int kd') (.int kd' (p.ev e)) (x :: xs) i = some none) ∨
                (∃ j s u y, r = some (i + j, s) ∧ VR e M s u ∧ Instr.findNow (.int kd') (.int kd' (p.ev e)) (x :: xs) i = some (some (i + j, u)) ∧ (x :: xs)[j]? = some y ∧ y.key = .int kd' (p.ev e))))
          have other : decide (p.ev e = q.ev e) = false → ∀ fs', fs'.ok e → findX p kd' es (i + 1) fs' k = .ok →
              ∃ fs' r, fs'.ok e ∧ k fs' r = .ok ∧ ((r = none ∧ Instr.findNow (.int kd') (.int kd' (p.ev e)) (x :: xs) i = some none) ∨
                (∃ j s u y, r = some (i + j, s) ∧ VR e M s u ∧ Instr.findNow (.int kd') (.int kd' (p.ev e)) (x :: xs) i = some (some (i + j, u)) ∧ (x :: xs)[j]? = some y ∧ y.key = .int kd' (p.ev e))) := by
            intro hd fs' hf' hk'
            obtain ⟨fs2, r, g1, g2, g3⟩ := ih xs (i + 1) fs' k hk' hf' hrest
            refine ⟨fs2, r, g1, g2, ?_⟩
            rcases g3 with ⟨g4, g5⟩ | ⟨j, s, u, y, g4, g5, g6, g7, g8⟩
            · exact .inl ⟨g4, by simp [Instr.findNow, hsame _ hd, g5]⟩
            · refine .inr ⟨j + 1, s, u, y, by rw [g4]; congr 2; omega, g5, ?_, by simpa using g7, g8⟩
              simp only [Instr.findNow, hsame _ hd, g6]
              congr 3; omega
          split at hk
          · rename_i hkn
            exact found (knownD_ok hf hev hkn) fs hf hk
          · rename_i hkn
            exact other (knownD_ok hf hev hkn) fs hf hk
          · obtain ⟨h1, h0⟩ := V.and_ok hk
            cases hd : decide (p.ev e = q.ev e) with
            | true =>
              rw [hd] at hev
              obtain ⟨fs', g1, g2⟩ := assume_ok hf hev
              rw [g1] at h1
              exact found hd fs' g2 h1
            | false =>
              rw [hd] at hev
              obtain ⟨fs', g1, g2⟩ := assume_ok hf hev
              rw [g1] at h0
              exact other hd fs' g2 h0
        · cases hk

theorem lookupS_ok (H : HeapOK e F M h w) {t : TypeId} {x ix : SV} {vx vi : Value} {ok : Bool} {k : SV → Hs → V} (hk : lookupS P h t x ix ok k = .ok) (hx : VR e M x vx) (hi : VR e M ix vi) :
    Post e F M k ((Instr.lookup t vx vi ok).run P w) := by
  unfold lookupS at hk
  split at hk
  · rename_i kt et b kd p hu
    split at hk
    · rename_i kd' es clock z hkt hg hz
      split at hk
      · rename_i hkd
        subst hkd
        cases hx with
        | map _ r n hM =>
          cases hi
          obtain ⟨r', n', y, h1, h2, h3⟩ := H.live b _ hg rfl
          rw [hM] at h1; cases h1
          cases h3 with
          | map _ _ xs _ her =>
            obtain ⟨fs', res, g1, g2, g3⟩ := findX_ok _ _ _ _ _ hk H.fact her
            have hck : (Instr.checkKey xs.isEmpty 10000 kt (.int kd' (p.ev e))).run P w = .ok () w := MapKept.run_checkKey hkt (by simp [MapKept.IsKey]) _ 9999
            rcases g3 with ⟨rfl, g4⟩ | ⟨j, s, u, y, rfl, g5, g6, g7, g8⟩
            · simp only at g2
              · skip
                refine ⟨if ok then .tuple #[z, .bool false] else z, w, M, _, _, ?_, M.le_refl, H.facts g1, ?_, g2⟩
                · simp only [Instr.lookup, Sem.run_bind, run_underlying hu, Result.andThen_ok, MapKept.run_getObj_map h2, Sem.run_pure, hck, MapKept.run_findKey hkt g4, zeroS_ok hz]
                · cases ok
                  · exact scal_ok z
                  · exact .tup _ _ (.cons _ _ _ _ (scal_ok z) (.cons _ _ _ _ (.bool _ false rfl) .nil))
            · simp only at g2
              refine ⟨if ok then .tuple #[u, .bool true] else u, w, M, _, _, ?_, M.le_refl, H.facts g1, ?_, g2⟩
              · simp only [Instr.lookup, Sem.run_bind, run_underlying hu, Result.andThen_ok, MapKept.run_getObj_map h2, Sem.run_pure, hck, MapKept.run_findKey hkt g6]
              · cases ok
                · exact g5
                · exact .tup _ _ (.cons _ _ _ _ g5 (.cons _ _ _ _ (.bool _ true rfl) .nil))
      · cases hk
    · cases hk
  · cases hk

theorem ER.append {l : List (SV × SV × Nat)} {xs : List MapEntry} (h : ER e M l xs) {l' : List (SV × SV × Nat)} {xs' : List MapEntry} (h' : ER e M l' xs') : ER e M (l ++ l') (xs ++ xs') := by
  induction h with
  | nil => exact h'
  | cons k v n l x xs h1 h2 h3 _ ih => exact .cons k v n _ x _ h1 h2 h3 ih

theorem ER.modify {l : List (SV × SV × Nat)} {xs : List MapEntry} (h : ER e M l xs) {i : Nat} {k v : SV} {n : Nat} {a b : SV} (hi : l[i]? = some (a, b, n)) {f : MapEntry → MapEntry}
    (hf1 : ∀ x, VR e M k (f x).key) (hf2 : ∀ x, VR e M v (f x).val) (hf3 : ∀ x, (f x).born = x.born) : ER e M (l.set i (k, v, n)) (xs.modify i f) := by
  induction h generalizing i with
  | nil => simp at hi
  | cons k' v' n' l x xs h1 h2 h3 h4 ih =>
    cases i with
    | zero =>
      simp at hi
      obtain ⟨rfl, rfl, rfl⟩ := hi
      simp only [List.set_cons_zero, List.modify_zero_cons]
      exact .cons _ _ _ _ _ _ (hf1 x) (hf2 x) (by rw [hf3]; exact h3) h4
    | succ i =>
      simp at hi
      simp only [List.set_cons_succ, List.modify_succ_cons]
      exact .cons _ _ _ _ _ _ h1 h2 h3 (ih hi)

theorem mapUpdateS_ok (H : HeapOK e F M h w) {t : TypeId} {x ix v : SV} {vx vi vv : Value} {k : SV → Hs → V} (hk : mapUpdateS P h t x ix v k = .ok) (hx : VR e M x vx) (hi : VR e M ix vi) (hv : VR e M v vv) :
    UPost e F M k ((Instr.mapUpdate t vx vi vv).run P w) := by
  unfold mapUpdateS at hk
  split at hk
  · rename_i kt et b kd p hu
    split at hk
    · rename_i kd' es clock hkt hg
      split at hk
      · rename_i hkd
        subst hkd
        cases hx with
        | map _ r n hM =>
          cases hi
          obtain ⟨r', n', y, h1, h2, h3⟩ := H.live b _ hg rfl
          rw [hM] at h1; cases h1
          cases h3 with
          | map _ _ xs _ her =>
            have hr : r < w.heap.size := (Array.getElem?_eq_some_iff.1 h2).1
            obtain ⟨fs', res, g1, g2, g3⟩ := findX_ok _ _ _ _ _ hk H.fact her
            have hck : (Instr.checkKey false 10000 kt (.int kd' (p.ev e))).run P w = .ok () w := MapKept.run_checkKey hkt (by simp [MapKept.IsKey]) _ 9999
            have hset : ∀ (o : Obj), (∀ j, ({ w with heap := w.heap.setIfInBounds r o } : World).heap[j]? = if j = r then some o else w.heap[j]?) := by
              intro o j
              simp only [Array.getElem?_setIfInBounds]
              by_cases hj : r = j
              · subst hj; simp [hr]
              · rw [if_neg hj, if_neg (Ne.symm hj)]
            have hso : ∀ (o : Obj), (setObj r o).run P w = .ok () { w with heap := w.heap.setIfInBounds r o } := fun o => by
              simp only [setObj, Sem.run, h2]
            rcases g3 with ⟨rfl, g4⟩ | ⟨j, s, u, y, rfl, g5, g6, g7, g8⟩
            · simp only at g2
              refine ⟨_, M, _, _, ?_, M.le_refl, (H.facts g1).upd (x := .map (xs.push { key := .int kd' (p.ev e), val := vv, born := clock }) (clock + 1)) hg rfl rfl hM (hset _) rfl rfl rfl
                (fun _ => .map _ _ _ _ ?_), .junk _, g2⟩
              · simp only [Instr.mapUpdate, Sem.run_bind, run_underlying hu, Result.andThen_ok, MapKept.run_getObj_map h2, hck, MapKept.run_findKey hkt g4, hso]
              · rw [Array.toList_push]
                exact her.append (.cons _ _ _ _ _ _ (.int kd' p) hv rfl .nil)
            · simp only [Nat.zero_add] at g2 g6
              split at g2
              · rename_i a b' born hes
                have hkts : (Instr.keyThatStays ((xs[j]?.map (·.key)).getD (.int kd' (p.ev e))) (.int kd' (p.ev e))).run P w = .ok (.int kd' (p.ev e)) w := by
                  have : xs[j]? = some y := by rw [← Array.getElem?_toList]; exact g7
                  rw [this]
                  simp [g8, Instr.keyThatStays, Instr.sameBits]
                refine ⟨_, M, _, _, ?_, M.le_refl, (H.facts g1).upd (x := .map (xs.modify j fun e' => { e' with key := .int kd' (p.ev e), val := vv }) clock) hg rfl rfl hM (hset _) rfl rfl rfl
                  (fun _ => .map _ _ _ _ ?_), .junk _, g2⟩
                · simp only [Instr.mapUpdate, Sem.run_bind, run_underlying hu, Result.andThen_ok, MapKept.run_getObj_map h2, hck, MapKept.run_findKey hkt g6, hkts, hso]
                · rw [Array.toList_modify]
                  exact her.modify hes (fun _ => .int kd' p) (fun _ => hv) (fun _ => rfl)
              · cases g2
      · cases hk
    · cases hk
  · cases hk

/-! ## Slices that are made -/

variable (P)
def makeSliceB (h : Hs) (t : TypeId) (len cap : SV) (k : SV → Hs → V) : V :=
  match P.underlying t, len, cap with
  | some (.slice el), .int .i64 (.lit (.ofNat l)), .int .i64 (.lit (.ofNat c)) => match sizeS P el, zeroS P el, P.info? el with
    | some sz, some z, some info => bif Nat.ble l c && Nat.ble (c * info.bytes) 1000000 && Nat.ble c 100000 then
        k (.slice h.hn (.lit 0) (.lit (.ofNat l)) (some (.lit (.ofNat c))) sz) (h.alloc (.row (zerosS z (c * sz)) el true)) else .bad 83 []
    | _, _, _ => .bad 84 []
  | _, _, _ => .bad 85 [len, cap]
variable {P}
theorem makeSliceB_ok (H : HeapOK e F M h w) {t : TypeId} {len cap : SV} {vl vc : Value} {k : SV → Hs → V} (hk : makeSliceB P h t len cap k = .ok) (hl : VR e M len vl) (hc : VR e M cap vc) :
    Post e F M k ((Instr.makeSlice t vl vc).run P w) := by
  unfold makeSliceB at hk
  split at hk
  · rename_i el l c hu
    cases hl; cases hc
    split at hk
    · rename_i sz z info hsz hz hi
      cases hle : (Nat.ble l c && Nat.ble (c * info.bytes) 1000000 && Nat.ble c 100000) with
      | false => rw [hle] at hk; cases hk
      | true =>
        rw [hle] at hk; simp only [cond_true] at hk
        simp only [Bool.and_eq_true] at hle
        have g1 := Nat.le_of_ble_eq_true hle.1.1
        have g2 := Nat.le_of_ble_eq_true hle.1.2
        have g3 := Nat.le_of_ble_eq_true hle.2
        have hw : ∀ n : Nat, n ≤ 100000 → IntKind.i64.wrap (Int.ofNat n) = Int.ofNat n := by
          intro n hn
          unfold IntKind.wrap
          have h1 : (Int.ofNat n) % (2 ^ IntKind.i64.bits : Int) = Int.ofNat n := Int.emod_eq_of_lt (Int.natCast_nonneg n) (by show (n : Int) < 18446744073709551616; omega)
          have h2 : ¬ (Int.ofNat n ≥ (2 ^ (IntKind.i64.bits - 1) : Int)) := by show ¬ ((n : Int) ≥ 9223372036854775808); omega
          simp only [h1]
          rw [if_neg (by simp only [Bool.and_eq_true, decide_eq_true_eq, not_and]; exact fun _ => h2)]
        have hwl := hw l (by omega)
        have hwc := hw c g3
        have hn : ((T.lit (Int.ofNat c)).ev e) = Int.ofNat c := ev_lit _ _
        have hzs : ∃ zc : Array Value, ((c * sz = 0 ∧ zc = #[]) ∨ (c * sz ≠ 0 ∧ zc = z.cells)) ∧
            VRs e M (zerosS z (c * sz)) ((Array.range (c * sz)).map (zc[· % zc.size]!)).toList := by
          by_cases h0 : c * sz = 0
          · refine ⟨#[], .inl ⟨h0, rfl⟩, ?_⟩
            rw [h0]
            have : ((Array.range 0).map ((#[] : Array Value)[· % (#[] : Array Value).size]!)).toList = [] := by simp
            rw [this]; exact .nil
          · exact ⟨z.cells, .inr ⟨h0, rfl⟩, zerosS_ok z _⟩
        obtain ⟨zc, hz1, hz2⟩ := hzs
        have hp := post_row H el hz2
        have hsize : ((Array.range (c * sz)).map (zc[· % zc.size]!)).size = c * sz := by simp
        refine ⟨_, _, _, _, _, ?_, hp.1, hp.2, .slice h.hn (.lit 0) (.lit (.ofNat l)) (some (.lit (.ofNat c))) sz w.heap.size (c * sz) c (by rw [hsize]; exact Lay.put_same _ _ _) (Int.le_refl _) ?_ ?_ ?_ ?_, hk⟩
        · have ht1 : ((decide (Int.ofNat c < 0) || decide ((info.bytes : Int) * Int.ofNat c > 2 ^ 48))) = false := by
            have : (info.bytes : Int) * (c : Int) ≤ 1000000 := by
              have h9 : ((info.bytes * c : Nat) : Int) ≤ 1000000 := by rw [Nat.mul_comm]; omega
              rw [Int.natCast_mul] at h9; exact h9
            have h10 : ¬ ((info.bytes : Int) * (c : Int) > 281474976710656) := by omega
            rw [Bool.or_eq_false_iff]
            exact ⟨decide_eq_false (by show ¬ ((c : Int) < 0); omega), decide_eq_false h10⟩
          have hai : ∀ n : Int, (asInt (.int .i64 n)).run P w = .ok n w := fun n => by simp [asInt, asIntOf]
          simp only [Instr.makeSlice, Sem.run_bind, run_underlying hu, Result.andThen_ok, hai, ev_lit, typeInfo_ok hi, hwl, hwc, ht1]
          rw [if_neg (by simp only [Int.ofNat_eq_natCast, Bool.false_or, Bool.or_eq_true, decide_eq_true_eq]; omega)]
          simp only [Int.ofNat_eq_natCast, Int.toNat_natCast, Sem.run_bind, run_askRoom, Result.andThen_ok, sizeS_ok hsz]
          rcases hz1 with ⟨h0, rfl⟩ | ⟨h0, rfl⟩
          · rw [if_pos h0]
            simp only [Sem.run_bind, Sem.run_pure, Result.andThen_ok, run_newRow]; rfl
          · rw [if_neg h0]
            simp only [Sem.run_bind, Sem.run_pure, Result.andThen_ok, zeroS_ok hz, run_newRow]; rfl
        · rw [ev_lit]; simp
        · rw [ev_lit]; simpa using g1
        · intro t' ht'; cases ht'; rfl
        · exact ⟨by rw [ev_lit]; simp, fun hc => by cases hc⟩
    · cases hk
  · cases hk
/-! ## A slice of noughts, of any length -/

/-- Is a length no small number? -/
def longT : T → Bool
  | .lit (.ofNat n) => Nat.blt 64 n
  | _ => true

variable (P)
def makeIntsS (h : Hs) (el : TypeId) (p : T) (k : SV → Hs → V) : V :=
  match P.underlying el, sizeS P el, zeroS P el, P.info? el with
  | some (.int kd), some 1, some (.int kd' (.ofNat 0)), some info => bif decide (kd = kd') && nonneg h.fs p && isSize p && nonpos h.fs (T.addc (-281474976710656) (T.scale (info.bytes : Int) p)) && nonpos h.fs (T.addc (-281474976710656) p) then
      k (.slice h.hn (.lit 0) p (some p) 1) (h.alloc (.ints kd kd.bits (.op .lrep (.lit 0) p 0) el true)) else .bad 86 [.int .i64 p]
  | _, _, _, _ => .bad 87 []

def intEl (t : TypeId) : Option TypeId := match P.underlying t with
  | some (.slice el) => (match P.underlying el with
    | some (.int _) => some el
    | _ => none)
  | _ => none

def makeSliceS (h : Hs) (t : TypeId) (len cap : SV) (k : SV → Hs → V) : V :=
  match intEl P t, len, cap with
  | some el, .int .i64 p, .int .i64 q => bif T.same p q && longT p then makeIntsS P h el p k else makeSliceB P h t len cap k
  | _, _, _ => makeSliceB P h t len cap k

variable {P}
theorem range_replicate (n : Nat) (v : Value) (zc : Array Value) (h : zc = #[v]) : ((Array.range n).map (zc[· % zc.size]!)).toList = List.replicate n v := by
  subst h
  apply List.ext_getElem
  · simp
  · intro j h1 h2
    simp [Nat.mod_one]

theorem makeIntsS_ok (H : HeapOK e F M h w) {t el : TypeId} {p : T} {vl vc : Value} {k : SV → Hs → V} (hu : P.underlying t = some (.slice el)) (hk : makeIntsS P h el p k = .ok) (hl : VR e M (.int .i64 p) vl) (hc : VR e M (.int .i64 p) vc) :
    Post e F M k ((Instr.makeSlice t vl vc).run P w) := by
  unfold makeIntsS at hk
  split at hk
  · rename_i kd kd' info hui hsz hz hi
    cases hcc : (decide (kd = kd') && nonneg h.fs p && isSize p && nonpos h.fs (T.addc (-281474976710656) (T.scale (info.bytes : Int) p)) && nonpos h.fs (T.addc (-281474976710656) p)) with
    | false => rw [hcc] at hk; cases hk
    | true =>
      rw [hcc] at hk; simp only [cond_true] at hk
      simp only [Bool.and_eq_true, decide_eq_true_eq] at hcc
      obtain ⟨⟨⟨⟨h1, h2⟩, _⟩, h3⟩, h4⟩ := hcc
      subst h1
      have n0 := nonneg_ok H.fact h2
      have b1 := nonpos_ok H.fact h3
      have b2 := nonpos_ok H.fact h4
      rw [addc_ev, scale_ev] at b1
      rw [addc_ev] at b2
      cases hl; cases hc
      generalize hn : p.ev e = n at *
      obtain ⟨m, rfl⟩ : ∃ m : Nat, n = m := ⟨n.toNat, by omega⟩
      have hk1 : klo .i64 = -9223372036854775808 := by decide
      have hk2 : khi .i64 = 9223372036854775807 := by decide
      have hw : IntKind.i64.wrap (m : Int) = m := wrap_id (k := .i64) (by rw [hk1]; omega) (by rw [hk2]; omega)
      have hle : (T.op .lrep (.lit 0) p 0).evl e = List.replicate m 0 := by
        show List.replicate (p.ev e).toNat ((T.lit 0).ev e) = _
        rw [hn, ev_lit]; simp
      have hzs : ∃ zc : Array Value, ((m * 1 = 0 ∧ zc = #[]) ∨ (m * 1 ≠ 0 ∧ zc = (Value.int kd (Int.ofNat 0)).cells)) ∧ ((Array.range (m * 1)).map (zc[· % zc.size]!)).toList = List.replicate m (Value.int kd 0) := by
        by_cases h0 : m * 1 = 0
        · refine ⟨#[], .inl ⟨h0, rfl⟩, ?_⟩
          have : m = 0 := by omega
          subst this; simp
        · refine ⟨_, .inr ⟨h0, rfl⟩, ?_⟩
          have hrr := range_replicate (m * 1) (Value.int kd 0) (Value.int kd (Int.ofNat 0)).cells rfl
          rw [Nat.mul_one] at hrr ⊢
          exact hrr
      obtain ⟨zc, hz1, hz2⟩ := hzs
      have hsize : ((Array.range (m * 1)).map (zc[· % zc.size]!)).size = m := by simp
      have ha := H.alloc (.ints kd kd.bits (.op .lrep (.lit 0) p 0) el true) (.cells ((Array.range (m * 1)).map (zc[· % zc.size]!)) el) ((Array.range (m * 1)).map (zc[· % zc.size]!)).size
        (fun M' _ => .ints kd kd.bits _ el true _ [] (0, 0) (by rw [hz2, hle]; simp) (by rw [hle]; intro x hx; rw [List.mem_replicate] at hx; rw [hx.2]; exact ⟨Int.le_refl _, Int.pow_pos (by omega)⟩) (fun _ => rfl))
      refine ⟨_, _, _, _, _, ?_, ha.1, ha.2, .slice h.hn (.lit 0) p (some p) 1 w.heap.size ((Array.range (m * 1)).map (zc[· % zc.size]!)).size m (Lay.put_same _ _ _) (Int.le_refl _) (by rw [hn]; omega) (by rw [hn]; omega) (fun t ht => by cases ht; exact hn) ?_, hk⟩
      · have ht1 : ((decide ((m : Int) < 0) || decide ((info.bytes : Int) * (m : Int) > 2 ^ 48))) = false := by
          have h10 : ¬ ((info.bytes : Int) * (m : Int) > 281474976710656) := by omega
          rw [Bool.or_eq_false_iff]
          exact ⟨decide_eq_false (by omega), decide_eq_false h10⟩
        have hai : ∀ n : Int, (asInt (.int .i64 n)).run P w = .ok n w := fun n => by simp [asInt, asIntOf]
        rw [hn]
        simp only [Instr.makeSlice, Sem.run_bind, run_underlying hu, Result.andThen_ok, hai, typeInfo_ok hi, hw, ht1]
        rw [if_neg (by simp only [Bool.false_or, Bool.or_eq_true, decide_eq_true_eq]; omega)]
        simp only [Int.toNat_natCast, Sem.run_bind, run_askRoom, Result.andThen_ok, sizeS_ok hsz]
        rcases hz1 with ⟨h0, rfl⟩ | ⟨h0, rfl⟩
        · rw [if_pos h0]
          simp only [Sem.run_bind, Sem.run_pure, Result.andThen_ok, run_newRow]; rfl
        · rw [if_neg h0]
          simp only [Sem.run_bind, Sem.run_pure, Result.andThen_ok, zeroS_ok hz, run_newRow]; rfl
      · rw [hsize]
        refine ⟨by rw [ev_lit]; simp, fun h => by cases h⟩
  · cases hk

theorem makeSliceS_ok (H : HeapOK e F M h w) {t : TypeId} {len cap : SV} {vl vc : Value} {k : SV → Hs → V} (hk : makeSliceS P h t len cap k = .ok) (hl : VR e M len vl) (hc : VR e M cap vc) :
    Post e F M k ((Instr.makeSlice t vl vc).run P w) := by
  unfold makeSliceS at hk
  split at hk
  · rename_i el p q hel
    cases hs : (T.same p q && longT p) with
    | false => rw [hs] at hk; exact makeSliceB_ok H hk hl hc
    | true =>
      rw [hs] at hk; simp only [cond_true] at hk
      simp only [Bool.and_eq_true] at hs
      have hpq := T.same_eq hs.1
      subst hpq
      unfold intEl at hel
      split at hel
      · rename_i el' hu
        split at hel
        · cases hel; exact makeIntsS_ok H hu hk hl hc
        · cases hel
      · cases hel
  · exact makeSliceB_ok H hk hl hc
end
end Go.Sx

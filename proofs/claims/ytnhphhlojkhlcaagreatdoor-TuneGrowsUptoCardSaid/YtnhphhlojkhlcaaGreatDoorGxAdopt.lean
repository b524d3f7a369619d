/- What a call leaves behind, taken into a memory: a new block of a contract. -/
import Derived.Test.YtnhphhlojkhlcaaGreatDoorGxLoop
namespace Go.Sx
open Go Go.RowKit

section
variable {P : Program} {e : Env} {F : Base} {M : Lay} {h : Hs} {w : World}

/-- A new block that a call left behind. -/
theorem HeapOK.adopt {w' : World} (H : HeapOK e F M h w) (g : Grown w w') {r n : Nat} {o : SObj} (hr : w.heap.size ≤ r) (ho : o.live = true → ∃ x, w'.heap[r]? = some x ∧ ∀ M', M.le M' → OR e M' o x n) :
    M.le (M.put h.hn r n) ∧ HeapOK e F (M.put h.hn r n) (h.alloc o) w' := by
  have hle : M.le (M.put h.hn r n) := Lay.put_le (H.fresh h.hn (Nat.le_refl _))
  have hnone : M h.hn = none := H.fresh h.hn (Nat.le_refl _)
  have Hg := H.grown g
  have hlt : ∀ i o', h.hp.get i = some o' → o'.live = true → i ≠ h.hn := by
    intro i o' hi hl he
    subst he
    obtain ⟨r, n', x', h1, _⟩ := H.live _ o' hi hl
    rw [hnone] at h1; cases h1
  have hget : ∀ i, (h.alloc o).hp.get i = if h.hn = i then some o else h.hp.get i := fun i => Tr.get_set _ _ _ _
  refine ⟨hle, ⟨?_, ?_, ?_, H.fact, ?_, Nat.le_succ_of_le H.n0, H.cn0, H.cng, H.ng, ?_, ?_, ?_, Hg.frame⟩⟩
  · intro i o' hi hl
    rw [hget] at hi
    split at hi
    · rename_i he; subst he; cases hi
      obtain ⟨x, hx, hox⟩ := ho hl
      exact ⟨r, n, x, Lay.put_same _ _ _, hx, hox _ hle⟩
    · obtain ⟨r', n', x', h1, h2, h3⟩ := Hg.live i o' hi hl
      exact ⟨r', n', x', hle _ _ h1, h2, h3.mono hle⟩
  · intro i j oi oj ri rj ni nj hi hli hj hlj hwr hMi hMj hrr
    rw [hget] at hi hj
    split at hi
    · rename_i hei
      split at hj
      · rename_i hej; omega
      · subst hei
        rw [Lay.put_same] at hMi; cases hMi
        rw [Lay.put_other (hlt j oj hj hlj)] at hMj
        have := H.block_lt hj hlj hMj
        omega
    · split at hj
      · rename_i hej; subst hej
        rw [Lay.put_same] at hMj; cases hMj
        rw [Lay.put_other (hlt i oi hi hli)] at hMi
        have := H.block_lt hi hli hMi
        omega
      · rw [Lay.put_other (hlt i oi hi hli)] at hMi
        rw [Lay.put_other (hlt j oj hj hlj)] at hMj
        exact H.inj i j oi oj ri rj ni nj hi hli hj hlj hwr hMi hMj hrr
  · intro i hi
    have : h.hn + 1 ≤ i := hi
    rw [Lay.put_other (by omega)]
    exact H.fresh i (by omega)
  · intro i hi
    have := H.n0
    rw [Lay.put_other (by omega)]
    exact H.old i hi
  · intro i o' r' n' hi hl hin hM
    rw [hget] at hi
    split at hi
    · rename_i he; subst he
      rw [Lay.put_same] at hM; cases hM
      exact Nat.le_trans H.frame.size hr
    · rw [Lay.put_other (hlt i o' hi hl)] at hM
      exact H.new i o' r' n' hi hl hin hM
  · intro i o' hi hw hin
    rw [hget] at hi
    split at hi
    · rename_i he
      have := H.n0
      omega
    · exact H.wr i o' hi hw hin
  · intro i r' n' hi hM
    have := H.n0
    have := H.ng
    rw [Lay.put_other (by omega)] at hM
    exact H.glob i r' n' hi hM

/-! ## A call without places that answers a new row of a known length -/

/-- It answers a row of n cells of size z, new. -/
def finRow (n z : Nat) (r : FR) (h : Hs) : V := match r with
  | .ret u => match u with
    | .slice b (.lit (.ofNat 0)) (.lit (.ofNat m)) _ z' => match h.hp.get b with
      | some (.row _ _ _) => bif Nat.beq m n && Nat.beq z z' then .ok else .bad 4 [u]
      | _ => .bad 5 [u]
    | u => .bad 6 [u]
  | .pan u => .bad 3 [u]

/-- What it answers: nothing is said of the cells. -/
def rowS (args0 : List SV) (n z : Nat) : CF → List SV → Hs → (FR → Hs → V) → V := fun _ args h k =>
  bif sames (SV.same 6) args args0 then k (.ret (.slice h.hn (.lit 0) (.lit (.ofNat n)) none z)) (h.alloc .dead) else .bad 524 args

theorem rowS_ok {F : Base} {f : FuncId} {args0 : List SV} {n z : Nat} (hm : P.follows .mixedOrders = true) {ext : FuncId → List SV → Option SV} (hext : ∀ e, ExtOK P e ext) {rounds depth : Nat}
    (hp : args0.all (plainS 6) = true) (hrun : callN P ext (fun _ => none) (fun _ _ => none) rounds depth f args0 h0 (finRow n z) = .ok) (cf : CF) (e : Env) :
    CallOK P e F (fun g args h k => if g = f then rowS args0 n z cf args h k else .bad 65 []) := by
  intro M h w g args vs k hk H hargs
  simp only at hk
  split at hk
  · rename_i hg
    subst hg
    unfold rowS at hk
    cases hs : sames (SV.same 6) args args0 with
    | false => rw [hs] at hk; cases hk
    | true =>
      rw [hs] at hk; simp only [cond_true] at hk
      have := sames_eq hs
      subst this
      have hargs' : VRs e (fun _ => none) args vs.toList := plains_ok (plain_ok 6) _ _ hp hargs
      have hcall := callN_ok (P := P) (F := base0 w) hm hext (sums := fun _ => none) (loops := fun _ _ => none) (e0 := e) no_sums rounds depth e (Env.near_refl e) _ h0 w g _ vs _ hrun heap0 hargs'
      refine Calls.mono hcall ?_
      rintro en w' ⟨M', h', r, _, H', hrel, hfin⟩
      have hgr := left_of H' rfl (fun _ => rfl)
      cases hrel with
      | pan u x hx => cases hfin
      | ret u x hx =>
        simp only [finRow] at hfin
        split at hfin
        · rename_i b m cap z'
          split at hfin
          · rename_i cs el wr hb
            cases hc : (Nat.beq m n && Nat.beq z z') with
            | false => rw [hc] at hfin; cases hfin
            | true =>
              simp only [Bool.and_eq_true] at hc
              have e1 := Nat.eq_of_beq_eq_true hc.1
              have e2 := Nat.eq_of_beq_eq_true hc.2
              subst e1 e2
              cases hx with
              | slice _ _ _ _ _ r nn c k1 k2 k3 k4 k5 k6 =>
                have hr : w.heap.size ≤ r := H'.new b _ r nn hb rfl (Nat.zero_le _) k1
                obtain ⟨a1, a2⟩ := H.adopt hgr (r := r) (n := c * z) (o := .dead) hr (fun hl => by cases hl)
                have hv : VR e (M.put h.hn r (c * z)) (.slice h.hn (.lit 0) (.lit (.ofNat m)) none z) (.slice (some ⟨r, ((T.lit (.ofNat 0)).ev e).toNat, none⟩) ((T.lit (.ofNat m)).ev e).toNat c) := by
                  have := VR.slice (e := e) (M := M.put h.hn r (c * z)) h.hn (.lit 0) (.lit (.ofNat m)) none z r (c * z) c (Lay.put_same _ _ _) (Int.le_refl _) k3 k4 (fun t ht => by cases ht) ⟨by rw [ev_lit]; simp, fun _ => by rw [ev_lit]; simp⟩
                  exact this
                exact ⟨_, _, _, a1, a2, .ret _ _ hv, hk⟩
          · cases hfin
        · cases hfin
  · cases hk

end
end Go.Sx

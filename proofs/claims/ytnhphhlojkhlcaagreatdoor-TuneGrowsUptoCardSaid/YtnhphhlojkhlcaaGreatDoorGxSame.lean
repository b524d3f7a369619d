/- Values that are surely one. -/
import Derived.Test.YtnhphhlojkhlcaaGreatDoorGxExec
namespace Go.Sx
open Go Go.RowKit

def sames (f : SV → SV → Bool) : List SV → List SV → Bool
  | [], [] => true
  | x :: l, y :: r => f x y && sames f l r
  | _, _ => false

/-- Are two values surely one? -/
def SV.same : Nat → SV → SV → Bool
  | 0, _, _ => false
  | n + 1, a, b =>
    match a, b with
    | .int k p, .int k' q => decide (k = k') && T.same p q
    | .bool p, .bool q => T.same p q
    | .str l, .str l' => seq l l'
    | .nilp, .nilp => true
    | .ptr b o, .ptr b' o' => Nat.beq b b' && T.same o o'
    | .nils, .nils => true
    | .slice b o l c z, .slice b' o' l' c' z' => Nat.beq b b' && T.same o o' && T.same l l' && Nat.beq z z' && Nat.blt 0 z && (match c, c' with
      | none, none => true
      | some x, some y => T.same x y
      | _, _ => false)
    | .nslice b o l c z nl, .nslice b' o' l' c' z' nl' => Nat.beq b b' && T.same o o' && T.same l l' && T.same c c' && Nat.beq z z' && T.same nl nl'
    | .nilm, .nilm => true
    | .map b, .map b' => Nat.beq b b'
    | .fn f x y, .fn f' x' y' => Nat.beq f f' && sames (SV.same n) x x' && sames (SV.same n) y y'
    | .nilf, .nilf => true
    | .iface t v, .iface t' v' => Nat.beq t t' && SV.same n v v'
    | .nili, .nili => true
    | .agg l, .agg l' => sames (SV.same n) l l'
    | .tup l, .tup l' => sames (SV.same n) l l'
    | _, _ => false

section
variable {e : Env} {M : Lay}

theorem sames_ok {f : SV → SV → Bool} (ih : ∀ {a b : SV} {x y : Value}, f a b = true → VR e M a x → VR e M b y → x = y) : ∀ {l r : List SV} {xs ys : List Value}, sames f l r = true → VRs e M l xs → VRs e M r ys → xs = ys := by
  intro l
  induction l with
  | nil =>
    intro r xs ys h hx hy
    cases r with
    | nil => cases hx; cases hy; rfl
    | cons y r => cases h
  | cons a l ihl =>
    intro r xs ys h hx hy
    cases r with
    | nil => cases h
    | cons b r =>
      simp only [sames, Bool.and_eq_true] at h
      cases hx with
      | cons _ x _ xs h1 h2 => cases hy with
        | cons _ y _ ys h3 h4 => rw [ih h.1 h1 h3, ihl h.2 h2 h4]

theorem same_ok : ∀ (n : Nat) {a b : SV} {x y : Value}, SV.same n a b = true → VR e M a x → VR e M b y → x = y := by
  intro n
  induction n with
  | zero => intro a b x y h; cases h
  | succ n ih =>
    intro a b x y h hx hy
    have hl := @sames_ok e M (SV.same n) (fun {a b x y} => ih)
    unfold SV.same at h
    split at h
    · simp only [Bool.and_eq_true, decide_eq_true_eq] at h
      obtain ⟨rfl, h⟩ := h
      rw [← T.same_eq h] at hy
      cases hx; cases hy; rfl
    · rw [← T.same_eq h] at hy
      cases hx with
      | bool p b hb => cases hy with
        | bool _ b' hb' =>
          rw [hb] at hb'
          cases b <;> cases b' <;> first | rfl | (simp [bint] at hb')
    · rw [seq_iff.1 h] at hx; cases hx; cases hy; rfl
    · cases hx; cases hy; rfl
    · simp only [Bool.and_eq_true] at h
      rw [← Nat.eq_of_beq_eq_true h.1, ← T.same_eq h.2] at hy
      cases hx with
      | ptr _ _ r n h1 h2 => cases hy with
        | ptr _ _ r' n' h1' h2' => rw [h1] at h1'; cases h1'; rfl
    · cases hx; cases hy; rfl
    · simp only [Bool.and_eq_true] at h
      obtain ⟨⟨⟨⟨⟨e1, e2⟩, e3⟩, e4⟩, e5⟩, e6⟩ := h
      rw [← Nat.eq_of_beq_eq_true e1, ← T.same_eq e2, ← T.same_eq e3, ← Nat.eq_of_beq_eq_true e4] at hy
      cases hx with
      | slice _ _ _ _ _ r n c h1 h2 h3 h4 h5 h6 => cases hy with
        | slice _ _ _ _ _ r' n' c' h1' h2' h3' h4' h5' h6' =>
          rw [h1] at h1'; cases h1'
          have : c = c' := by
            split at e6
            · have g1 := h6.2 rfl
              have g2 := h6'.2 rfl
              have g3 := Nat.add_left_cancel (g1.trans g2.symm)
              exact Nat.eq_of_mul_eq_mul_right (by simpa [Nat.blt_eq] using e5) g3
            · rename_i u v
              have g1 := h5 _ rfl
              have g2 := h5' _ rfl
              rw [T.same_eq e6] at g1
              omega
            · cases e6
          subst this; rfl
    · simp only [Bool.and_eq_true] at h
      obtain ⟨⟨⟨⟨⟨e1, e2⟩, e3⟩, e4⟩, e5⟩, e6⟩ := h
      rw [← Nat.eq_of_beq_eq_true e1, ← T.same_eq e2, ← T.same_eq e3, ← T.same_eq e4, ← Nat.eq_of_beq_eq_true e5, ← T.same_eq e6] at hy
      cases hx with
      | nsome _ _ _ _ _ _ r n c h0 h1 h2 h3 h4 h5 h6 => cases hy with
        | nsome _ _ _ _ _ _ r' n' c' h0' h1' h2' h3' h4' h5' h6' =>
          rw [h1] at h1'; cases h1'
          have : c = c' := by omega
          subst this; rfl
        | nnone _ _ _ _ _ _ h0' h1' h2' => omega
      | nnone _ _ _ _ _ _ h0 h1 h2 => cases hy with
        | nsome _ _ _ _ _ _ r' n' c' h0' h1' h2' h3' h4' h5' h6' => omega
        | nnone _ _ _ _ _ _ h0' h1' h2' => rfl
    · cases hx; cases hy; rfl
    · rw [← Nat.eq_of_beq_eq_true h] at hy
      cases hx with
      | map _ r n h1 => cases hy with
        | map _ r' n' h1' => rw [h1] at h1'; cases h1'; rfl
    · simp only [Bool.and_eq_true] at h
      rw [← Nat.eq_of_beq_eq_true h.1.1] at hy
      cases hx with
      | fn _ _ _ u v h1 h2 => cases hy with
        | fn _ _ _ u' v' h1' h2' =>
          have g1 := hl h.1.2 h1 h1'
          have g2 := hl h.2 h2 h2'
          rw [Array.toList_inj.1 g1, Array.toList_inj.1 g2]
    · cases hx; cases hy; rfl
    · simp only [Bool.and_eq_true] at h
      rw [← Nat.eq_of_beq_eq_true h.1] at hy
      cases hx with
      | iface _ _ u h1 => cases hy with
        | iface _ _ u' h1' => rw [ih h.2 h1 h1']
    · cases hx; cases hy; rfl
    · cases hx with
      | agg _ u h1 => cases hy with
        | agg _ u' h1' => rw [Array.toList_inj.1 (hl h h1 h1')]
    · cases hx with
      | tup _ u h1 => cases hy with
        | tup _ u' h1' => rw [Array.toList_inj.1 (hl h h1 h1')]
    · cases h
end

end Go.Sx

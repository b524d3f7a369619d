/- TuneRuns as a call. Nothing is claimed here beyond the call. -/
import Derived.Test.YtnhphhlojkhlcaaGreatDoorMemC
import Derived.Test.YtnhphhlojkhlcaaGreatDoorOfA
import Derived.Test.YtnhphhlojkhlcaaGreatDoorOfB0
import Derived.Test.YtnhphhlojkhlcaaGreatDoorOfB1
import Derived.Test.YtnhphhlojkhlcaaGreatDoorRunR0
import Derived.Test.YtnhphhlojkhlcaaGreatDoorRunR1
import Derived.Test.YtnhphhlojkhlcaaGreatDoorRunR2
import Derived.Test.YtnhphhlojkhlcaaGreatDoorRunR3
import Derived.Test.YtnhphhlojkhlcaaGreatDoorRunR4
import Derived.Test.YtnhphhlojkhlcaaGreatDoorRunR5
import Derived.Test.YtnhphhlojkhlcaaGreatDoorRunR6
import Derived.Test.YtnhphhlojkhlcaaGreatDoorRunR7
import Derived.Test.YtnhphhlojkhlcaaGreatDoorRunR8
import Derived.Test.YtnhphhlojkhlcaaGreatDoorRunR9
import Derived.Test.YtnhphhlojkhlcaaGreatDoorRunR10
import Derived.Test.YtnhphhlojkhlcaaGreatDoorRunR11
import Derived.Test.YtnhphhlojkhlcaaGreatDoorRunR12
import Derived.Test.YtnhphhlojkhlcaaGreatDoorRunR13
namespace Go.Proofs.YtnhphhlojkhlcaaGreatDoor
open Go Go.Sx Go.RowKit

/-! ## What is known of the functions -/

theorem byTbl_at {f lo n c : Nat} {v : SV} (h : byTbl f lo n = true) (h1 : lo ≤ c) (h2 : c < lo + n) (hv : noteTbl c = some v) :
    plainS 6 v = true ∧ callN Tryz.prog ext (fun _ => none) (fun _ _ => none) 600 60 f [.int .u8 (.lit (c : Int))] h0 (finIs v) = .ok := by
  have := List.all_eq_true.1 h c (List.mem_range'_1.2 ⟨h1, h2⟩)
  rw [hv] at this
  simp only [Bool.and_eq_true] at this
  exact ⟨this.1, isOk_eq this.2⟩

theorem noteL_length : noteL.length = 256 := by kernel_rfl
theorem noteTbl_lt {c : Nat} {v : SV} (h : noteTbl c = some v) : c < 256 := by
  unfold noteTbl at h
  split at h
  · rename_i hx; rw [← noteL_length]; exact (List.getElem?_eq_some_iff.1 hx).1
  · cases h

theorem of_run {f : Nat} (h0' : kByTbl f 0 64 = true) (h1 : kByTbl f 64 64 = true) (h2 : kByTbl f 128 64 = true) (h3 : kByTbl f 192 64 = true) (c : Nat) (v : SV) (hv : noteTbl c = some v) :
    plainS 6 v = true ∧ callN Tryz.prog ext (fun _ => none) (fun _ _ => none) 600 60 f [.int .u8 (.lit (c : Int))] h0 (finIs v) = .ok := by
  rw [← kByTbl_eq] at h0' h1 h2 h3
  have hc := noteTbl_lt hv
  by_cases g1 : c < 64
  · exact byTbl_at h0' (by omega) (by omega) hv
  · by_cases g2 : c < 128
    · exact byTbl_at h1 (by omega) (by omega) hv
    · by_cases g3 : c < 192
      · exact byTbl_at h2 (by omega) (by omega) hv
      · exact byTbl_at h3 (by omega) (by omega) hv

/-! ## memory's answer -/

/-- The symbols' numbers are those of a slice of cells. -/
def cellEnv (e : Env) : Value → Prop
  | .slice none _ _ => e.ρ 63 = 1 ∧ e.ρ 62 = 0 ∧ e.ρ 61 = 0
  | .slice (some a) n c => e.ρ 63 = 0 ∧ e.ρ 62 = (n : Int) ∧ e.ρ 61 = (c : Int) ∧ (e.l 3).length = a.off
  | _ => False

theorem cellEnv.near {e0 e : Env} (h : e0.near e) {v : Value} (hc : cellEnv e0 v) : cellEnv e v := by
  unfold cellEnv at hc ⊢
  split at hc
  · exact ⟨by rw [h.2.2 63 (by omega)]; exact hc.1, by rw [h.2.2 62 (by omega)]; exact hc.2.1, by rw [h.2.2 61 (by omega)]; exact hc.2.2⟩
  · exact ⟨by rw [h.2.2 63 (by omega)]; exact hc.1, by rw [h.2.2 62 (by omega)]; exact hc.2.1, by rw [h.2.2 61 (by omega)]; exact hc.2.2.1, by rw [h.1]; exact hc.2.2.2⟩
  · exact hc.elim

theorem off_ev {e : Env} {n : Nat} (h : (e.l 3).length = n) : (lenT (lvk 3)).ev e = (n : Int) := by
  unfold lenT
  show 1 * (((e.l 3).length : Int) * 1) + 0 = _
  rw [h]; omega

theorem cells_vr {e : Env} {M : Lay} {w : World} {v : Value} {C : List Int} {n : Nat} (hv : Cells w v C n) (he : cellEnv e v) (hM : M 0 = memM0 v) : VR e M cellsS v := by
  have hb : big = 9223372036854775807 := rfl
  cases hv with
  | none =>
    obtain ⟨e1, e2, e3⟩ := he
    exact .nnone 0 _ _ _ 2 _ (vr_id e1 (by omega) (by omega)) (vr_id e2 (by omega) (by omega)) (vr_id e3 (by omega) (by omega))
  | empty r off =>
    obtain ⟨e1, e2, e3, e4⟩ := he
    have ho := off_ev e4
    have hn : (vr 62 0 big).ev e = 0 := vr_id e2 (by omega) (by omega)
    have := VR.nsome (e := e) (M := M) 0 (lenT (lvk 3)) (vr 62 0 big) (vr 61 0 big) 2 (vr 63 0 1) r (off + 0 * 2) 0 (vr_id e1 (by omega) (by omega)) hM (by rw [ho]; omega) (by rw [hn]; omega) (by rw [hn]; simp) (vr_id e3 (by omega) (by omega)) (by rw [ho]; simp)
    rw [ho, hn] at this
    exact this
  | some r off n c arr el fr C k1 k2 k3 k4 k5 k6 =>
    obtain ⟨e1, e2, e3, e4⟩ := he
    have hr : reach = 140737488355328 := rfl
    have ho := off_ev e4
    have hn : (vr 62 0 big).ev e = (n : Int) := vr_id e2 (by omega) (by omega)
    have := VR.nsome (e := e) (M := M) 0 (lenT (lvk 3)) (vr 62 0 big) (vr 61 0 big) 2 (vr 63 0 1) r (off + c * 2) c (vr_id e1 (by omega) (by omega)) hM (by rw [ho]; omega) (by rw [hn]; omega) (by rw [hn]; omega) (vr_id e3 (by omega) (by omega)) (by rw [ho]; simp)
    rw [ho, hn] at this
    exact this

theorem lit_cap {e : Env} {n : Int} {c : Nat} (h : n = (c : Int)) : ∀ t, some (T.lit n) = some t → t.ev e = (c : Int) := by
  intro t ht; cases ht; rw [ev_lit]; exact h

set_option maxRecDepth 100000 in
theorem memC_ok {w : World} {v : Value} {C : List Int} {n : Nat} {b : Int} (hv : Cells w v C n) (h0 : 0 ≤ b) (h1 : b ≤ 255) {e : Env} (hb : e.ρ 50 = b) (hl : e.l 2 = memIs b C n) (he : cellEnv e v) (cf : CF) :
    CallOK Tryz.prog e (base1 w (memM0 v)) (fun g args h k => if g = 9 then memC cf args h k else .bad 65 []) := by
  intro M h w2 g args vs k hk H hargs
  simp only at hk
  split at hk
  · rename_i hg
    subst hg
    unfold memC at hk
    cases hs : sames (SV.same 6) args [cellsS, .int .u8 (vr 50 0 255)] with
    | false => rw [hs] at hk; cases hk
    | true =>
      rw [hs] at hk; simp only [cond_true] at hk
      have := sames_eq hs
      subst this
      have hM0 : M 0 = memM0 v := H.old 0 (Nat.zero_lt_one)
      have hvs : vs = #[v, .int .u8 b] := by
        obtain ⟨vs⟩ := vs
        cases hargs with
        | cons _ x _ r g1 g2 => cases g2 with
          | cons _ y _ r g2 g3 =>
            cases g3
            have e1 : x = v := same_ok 6 (by decide) g1 (cells_vr hv he hM0)
            cases g2
            subst e1
            rw [vr_id hb h0 h1]
      subst hvs
      have hv2 : Cells w2 v C n := hv.kept (fun k hk' => H.frame.block k hk' (fun i r n' hi hw => by cases hw))
      refine Calls.mono (mem_calls hv2 h0 h1) ?_
      rintro en w3 ⟨hgr, rr, rest, c, rfl, hrr, hblk, hcl, hrange⟩
      have hsz : c.size = 65536 + rest.length := by
        have := congrArg List.length hcl
        simpa [memIs_length] using this
      obtain ⟨a1, a2⟩ := H.adopt hgr (r := rr) (n := c.size) (o := .ints .u8 8 (lvk 2) 5 true) hrr (fun _ => ⟨_, hblk, fun M' _ => by
        have hev : (lvk 2).evl e = memIs b C n := hl
        exact .ints .u8 8 (lvk 2) 5 true c rest (0, 0) (by rw [hev]; exact hcl) (by rw [hev]; exact hrange) (fun _ => rfl)⟩)
      refine ⟨_, _, _, a1, a2, .ret _ _ ?_, hk⟩
      have := VR.slice (e := e) (M := M.put h.hn rr c.size) h.hn (.lit 0) (.lit 65536) (some (.lit 65536)) 1 rr c.size 65536 (Lay.put_same _ _ _) (by rewrite [ev_lit]; omega) (by rewrite [ev_lit]; omega) (by rewrite [ev_lit]; omega) (lit_cap (n := 65536) (c := 65536) (by omega)) ⟨by rewrite [ev_lit, hsz]; simp, fun h => by cases h⟩
      simp only [ev_lit] at this
      exact this
  · cases hk

theorem runSums_ok {w : World} {v : Value} {C : List Int} {n : Nat} {b : Int} (hv : Cells w v C n) (h0 : 0 ≤ b) (h1 : b ≤ 255) {e0 : Env} (hb : e0.ρ 50 = b) (hl : e0.l 2 = memIs b C n) (he : cellEnv e0 v) :
    SumsOK Tryz.prog (base1 w (memM0 v)) e0 runSums := by
  intro f sm h cf _ e hne
  unfold runSums at h
  cases h9 : Nat.beq f 9 with
  | true =>
    rw [h9] at h
    have := Nat.eq_of_beq_eq_true h9
    subst this; cases h
    exact memC_ok hv h0 h1 (by rw [hne.2.2 50 (by omega)]; exact hb) (by rw [hne.1]; exact hl) (cellEnv.near hne he) cf
  | false =>
    rw [h9] at h; simp only [cond_false] at h
    cases h49 : Nat.beq f 49 with
    | true =>
      rw [h49] at h
      have := Nat.eq_of_beq_eq_true h49
      subst this; cases h
      exact oneS_ok mixed ext_ok (fun c v hv => of_run ofA0 ofA1 ofA2 ofA3 c v hv) cf e
    | false =>
      rw [h49] at h; simp only [cond_false] at h
      cases h21 : Nat.beq f 21 with
      | true =>
        rw [h21] at h
        have := Nat.eq_of_beq_eq_true h21
        subst this; cases h
        exact oneS_ok mixed ext_ok (fun c v hv => of_run ofB0 ofB1 ofB2 ofB3 c v hv) cf e
      | false => rw [h21] at h; cases h

/-! ## The law -/

/-- It runs at a code, or at both page flags. -/
def RunsAt (c : Nat) : Prop := runAt c = .ok ∨ (runAtP c 0 = .ok ∧ runAtP c 1 = .ok)
theorem runs_0 (c : Nat) (h1 : 0 ≤ c) (h2 : c < 16) : RunsAt c := by
  have h : c = 0 ∨ c = 1 ∨ c = 2 ∨ c = 3 ∨ c = 4 ∨ c = 5 ∨ c = 6 ∨ c = 7 ∨ c = 8 ∨ c = 9 ∨ c = 10 ∨ c = 11 ∨ c = 12 ∨ c = 13 ∨ c = 14 ∨ c = 15 := by omega
  rcases h with rfl | rfl | rfl | rfl | rfl | rfl | rfl | rfl | rfl | rfl | rfl | rfl | rfl | rfl | rfl | rfl
  · exact .inl run0
  · exact .inl run1
  · exact .inl run2
  · exact .inl run3
  · exact .inl run4
  · exact .inl run5
  · exact .inl run6
  · exact .inl run7
  · exact .inl run8
  · exact .inl run9
  · exact .inl run10
  · exact .inl run11
  · exact .inl run12
  · exact .inl run13
  · exact .inl run14
  · exact .inl run15
theorem runs_1 (c : Nat) (h1 : 16 ≤ c) (h2 : c < 32) : RunsAt c := by
  have h : c = 16 ∨ c = 17 ∨ c = 18 ∨ c = 19 ∨ c = 20 ∨ c = 21 ∨ c = 22 ∨ c = 23 ∨ c = 24 ∨ c = 25 ∨ c = 26 ∨ c = 27 ∨ c = 28 ∨ c = 29 ∨ c = 30 ∨ c = 31 := by omega
  rcases h with rfl | rfl | rfl | rfl | rfl | rfl | rfl | rfl | rfl | rfl | rfl | rfl | rfl | rfl | rfl | rfl
  · exact .inl run16
  · exact .inl run17
  · exact .inl run18
  · exact .inl run19
  · exact .inl run20
  · exact .inl run21
  · exact .inl run22
  · exact .inl run23
  · exact .inl run24
  · exact .inl run25
  · exact .inl run26
  · exact .inl run27
  · exact .inl run28
  · exact .inl run29
  · exact .inl run30
  · exact .inl run31
theorem runs_2 (c : Nat) (h1 : 32 ≤ c) (h2 : c < 48) : RunsAt c := by
  have h : c = 32 ∨ c = 33 ∨ c = 34 ∨ c = 35 ∨ c = 36 ∨ c = 37 ∨ c = 38 ∨ c = 39 ∨ c = 40 ∨ c = 41 ∨ c = 42 ∨ c = 43 ∨ c = 44 ∨ c = 45 ∨ c = 46 ∨ c = 47 := by omega
  rcases h with rfl | rfl | rfl | rfl | rfl | rfl | rfl | rfl | rfl | rfl | rfl | rfl | rfl | rfl | rfl | rfl
  · exact .inl run32
  · exact .inl run33
  · exact .inl run34
  · exact .inl run35
  · exact .inl run36
  · exact .inl run37
  · exact .inl run38
  · exact .inl run39
  · exact .inl run40
  · exact .inl run41
  · exact .inl run42
  · exact .inl run43
  · exact .inl run44
  · exact .inl run45
  · exact .inl run46
  · exact .inl run47
theorem runs_3 (c : Nat) (h1 : 48 ≤ c) (h2 : c < 64) : RunsAt c := by
  have h : c = 48 ∨ c = 49 ∨ c = 50 ∨ c = 51 ∨ c = 52 ∨ c = 53 ∨ c = 54 ∨ c = 55 ∨ c = 56 ∨ c = 57 ∨ c = 58 ∨ c = 59 ∨ c = 60 ∨ c = 61 ∨ c = 62 ∨ c = 63 := by omega
  rcases h with rfl | rfl | rfl | rfl | rfl | rfl | rfl | rfl | rfl | rfl | rfl | rfl | rfl | rfl | rfl | rfl
  · exact .inl run48
  · exact .inl run49
  · exact .inl run50
  · exact .inl run51
  · exact .inl run52
  · exact .inl run53
  · exact .inl run54
  · exact .inl run55
  · exact .inl run56
  · exact .inl run57
  · exact .inl run58
  · exact .inl run59
  · exact .inl run60
  · exact .inl run61
  · exact .inl run62
  · exact .inl run63
theorem runs_4 (c : Nat) (h1 : 64 ≤ c) (h2 : c < 80) : RunsAt c := by
  have h : c = 64 ∨ c = 65 ∨ c = 66 ∨ c = 67 ∨ c = 68 ∨ c = 69 ∨ c = 70 ∨ c = 71 ∨ c = 72 ∨ c = 73 ∨ c = 74 ∨ c = 75 ∨ c = 76 ∨ c = 77 ∨ c = 78 ∨ c = 79 := by omega
  rcases h with rfl | rfl | rfl | rfl | rfl | rfl | rfl | rfl | rfl | rfl | rfl | rfl | rfl | rfl | rfl | rfl
  · exact .inl run64
  · exact .inl run65
  · exact .inl run66
  · exact .inl run67
  · exact .inl run68
  · exact .inl run69
  · exact .inl run70
  · exact .inl run71
  · exact .inl run72
  · exact .inl run73
  · exact .inl run74
  · exact .inl run75
  · exact .inl run76
  · exact .inl run77
  · exact .inl run78
  · exact .inl run79
theorem runs_5 (c : Nat) (h1 : 80 ≤ c) (h2 : c < 96) : RunsAt c := by
  have h : c = 80 ∨ c = 81 ∨ c = 82 ∨ c = 83 ∨ c = 84 ∨ c = 85 ∨ c = 86 ∨ c = 87 ∨ c = 88 ∨ c = 89 ∨ c = 90 ∨ c = 91 ∨ c = 92 ∨ c = 93 ∨ c = 94 ∨ c = 95 := by omega
  rcases h with rfl | rfl | rfl | rfl | rfl | rfl | rfl | rfl | rfl | rfl | rfl | rfl | rfl | rfl | rfl | rfl
  · exact .inl run80
  · exact .inl run81
  · exact .inl run82
  · exact .inl run83
  · exact .inl run84
  · exact .inl run85
  · exact .inl run86
  · exact .inl run87
  · exact .inl run88
  · exact .inl run89
  · exact .inl run90
  · exact .inl run91
  · exact .inl run92
  · exact .inl run93
  · exact .inl run94
  · exact .inl run95
theorem runs_6 (c : Nat) (h1 : 96 ≤ c) (h2 : c < 112) : RunsAt c := by
  have h : c = 96 ∨ c = 97 ∨ c = 98 ∨ c = 99 ∨ c = 100 ∨ c = 101 ∨ c = 102 ∨ c = 103 ∨ c = 104 ∨ c = 105 ∨ c = 106 ∨ c = 107 ∨ c = 108 ∨ c = 109 ∨ c = 110 ∨ c = 111 := by omega
  rcases h with rfl | rfl | rfl | rfl | rfl | rfl | rfl | rfl | rfl | rfl | rfl | rfl | rfl | rfl | rfl | rfl
  · exact .inl run96
  · exact .inl run97
  · exact .inl run98
  · exact .inl run99
  · exact .inl run100
  · exact .inl run101
  · exact .inl run102
  · exact .inl run103
  · exact .inl run104
  · exact .inl run105
  · exact .inl run106
  · exact .inl run107
  · exact .inl run108
  · exact .inl run109
  · exact .inl run110
  · exact .inl run111
theorem runs_7 (c : Nat) (h1 : 112 ≤ c) (h2 : c < 128) : RunsAt c := by
  have h : c = 112 ∨ c = 113 ∨ c = 114 ∨ c = 115 ∨ c = 116 ∨ c = 117 ∨ c = 118 ∨ c = 119 ∨ c = 120 ∨ c = 121 ∨ c = 122 ∨ c = 123 ∨ c = 124 ∨ c = 125 ∨ c = 126 ∨ c = 127 := by omega
  rcases h with rfl | rfl | rfl | rfl | rfl | rfl | rfl | rfl | rfl | rfl | rfl | rfl | rfl | rfl | rfl | rfl
  · exact .inl run112
  · exact .inl run113
  · exact .inl run114
  · exact .inl run115
  · exact .inl run116
  · exact .inl run117
  · exact .inl run118
  · exact .inl run119
  · exact .inl run120
  · exact .inl run121
  · exact .inl run122
  · exact .inl run123
  · exact .inl run124
  · exact .inl run125
  · exact .inl run126
  · exact .inl run127
theorem runs_8 (c : Nat) (h1 : 128 ≤ c) (h2 : c < 144) : RunsAt c := by
  have h : c = 128 ∨ c = 129 ∨ c = 130 ∨ c = 131 ∨ c = 132 ∨ c = 133 ∨ c = 134 ∨ c = 135 ∨ c = 136 ∨ c = 137 ∨ c = 138 ∨ c = 139 ∨ c = 140 ∨ c = 141 ∨ c = 142 ∨ c = 143 := by omega
  rcases h with rfl | rfl | rfl | rfl | rfl | rfl | rfl | rfl | rfl | rfl | rfl | rfl | rfl | rfl | rfl | rfl
  · exact .inl run128
  · exact .inl run129
  · exact .inl run130
  · exact .inl run131
  · exact .inl run132
  · exact .inl run133
  · exact .inl run134
  · exact .inr ⟨run135_0, run135_1⟩
  · exact .inl run136
  · exact .inr ⟨run137_0, run137_1⟩
  · exact .inl run138
  · exact .inl run139
  · exact .inl run140
  · exact .inl run141
  · exact .inl run142
  · exact .inl run143
theorem runs_9 (c : Nat) (h1 : 144 ≤ c) (h2 : c < 160) : RunsAt c := by
  have h : c = 144 ∨ c = 145 ∨ c = 146 ∨ c = 147 ∨ c = 148 ∨ c = 149 ∨ c = 150 ∨ c = 151 ∨ c = 152 ∨ c = 153 ∨ c = 154 ∨ c = 155 ∨ c = 156 ∨ c = 157 ∨ c = 158 ∨ c = 159 := by omega
  rcases h with rfl | rfl | rfl | rfl | rfl | rfl | rfl | rfl | rfl | rfl | rfl | rfl | rfl | rfl | rfl | rfl
  · exact .inl run144
  · exact .inl run145
  · exact .inl run146
  · exact .inl run147
  · exact .inl run148
  · exact .inl run149
  · exact .inl run150
  · exact .inr ⟨run151_0, run151_1⟩
  · exact .inl run152
  · exact .inl run153
  · exact .inl run154
  · exact .inl run155
  · exact .inl run156
  · exact .inl run157
  · exact .inl run158
  · exact .inl run159
theorem runs_10 (c : Nat) (h1 : 160 ≤ c) (h2 : c < 176) : RunsAt c := by
  have h : c = 160 ∨ c = 161 ∨ c = 162 ∨ c = 163 ∨ c = 164 ∨ c = 165 ∨ c = 166 ∨ c = 167 ∨ c = 168 ∨ c = 169 ∨ c = 170 ∨ c = 171 ∨ c = 172 ∨ c = 173 ∨ c = 174 ∨ c = 175 := by omega
  rcases h with rfl | rfl | rfl | rfl | rfl | rfl | rfl | rfl | rfl | rfl | rfl | rfl | rfl | rfl | rfl | rfl
  · exact .inl run160
  · exact .inl run161
  · exact .inl run162
  · exact .inl run163
  · exact .inl run164
  · exact .inl run165
  · exact .inl run166
  · exact .inr ⟨run167_0, run167_1⟩
  · exact .inl run168
  · exact .inr ⟨run169_0, run169_1⟩
  · exact .inl run170
  · exact .inl run171
  · exact .inl run172
  · exact .inl run173
  · exact .inl run174
  · exact .inl run175
theorem runs_11 (c : Nat) (h1 : 176 ≤ c) (h2 : c < 192) : RunsAt c := by
  have h : c = 176 ∨ c = 177 ∨ c = 178 ∨ c = 179 ∨ c = 180 ∨ c = 181 ∨ c = 182 ∨ c = 183 ∨ c = 184 ∨ c = 185 ∨ c = 186 ∨ c = 187 ∨ c = 188 ∨ c = 189 ∨ c = 190 ∨ c = 191 := by omega
  rcases h with rfl | rfl | rfl | rfl | rfl | rfl | rfl | rfl | rfl | rfl | rfl | rfl | rfl | rfl | rfl | rfl
  · exact .inl run176
  · exact .inl run177
  · exact .inl run178
  · exact .inl run179
  · exact .inl run180
  · exact .inl run181
  · exact .inl run182
  · exact .inr ⟨run183_0, run183_1⟩
  · exact .inl run184
  · exact .inl run185
  · exact .inl run186
  · exact .inl run187
  · exact .inl run188
  · exact .inl run189
  · exact .inl run190
  · exact .inl run191
theorem runs_12 (c : Nat) (h1 : 192 ≤ c) (h2 : c < 208) : RunsAt c := by
  have h : c = 192 ∨ c = 193 ∨ c = 194 ∨ c = 195 ∨ c = 196 ∨ c = 197 ∨ c = 198 ∨ c = 199 ∨ c = 200 ∨ c = 201 ∨ c = 202 ∨ c = 203 ∨ c = 204 ∨ c = 205 ∨ c = 206 ∨ c = 207 := by omega
  rcases h with rfl | rfl | rfl | rfl | rfl | rfl | rfl | rfl | rfl | rfl | rfl | rfl | rfl | rfl | rfl | rfl
  · exact .inl run192
  · exact .inl run193
  · exact .inl run194
  · exact .inl run195
  · exact .inl run196
  · exact .inl run197
  · exact .inl run198
  · exact .inl run199
  · exact .inl run200
  · exact .inl run201
  · exact .inl run202
  · exact .inl run203
  · exact .inl run204
  · exact .inl run205
  · exact .inl run206
  · exact .inl run207
theorem runs_13 (c : Nat) (h1 : 208 ≤ c) (h2 : c < 224) : RunsAt c := by
  have h : c = 208 ∨ c = 209 ∨ c = 210 ∨ c = 211 ∨ c = 212 ∨ c = 213 ∨ c = 214 ∨ c = 215 ∨ c = 216 ∨ c = 217 ∨ c = 218 ∨ c = 219 ∨ c = 220 ∨ c = 221 ∨ c = 222 ∨ c = 223 := by omega
  rcases h with rfl | rfl | rfl | rfl | rfl | rfl | rfl | rfl | rfl | rfl | rfl | rfl | rfl | rfl | rfl | rfl
  · exact .inl run208
  · exact .inl run209
  · exact .inl run210
  · exact .inl run211
  · exact .inl run212
  · exact .inl run213
  · exact .inl run214
  · exact .inl run215
  · exact .inl run216
  · exact .inl run217
  · exact .inl run218
  · exact .inl run219
  · exact .inl run220
  · exact .inl run221
  · exact .inl run222
  · exact .inl run223
theorem runs_14 (c : Nat) (h1 : 224 ≤ c) (h2 : c < 240) : RunsAt c := by
  have h : c = 224 ∨ c = 225 ∨ c = 226 ∨ c = 227 ∨ c = 228 ∨ c = 229 ∨ c = 230 ∨ c = 231 ∨ c = 232 ∨ c = 233 ∨ c = 234 ∨ c = 235 ∨ c = 236 ∨ c = 237 ∨ c = 238 ∨ c = 239 := by omega
  rcases h with rfl | rfl | rfl | rfl | rfl | rfl | rfl | rfl | rfl | rfl | rfl | rfl | rfl | rfl | rfl | rfl
  · exact .inl run224
  · exact .inl run225
  · exact .inl run226
  · exact .inl run227
  · exact .inl run228
  · exact .inl run229
  · exact .inl run230
  · exact .inl run231
  · exact .inl run232
  · exact .inl run233
  · exact .inl run234
  · exact .inl run235
  · exact .inl run236
  · exact .inl run237
  · exact .inl run238
  · exact .inl run239
theorem runs_15 (c : Nat) (h1 : 240 ≤ c) (h2 : c < 256) : RunsAt c := by
  have h : c = 240 ∨ c = 241 ∨ c = 242 ∨ c = 243 ∨ c = 244 ∨ c = 245 ∨ c = 246 ∨ c = 247 ∨ c = 248 ∨ c = 249 ∨ c = 250 ∨ c = 251 ∨ c = 252 ∨ c = 253 ∨ c = 254 ∨ c = 255 := by omega
  rcases h with rfl | rfl | rfl | rfl | rfl | rfl | rfl | rfl | rfl | rfl | rfl | rfl | rfl | rfl | rfl | rfl
  · exact .inl run240
  · exact .inl run241
  · exact .inl run242
  · exact .inl run243
  · exact .inl run244
  · exact .inl run245
  · exact .inl run246
  · exact .inl run247
  · exact .inl run248
  · exact .inl run249
  · exact .inl run250
  · exact .inl run251
  · exact .inl run252
  · exact .inl run253
  · exact .inl run254
  · exact .inl run255
theorem run_all (c : Nat) (h : c < 256) : RunsAt c := by
  by_cases g0 : c < 16
  · exact runs_0 c (by omega) g0
  by_cases g1 : c < 32
  · exact runs_1 c (by omega) g1
  by_cases g2 : c < 48
  · exact runs_2 c (by omega) g2
  by_cases g3 : c < 64
  · exact runs_3 c (by omega) g3
  by_cases g4 : c < 80
  · exact runs_4 c (by omega) g4
  by_cases g5 : c < 96
  · exact runs_5 c (by omega) g5
  by_cases g6 : c < 112
  · exact runs_6 c (by omega) g6
  by_cases g7 : c < 128
  · exact runs_7 c (by omega) g7
  by_cases g8 : c < 144
  · exact runs_8 c (by omega) g8
  by_cases g9 : c < 160
  · exact runs_9 c (by omega) g9
  by_cases g10 : c < 176
  · exact runs_10 c (by omega) g10
  by_cases g11 : c < 192
  · exact runs_11 c (by omega) g11
  by_cases g12 : c < 208
  · exact runs_12 c (by omega) g12
  by_cases g13 : c < 224
  · exact runs_13 c (by omega) g13
  by_cases g14 : c < 240
  · exact runs_14 c (by omega) g14
  · exact runs_15 c (by omega) h

/-- Registers whose halt is told. -/
theorem pegL_vr {e : Env} {M : Lay} {q : Peg} (hq : q.ok) (he : q.env e.ρ) {halt : T} (hh : halt.ev e = bint q.h) : VR e M (.agg (pegL halt)) q.val := by
  obtain ⟨h0, h1, h2, h3, h4, h5⟩ := hq
  obtain ⟨e0, e1, e2, e3, e5, e10, e6, b0, b1, b2, b3, b4, b5, b6, b7⟩ := he
  have hp : pswT.ev e = q.p := by
    unfold pswT
    simp only [add_ev, scale_ev]
    rw [vr_id b0 (by omega) (by omega), vr_id b1 (by omega) (by omega), vr_id b2 (by omega) (by omega), vr_id b3 (by omega) (by omega), vr_id b4 (by omega) (by omega), vr_id b5 (by omega) (by omega), vr_id b6 (by omega) (by omega), vr_id b7 (by omega) (by omega)]
    omega
  refine .agg _ _ (.cons _ _ _ _ (int_vr (vr_id e0 h0.1 h0.2)) (.cons _ _ _ _ (int_vr (vr_id e1 h1.1 h1.2)) (.cons _ _ _ _ (int_vr (vr_id e2 h2.1 h2.2)) (.cons _ _ _ _ (int_vr (vr_id e3 h3.1 h3.2))
    (.cons _ _ _ _ (int_vr hp) (.cons _ _ _ _ (int_vr (bytes2_ev e5 e10 h5.1 h5.2)) (.cons _ _ _ _ (.bool _ _ hh) .nil)))))))

def capV : Value → Int
  | .slice _ _ c => (c : Int)
  | _ => 0
def lenV : Value → Int
  | .slice _ n _ => (n : Int)
  | _ => 0
def nilV : Value → Int
  | .slice none _ _ => 1
  | _ => 0
def offV : Value → Nat
  | .slice (some a) _ _ => a.off
  | _ => 0

/-- The symbols' numbers. -/
def lawE (q : Peg) (v : Value) (b : Int) (L : List Int) : Env := ⟨fun i => match i with
    | 0 => q.a | 1 => q.x | 2 => q.y | 3 => q.s | 5 => q.pc % 256 | 10 => q.pc / 256 | 6 => bint q.h | 50 => b | 61 => capV v | 62 => lenV v | 63 => nilV v
    | 100 => q.p % 2 | 101 => q.p / 2 % 2 | 102 => q.p / 4 % 2 | 103 => q.p / 8 % 2 | 104 => q.p / 16 % 2 | 105 => q.p / 32 % 2 | 106 => q.p / 64 % 2 | 107 => q.p / 128 % 2 | _ => 0,
  fun k => if k = 2 then L else if k = 3 then List.replicate (offV v) 0 else [], fun _ _ _ => 0⟩

theorem lawE_peg (q : Peg) (v : Value) (b : Int) (L : List Int) : q.env (lawE q v b L).ρ := ⟨rfl, rfl, rfl, rfl, rfl, rfl, rfl, rfl, rfl, rfl, rfl, rfl, rfl, rfl, rfl⟩
theorem lawE_cells {w : World} {v : Value} {C : List Int} {n : Nat} (hv : Cells w v C n) (q : Peg) (b : Int) (L : List Int) : cellEnv (lawE q v b L) v := by
  cases hv with
  | none => exact ⟨rfl, rfl, rfl⟩
  | empty r off => exact ⟨rfl, rfl, rfl, List.length_replicate⟩
  | some r off n c arr el fr C k1 k2 k3 k4 k5 k6 => exact ⟨rfl, rfl, rfl, List.length_replicate⟩

theorem run_calls (q : Peg) (hq : q.ok) {w : World} {v : Value} {C : List Int} {n : Nat} (hv : Cells w v C n) {b : Int} (h0 : 0 ≤ b) (h1 : b ≤ 255) :
    Calls Tryz.prog 3 #[q.val, v, .int .u8 b] w fun en w' => en = .returned (.bool true) ∧ Go.Sx.Grown w w' := by
  let L := memIs b C n
  let e := lawE q v b L
  have hsum := runSums_ok (e0 := e) hv h0 h1 rfl rfl (lawE_cells hv q b L)
  have hlen : (T.op .len (lvk 2) (.lit 0) 0).ev e = 65536 := by
    show ((L.length : Nat) : Int) = 65536
    rw [show L.length = 65536 from memIs_length b C n]; rfl
  have args : ∀ halt : T, halt.ev e = bint q.h → VRs e (base1 w (memM0 v)).M0 [.agg (pegL halt), cellsS, .int .u8 (vr 50 0 255)] (#[q.val, v, .int .u8 b] : Array Value).toList := fun halt hh =>
    .cons _ _ _ _ (pegL_vr hq (lawE_peg q v b L) hh) (.cons _ _ _ _ (cells_vr hv (lawE_cells hv q b L) rfl) (.cons _ _ _ _ (int_vr (vr_id (i := 50) rfl h0 h1)) .nil))
  cases hh : q.h with
  | true =>
    have hf : Facts.ok e [(.op .len (lvk 2) (.lit 0) 0, 65536, 65536)] := by
      intro x hx
      rcases List.mem_cons.1 hx with rfl | hx
      · simp only [hlen]; omega
      · cases hx
    have hrun := runHalt
    rw [← kRunV_eq] at hrun
    exact calls_true' (F := base1 w (memM0 v)) mixed ext_ok hsum hrun (heap1 hf) rfl (fun _ => rfl) (args (.lit 1) (by rw [ev_lit, hh]; rfl))
  | false =>
    have g0 : 0 ≤ (T.op .rd (lvk 2) pcT 8).ev e := clamp_ge (by decide)
    have g1 : (T.op .rd (lvk 2) pcT 8).ev e ≤ 255 := clamp_le (by decide)
    obtain ⟨c, hc⟩ := Int.eq_ofNat_of_zero_le g0
    have hc' : c < 256 := by omega
    have hf : Facts.ok e (cycF c) := by
      intro x hx
      have hx' : x ∈ [(T.op .rd (lvk 2) pcT 8, (c : Int), (c : Int)), (.op .len (lvk 2) (.lit 0) 0, 65536, 65536)] := hx
      rcases List.mem_cons.1 hx' with rfl | hx'
      · simp only [hc]; omega
      · rcases List.mem_cons.1 hx' with rfl | hx'
        · simp only [hlen]; omega
        · cases hx'
    have har := args (.lit 0) (by rw [ev_lit, hh]; rfl)
    rcases run_all c hc' with hrun | ⟨hr0, hr1⟩
    · unfold runAt at hrun
      rw [← kRunV_eq] at hrun
      exact calls_true' (F := base1 w (memM0 v)) mixed ext_ok hsum hrun (heap1 hf) rfl (fun _ => rfl) har
    · have hbit : (T.var 105 0 1).ev e = q.p / 32 % 2 := by
        show clamp 0 1 (q.p / 32 % 2) = _
        exact clamp_id (by omega) (by omega)
      have hfb : ∀ b' : Int, q.p / 32 % 2 = b' → Facts.ok e ((.var 105 0 1, b', b') :: cycF c) := by
        intro b' hb' x hx
        rcases List.mem_cons.1 hx with rfl | hx
        · simp only [hbit, hb']; omega
        · exact hf x hx
      rcases (show q.p / 32 % 2 = 0 ∨ q.p / 32 % 2 = 1 by omega) with hb' | hb'
      · unfold runAtP at hr0
        rw [← kRunV_eq] at hr0
        exact calls_true' (F := base1 w (memM0 v)) mixed ext_ok hsum hr0 (heap1 (hfb 0 hb')) rfl (fun _ => rfl) har
      · unfold runAtP at hr1
        rw [← kRunV_eq] at hr1
        exact calls_true' (F := base1 w (memM0 v)) mixed ext_ok hsum hr1 (heap1 (hfb 1 hb')) rfl (fun _ => rfl) har
end Go.Proofs.YtnhphhlojkhlcaaGreatDoor

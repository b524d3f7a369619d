/- memory up to its first loop, on symbols. -/
import Derived.Test.YtnhphhlojkhlcaaGreatDoorMemLaw
namespace Go.Proofs.YtnhphhlojkhlcaaGreatDoor
open Go Go.Sx Go.RowKit

theorem pre_run (a0 a1 : SV) (h : Hs) (k : X → St → V) : execC Tryz.prog noCalls 0 mPre ⟨slots [a0, a1] 0 .e, 41, h, []⟩ k = k .normal ⟨(slots [a0, a1] 0 .e).set (some .nils) 4, 41, h, []⟩ := by kernel_rfl
def tmPre (a0 a1 : SV) : Tr SV := (slots [a0, a1] 0 .e).set (some .nils) 4
def newS (h : Hs) : SV := .slice h.hn (.lit 0) (.lit 65536) (some (.lit 65536)) 1
theorem make_run (a0 a1 : SV) (h : Hs) (k : X → St → V) : execC Tryz.prog noCalls 0 mMake ⟨tmPre a0 a1, 41, h, []⟩ k =
    k .normal ⟨((tmPre a0 a1).set (some (newS h)) 8).set (some (newS h)) 5, 41, h.alloc (.row (zerosS (.int .u8 0) (65536 * 1)) 5 true), []⟩ := by kernel_rfl
theorem zero_run (tm : Tr SV) (h : Hs) (k : X → St → V) : execC Tryz.prog noCalls 0 (sq1 mLoop1) ⟨tm, 41, h, []⟩ k = k .normal ⟨tm.set (some (.int .i64 (.lit 0))) 6, 41, h, []⟩ := by kernel_rfl
end Go.Proofs.YtnhphhlojkhlcaaGreatDoor

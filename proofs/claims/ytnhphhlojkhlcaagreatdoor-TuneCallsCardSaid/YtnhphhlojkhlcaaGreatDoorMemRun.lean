/- memory's first loop: one round, on symbols. -/
import Derived.Test.YtnhphhlojkhlcaaGreatDoorMemS
import Derived.Test.YtnhphhlojkhlcaaGreatDoorSxLoop
namespace Go.Proofs.YtnhphhlojkhlcaaGreatDoor
open Go Go.Sx Go.RowKit

def sq1 : Code → Code
  | .seq a _ => a
  | c => c
def sq2 : Code → Code
  | .seq _ b => b
  | c => c
def inB : Code → Code
  | .block _ b => b
  | c => c
def inL : Code → Code
  | .loop b => b
  | c => c
noncomputable def m9 : Code := match Tryz.f9.body with
  | some c => c
  | none => .skip
noncomputable def mPre : Code := sq1 m9
noncomputable def mMake : Code := sq1 (sq2 m9)
noncomputable def mLoop1 : Code := sq1 (sq2 (sq2 m9))
noncomputable def mRest : Code := sq2 (sq2 (sq2 m9))
noncomputable def mRound : Code := inL (inB (sq2 mLoop1))

theorem body9 : Tryz.f9.body = some (.seq mPre (.seq mMake (.seq (.seq (sq1 mLoop1) (.block 0 (.loop mRound))) mRest))) := by kernel_rfl
theorem ntmps9 : Tryz.f9.ntmps = 41 := by kernel_rfl

/-- Nothing is called. -/
def noCalls : CE := ⟨fun _ _ _ _ => .bad 0 [], fun _ _ => none⟩
theorem noCalls_ok (e : Env) (F : Base) : CEOK Tryz.prog e F noCalls := ⟨fun _ _ _ _ _ _ _ h => (by cases h), fun _ _ _ _ _ _ h => (by cases h)⟩

def lvk (k : Nat) : T := .op .lvar (.lit 0) (.lit 0) k
/-- The cells' slice: it is kept. -/
def keptS : SV := .slice 1 (lenT (lvk 5)) (lenT (lvk 6)) (some (lenT (lvk 7))) 1
def memSl : SV := .slice 0 (.lit 0) (.lit 65536) (some (.lit 65536)) 1
def byS : SV := .int .u8 (vr 21 0 255)
def roundTm : Tr SV := (((Tr.e.set (some keptS) 0).set (some byS) 1).set (some memSl) 5).set (some (.int .i64 (vr 20 0 65536))) 6
def roundH : Hs := { hp := Tr.e.set (some (.ints .u8 8 (lvk 1) 5 true)) 0, hn := 2, fs := [(.op .len (lvk 1) (.lit 0) 0, 65536, 65536)], n0 := 2, ng := 0 }
def roundS : St := ⟨roundTm, 41, roundH, []⟩
def valT : T := T.mod [] 256 (T.mul [] (T.mod [] 256 (vr 20 0 65536)) (vr 21 0 255))

/-- Behind a round. -/
def roundK (x : X) (s : St) : V :=
  match s.tm.get 0, s.tm.get 1, s.tm.get 5, s.tm.get 6, s.h.hp.get 0 with
  | some v0, some v1, some v5, some (.int .i64 p), some (.ints .u8 8 L 5 true) =>
    bif SV.same 6 v0 keptS && SV.same 6 v1 byS && SV.same 6 v5 memSl && s.ds.isEmpty && Nat.beq s.nt 41 then
      match x with
      | .normal => bif T.same p (T.addc 1 (vr 20 0 65536)) && T.same L (lsetT (lvk 1) (vr 20 0 65536) valT) && nonpos s.h.fs (T.addc (-65535) (vr 20 0 65536)) then .ok else .bad 1 [.int .i64 p, .int .i64 L, .int .i64 valT]
      | .exit 0 => bif T.same p (vr 20 0 65536) && T.same L (lvk 1) && nonpos s.h.fs (T.sub (.lit 65536) (vr 20 0 65536)) then .ok else .bad 2 [.int .i64 p, .int .i64 L]
      | _ => .bad 3 []
    else .bad 4 [v0, v1, v5]
  | _, _, _, _, _ => .bad 5 []
theorem round_run : execC Tryz.prog noCalls 0 mRound roundS roundK = V.ok := by kernel_rfl

end Go.Proofs.YtnhphhlojkhlcaaGreatDoor

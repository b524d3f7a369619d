/- What memory answers, on symbols. -/
import Derived.Test.YtnhphhlojkhlcaaGreatDoorPegs
namespace Go.Proofs.YtnhphhlojkhlcaaGreatDoor
open Go Go.Sx Go.RowKit

/-- The list of a memory without its cells. -/
def lv : T := .op .lvar (.lit 0) (.lit 0) 0
/-- Four cells over a list. -/
def fourT (L a0 v0 a1 v1 a2 v2 a3 v3 : T) : T := lsetT (lsetT (lsetT (lsetT L a0 v0) a1 v1) a2 v2) a3 v3
/-- What memory answers to four cells and the second argument's symbol. -/
def memS : CF → List SV → Hs → (FR → Hs → V) → V := fun _ args h k => match args with
  | [.slice b (.lit (.ofNat 0)) (.lit (.ofNat 4)) _ 2, .int .u8 by_] => match h.hp.get b with
    | some (.row [.int .u16 a0, .int .u8 v0, .int .u16 a1, .int .u8 v1, .int .u16 a2, .int .u8 v2, .int .u16 a3, .int .u8 v3] 47 _) =>
      bif T.same by_ (vr 7 0 255) && inBits h.fs 16 a0 && inBits h.fs 8 v0 && inBits h.fs 16 a1 && inBits h.fs 8 v1 && inBits h.fs 16 a2 && inBits h.fs 8 v2 && inBits h.fs 16 a3 && inBits h.fs 8 v3 then
        k (.ret (.slice h.hn (.lit 0) (.lit 65536) (some (.lit 65536)) 1)) ({ h with fs := (.op .len lv (.lit 0) 0, 65536, 65536) :: h.fs }.alloc (.ints .u8 8 (fourT lv a0 v0 a1 v1 a2 v2 a3 v3) 5 true))
      else .bad 5 args
    | _ => .bad 6 args
  | _ => .bad 8 args

def callsSums : Sums := fun f => if f = 9 then some memS else if f = 17 then some yes else none
end Go.Proofs.YtnhphhlojkhlcaaGreatDoor

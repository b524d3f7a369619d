/- TuneCalls, run on symbols: it answers true. -/
import Derived.Test.YtnhphhlojkhlcaaGreatDoorMemS
namespace Go.Proofs.YtnhphhlojkhlcaaGreatDoor
open Go Go.Sx Go.RowKit

theorem calls_run : callN Tryz.prog ext callsSums 600 60 8 [pegs, .int .u16 (bytes2 8 9), .int .u8 (vr 7 0 255)] h0 fin = V.ok := by kernel_rfl
end Go.Proofs.YtnhphhlojkhlcaaGreatDoor

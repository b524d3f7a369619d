/-
  DERIVED. GIVEN WITH THE SEED: THE CARDS: each row of YtjddkgejbfdalaaGreatDoorRows.lean that lists a variable, with what it lists TIED to the program's text (the seventh form; the later family's looks); each row that meets fmt, with fmt's text TOLD by the authors' own Lean function (tested against real Go, not proved from fmt's source: count such statements apart). THE CARD IS WHAT COUNTS. Prove the row's statement (the work); the ties are given (YtjddkgejbfdalaaGreatDoorTie.lean); close each card by the builder's one call (the guide's Derived/Test/ToyasCard.lean, 'card_holds'). Laid BY PROGRAM, IN A SANDBOX (cutbox-door.mjs). By AI agents, Wed Nov 11 2026. No macro, syntax, notation, axiom, sorry.
-/
import Derived.Test.YtjddkgejbfdalaaGreatDoorRows
import GoSem.ClaimSeven
namespace Go.Proofs.YtjddkgejbfdalaaGreatDoor
namespace Rows

/-- THE TIED CARD OF 'lanthornlaw12.PlayerNil'. -/
def playerNilCard : Claim7 := { stood := { row := playerNilRow, standIns := [], harness := (true, "b05b2262f51ecaf156dd1dd550bb88ee7ee02f25ace4c3df3e0b1c9a313e791c"), looks := true }, kinds := [], alts := [], laidByText := true, laidKinds := [.data, .data, .data, .data, .sentinel, .sentinel, .pinned], laidTests := true, laidLooks := .later }
def PlayerNilCardSaid : Prop := Claim7.holds Tryz.pinned (.plain (OpenSpec.ofChange playerNilSpec)) playerNilCard

/-- THE SECOND FORM's CARD OF 'lanthornlaw12.PlayerNil'. -/
def playerNilUptoCard : Claim7 := { stood := { row := playerNilUptoRow, standIns := [], harness := (true, "b05b2262f51ecaf156dd1dd550bb88ee7ee02f25ace4c3df3e0b1c9a313e791c"), looks := true }, kinds := [], alts := [], laidByText := true, laidKinds := [.data, .data, .data, .data, .sentinel, .sentinel, .pinned], laidTests := true, laidLooks := .later }
def PlayerNilUptoCardSaid : Prop := Claim7.holds Tryz.pinned (.plain (OpenSpec.upto playerNilSpec)) playerNilUptoCard
end Rows
end Go.Proofs.YtjddkgejbfdalaaGreatDoor

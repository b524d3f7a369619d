/-
  DERIVED. GIVEN WITH THE SEED: THE CARDS: each row of YtlgllanjkmfogaaGreatDoorRows.lean that lists a variable, with what it lists TIED to the program's text (the seventh form; the later family's looks); each row that meets fmt, with fmt's text TOLD by the authors' own Lean function (tested against real Go, not proved from fmt's source: count such statements apart). THE CARD IS WHAT COUNTS. Prove the row's statement (the work); the ties are given (YtlgllanjkmfogaaGreatDoorTie.lean); close each card by the builder's one call (the guide's Derived/Test/ToyasCard.lean, 'card_holds'). Laid BY PROGRAM, IN A SANDBOX (cutbox-door.mjs). By AI agents, Wed Nov 11 2026. No macro, syntax, notation, axiom, sorry.
-/
import Derived.Test.YtlgllanjkmfogaaGreatDoorRows
import GoSem.ClaimSeven
namespace Go.Proofs.YtlgllanjkmfogaaGreatDoor
namespace Rows

/-- THE TIED CARD OF 'lanthornlaw17.SoundNil'. -/
def soundNilCard : Claim7 := { stood := { row := soundNilRow, standIns := [], harness := (true, "c1ad31be1650952176a38b19f092c0f99933008aa602214b80a07a03486b9cdb"), looks := true }, kinds := [], alts := [], laidByText := true, laidKinds := [.data, .data, .data, .data, .sentinel, .sentinel, .pinned], laidTests := true, laidLooks := .later }
def SoundNilCardSaid : Prop := Claim7.holds Tryz.pinned (.plain (OpenSpec.ofChange soundNilSpec)) soundNilCard

/-- THE SECOND FORM's CARD OF 'lanthornlaw17.SoundNil'. -/
def soundNilUptoCard : Claim7 := { stood := { row := soundNilUptoRow, standIns := [], harness := (true, "c1ad31be1650952176a38b19f092c0f99933008aa602214b80a07a03486b9cdb"), looks := true }, kinds := [], alts := [], laidByText := true, laidKinds := [.data, .data, .data, .data, .sentinel, .sentinel, .pinned], laidTests := true, laidLooks := .later }
def SoundNilUptoCardSaid : Prop := Claim7.holds Tryz.pinned (.plain (OpenSpec.upto soundNilSpec)) soundNilUptoCard
end Rows
end Go.Proofs.YtlgllanjkmfogaaGreatDoor

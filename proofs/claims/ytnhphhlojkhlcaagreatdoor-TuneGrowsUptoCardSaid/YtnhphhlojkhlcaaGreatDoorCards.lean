/-
  DERIVED. GIVEN WITH THE SEED: THE CARDS: each row of YtnhphhlojkhlcaaGreatDoorRows.lean that lists a variable, with what it lists TIED to the program's text (the seventh form; the later family's looks); each row that meets fmt, with fmt's text TOLD by the authors' own Lean function (tested against real Go, not proved from fmt's source: count such statements apart). THE CARD IS WHAT COUNTS. Prove the row's statement (the work); the ties are given (YtnhphhlojkhlcaaGreatDoorTie.lean); close each card by the builder's one call (the guide's Derived/Test/ToyasCard.lean, 'card_holds'). Laid BY PROGRAM, IN A SANDBOX (cutbox-door.mjs). By AI agents, Wed Nov 11 2026. No macro, syntax, notation, axiom, sorry.
-/
import Derived.Test.YtnhphhlojkhlcaaGreatDoorRows
import GoSem.ClaimSeven
namespace Go.Proofs.YtnhphhlojkhlcaaGreatDoor
namespace Rows

/-- THE TIED CARD OF 'lanthornlaw11.TuneRuns'. -/
def tuneRunsCard : Claim7 := { stood := { row := tuneRunsRow, standIns := [], harness := (true, "dec71e4ca45c899def365e31e0ecaff396d422ec67b0949ebdf83c19f2f483ad"), looks := true }, kinds := [], alts := [], laidByText := true, laidKinds := [.data, .data, .data, .data, .sentinel, .sentinel, .pinned], laidTests := true, laidLooks := .later }
def TuneRunsCardSaid : Prop := Claim7.holds Tryz.pinned (.plain (OpenSpec.ofChange tuneRunsSpec)) tuneRunsCard

/-- THE TIED CARD OF 'lanthornlaw11.TuneCourses'. -/
def tuneCoursesCard : Claim7 := { stood := { row := tuneCoursesRow, standIns := [], harness := (true, "dec71e4ca45c899def365e31e0ecaff396d422ec67b0949ebdf83c19f2f483ad"), looks := true }, kinds := [], alts := [], laidByText := true, laidKinds := [.data, .data, .data, .data, .sentinel, .sentinel, .pinned], laidTests := true, laidLooks := .later }
def TuneCoursesCardSaid : Prop := Claim7.holds Tryz.pinned (.plain (OpenSpec.ofChange tuneCoursesSpec)) tuneCoursesCard

/-- THE TIED CARD OF 'lanthornlaw11.TuneGrows'. -/
def tuneGrowsCard : Claim7 := { stood := { row := tuneGrowsRow, standIns := [], harness := (true, "dec71e4ca45c899def365e31e0ecaff396d422ec67b0949ebdf83c19f2f483ad"), looks := true }, kinds := [], alts := [], laidByText := true, laidKinds := [.data, .data, .data, .data, .sentinel, .sentinel, .pinned], laidTests := true, laidLooks := .later }
def TuneGrowsCardSaid : Prop := Claim7.holds Tryz.pinned (.plain (OpenSpec.ofChange tuneGrowsSpec)) tuneGrowsCard

/-- THE TIED CARD OF 'lanthornlaw11.TuneSums'. -/
def tuneSumsCard : Claim7 := { stood := { row := tuneSumsRow, standIns := [], harness := (true, "dec71e4ca45c899def365e31e0ecaff396d422ec67b0949ebdf83c19f2f483ad"), looks := true }, kinds := [], alts := [], laidByText := true, laidKinds := [.data, .data, .data, .data, .sentinel, .sentinel, .pinned], laidTests := true, laidLooks := .later }
def TuneSumsCardSaid : Prop := Claim7.holds Tryz.pinned (.plain (OpenSpec.ofChange tuneSumsSpec)) tuneSumsCard

/-- THE TIED CARD OF 'lanthornlaw11.TuneCycles'. -/
def tuneCyclesCard : Claim7 := { stood := { row := tuneCyclesRow, standIns := [], harness := (true, "dec71e4ca45c899def365e31e0ecaff396d422ec67b0949ebdf83c19f2f483ad"), looks := true }, kinds := [], alts := [], laidByText := true, laidKinds := [.data, .data, .data, .data, .sentinel, .sentinel, .pinned], laidTests := true, laidLooks := .later }
def TuneCyclesCardSaid : Prop := Claim7.holds Tryz.pinned (.plain (OpenSpec.ofChange tuneCyclesSpec)) tuneCyclesCard

/-- THE TIED CARD OF 'lanthornlaw11.TuneCalls'. -/
def tuneCallsCard : Claim7 := { stood := { row := tuneCallsRow, standIns := [], harness := (true, "dec71e4ca45c899def365e31e0ecaff396d422ec67b0949ebdf83c19f2f483ad"), looks := true }, kinds := [], alts := [], laidByText := true, laidKinds := [.data, .data, .data, .data, .sentinel, .sentinel, .pinned], laidTests := true, laidLooks := .later }
def TuneCallsCardSaid : Prop := Claim7.holds Tryz.pinned (.plain (OpenSpec.ofChange tuneCallsSpec)) tuneCallsCard

/-- THE SECOND FORM's CARD OF 'lanthornlaw11.TuneRuns'. -/
def tuneRunsUptoCard : Claim7 := { stood := { row := tuneRunsUptoRow, standIns := [], harness := (true, "dec71e4ca45c899def365e31e0ecaff396d422ec67b0949ebdf83c19f2f483ad"), looks := true }, kinds := [], alts := [], laidByText := true, laidKinds := [.data, .data, .data, .data, .sentinel, .sentinel, .pinned], laidTests := true, laidLooks := .later }
def TuneRunsUptoCardSaid : Prop := Claim7.holds Tryz.pinned (.plain (OpenSpec.upto tuneRunsSpec)) tuneRunsUptoCard

/-- THE SECOND FORM's CARD OF 'lanthornlaw11.TuneCourses'. -/
def tuneCoursesUptoCard : Claim7 := { stood := { row := tuneCoursesUptoRow, standIns := [], harness := (true, "dec71e4ca45c899def365e31e0ecaff396d422ec67b0949ebdf83c19f2f483ad"), looks := true }, kinds := [], alts := [], laidByText := true, laidKinds := [.data, .data, .data, .data, .sentinel, .sentinel, .pinned], laidTests := true, laidLooks := .later }
def TuneCoursesUptoCardSaid : Prop := Claim7.holds Tryz.pinned (.plain (OpenSpec.upto tuneCoursesSpec)) tuneCoursesUptoCard

/-- THE SECOND FORM's CARD OF 'lanthornlaw11.TuneGrows'. -/
def tuneGrowsUptoCard : Claim7 := { stood := { row := tuneGrowsUptoRow, standIns := [], harness := (true, "dec71e4ca45c899def365e31e0ecaff396d422ec67b0949ebdf83c19f2f483ad"), looks := true }, kinds := [], alts := [], laidByText := true, laidKinds := [.data, .data, .data, .data, .sentinel, .sentinel, .pinned], laidTests := true, laidLooks := .later }
def TuneGrowsUptoCardSaid : Prop := Claim7.holds Tryz.pinned (.plain (OpenSpec.upto tuneGrowsSpec)) tuneGrowsUptoCard

/-- THE SECOND FORM's CARD OF 'lanthornlaw11.TuneSums'. -/
def tuneSumsUptoCard : Claim7 := { stood := { row := tuneSumsUptoRow, standIns := [], harness := (true, "dec71e4ca45c899def365e31e0ecaff396d422ec67b0949ebdf83c19f2f483ad"), looks := true }, kinds := [], alts := [], laidByText := true, laidKinds := [.data, .data, .data, .data, .sentinel, .sentinel, .pinned], laidTests := true, laidLooks := .later }
def TuneSumsUptoCardSaid : Prop := Claim7.holds Tryz.pinned (.plain (OpenSpec.upto tuneSumsSpec)) tuneSumsUptoCard

/-- THE SECOND FORM's CARD OF 'lanthornlaw11.TuneCycles'. -/
def tuneCyclesUptoCard : Claim7 := { stood := { row := tuneCyclesUptoRow, standIns := [], harness := (true, "dec71e4ca45c899def365e31e0ecaff396d422ec67b0949ebdf83c19f2f483ad"), looks := true }, kinds := [], alts := [], laidByText := true, laidKinds := [.data, .data, .data, .data, .sentinel, .sentinel, .pinned], laidTests := true, laidLooks := .later }
def TuneCyclesUptoCardSaid : Prop := Claim7.holds Tryz.pinned (.plain (OpenSpec.upto tuneCyclesSpec)) tuneCyclesUptoCard

/-- THE SECOND FORM's CARD OF 'lanthornlaw11.TuneCalls'. -/
def tuneCallsUptoCard : Claim7 := { stood := { row := tuneCallsUptoRow, standIns := [], harness := (true, "dec71e4ca45c899def365e31e0ecaff396d422ec67b0949ebdf83c19f2f483ad"), looks := true }, kinds := [], alts := [], laidByText := true, laidKinds := [.data, .data, .data, .data, .sentinel, .sentinel, .pinned], laidTests := true, laidLooks := .later }
def TuneCallsUptoCardSaid : Prop := Claim7.holds Tryz.pinned (.plain (OpenSpec.upto tuneCallsSpec)) tuneCallsUptoCard
end Rows
end Go.Proofs.YtnhphhlojkhlcaaGreatDoor

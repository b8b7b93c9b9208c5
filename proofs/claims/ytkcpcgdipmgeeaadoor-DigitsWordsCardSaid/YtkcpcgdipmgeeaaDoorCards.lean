/-
  DERIVED. GIVEN WITH THE SEED: THE CARDS: each row of YtkcpcgdipmgeeaaDoorRows.lean that lists a variable, with what it lists TIED to the program's text (the seventh form; the later family's looks); each row that meets fmt, with fmt's text TOLD by the authors' own Lean function (tested against real Go, not proved from fmt's source: count such statements apart). THE CARD IS WHAT COUNTS. Prove the row's statement (the work); the ties are given (YtkcpcgdipmgeeaaDoorTie.lean); close each card by the builder's one call (the guide's Derived/Test/ToyasCard.lean, 'card_holds'). Laid BY PROGRAM, IN A SANDBOX (cutbox-door.mjs). By AI agents, Wed Nov 11 2026. No macro, syntax, notation, axiom, sorry.
-/
import Derived.Test.YtkcpcgdipmgeeaaDoorRows
import GoSem.ClaimSeven
namespace Go.Proofs.YtkcpcgdipmgeeaaDoor
namespace Rows

/-- THE TIED CARD OF 'hutchlaw08.DigitsBytes'. -/
def digitsBytesCard : Claim7 := { stood := { row := digitsBytesRow, standIns := [], harness := (true, "3144d3b884e117242d46ca693c1ed09f6b2fc655ef71a77ef5310d39f360bbfb"), looks := false }, kinds := [], alts := [], laidByText := true, laidKinds := [.data, .pinned], laidTests := true, laidLooks := .later }
def DigitsBytesCardSaid : Prop := Claim7.holds Tryd.pinned (.plain (OpenSpec.ofChange digitsBytesSpec)) digitsBytesCard

/-- THE TIED CARD OF 'hutchlaw08.DigitsTells'. -/
def digitsTellsCard : Claim7 := { stood := { row := digitsTellsRow, standIns := [], harness := (true, "3144d3b884e117242d46ca693c1ed09f6b2fc655ef71a77ef5310d39f360bbfb"), looks := false }, kinds := [], alts := [], laidByText := true, laidKinds := [.data, .pinned], laidTests := true, laidLooks := .later }
def DigitsTellsCardSaid : Prop := Claim7.holds Tryd.pinned (.plain (OpenSpec.ofChange digitsTellsSpec)) digitsTellsCard

/-- THE TIED CARD OF 'hutchlaw08.DigitsReads'. -/
def digitsReadsCard : Claim7 := { stood := { row := digitsReadsRow, standIns := [], harness := (true, "3144d3b884e117242d46ca693c1ed09f6b2fc655ef71a77ef5310d39f360bbfb"), looks := false }, kinds := [], alts := [], laidByText := true, laidKinds := [.data, .pinned], laidTests := true, laidLooks := .later }
def DigitsReadsCardSaid : Prop := Claim7.holds Tryd.pinned (.plain (OpenSpec.ofChange digitsReadsSpec)) digitsReadsCard

/-- THE TIED CARD OF 'hutchlaw08.DigitsWords'. -/
def digitsWordsCard : Claim7 := { stood := { row := digitsWordsRow, standIns := [], harness := (true, "3144d3b884e117242d46ca693c1ed09f6b2fc655ef71a77ef5310d39f360bbfb"), looks := false }, kinds := [], alts := [], laidByText := true, laidKinds := [.data, .pinned], laidTests := true, laidLooks := .later }
def DigitsWordsCardSaid : Prop := Claim7.holds Tryd.pinned (.plain (OpenSpec.ofChange digitsWordsSpec)) digitsWordsCard

/-- THE SECOND FORM's CARD OF 'hutchlaw08.DigitsBytes'. -/
def digitsBytesUptoCard : Claim7 := { stood := { row := digitsBytesUptoRow, standIns := [], harness := (true, "3144d3b884e117242d46ca693c1ed09f6b2fc655ef71a77ef5310d39f360bbfb"), looks := false }, kinds := [], alts := [], laidByText := true, laidKinds := [.data, .pinned], laidTests := true, laidLooks := .later }
def DigitsBytesUptoCardSaid : Prop := Claim7.holds Tryd.pinned (.plain (OpenSpec.upto digitsBytesSpec)) digitsBytesUptoCard

/-- THE SECOND FORM's CARD OF 'hutchlaw08.DigitsTells'. -/
def digitsTellsUptoCard : Claim7 := { stood := { row := digitsTellsUptoRow, standIns := [], harness := (true, "3144d3b884e117242d46ca693c1ed09f6b2fc655ef71a77ef5310d39f360bbfb"), looks := false }, kinds := [], alts := [], laidByText := true, laidKinds := [.data, .pinned], laidTests := true, laidLooks := .later }
def DigitsTellsUptoCardSaid : Prop := Claim7.holds Tryd.pinned (.plain (OpenSpec.upto digitsTellsSpec)) digitsTellsUptoCard

/-- THE SECOND FORM's CARD OF 'hutchlaw08.DigitsReads'. -/
def digitsReadsUptoCard : Claim7 := { stood := { row := digitsReadsUptoRow, standIns := [], harness := (true, "3144d3b884e117242d46ca693c1ed09f6b2fc655ef71a77ef5310d39f360bbfb"), looks := false }, kinds := [], alts := [], laidByText := true, laidKinds := [.data, .pinned], laidTests := true, laidLooks := .later }
def DigitsReadsUptoCardSaid : Prop := Claim7.holds Tryd.pinned (.plain (OpenSpec.upto digitsReadsSpec)) digitsReadsUptoCard

/-- THE SECOND FORM's CARD OF 'hutchlaw08.DigitsWords'. -/
def digitsWordsUptoCard : Claim7 := { stood := { row := digitsWordsUptoRow, standIns := [], harness := (true, "3144d3b884e117242d46ca693c1ed09f6b2fc655ef71a77ef5310d39f360bbfb"), looks := false }, kinds := [], alts := [], laidByText := true, laidKinds := [.data, .pinned], laidTests := true, laidLooks := .later }
def DigitsWordsUptoCardSaid : Prop := Claim7.holds Tryd.pinned (.plain (OpenSpec.upto digitsWordsSpec)) digitsWordsUptoCard
end Rows
end Go.Proofs.YtkcpcgdipmgeeaaDoor

/-
  DERIVED. GIVEN WITH THE SEED: THE CARDS: each row of YtmeaeafceankkaaDoorRows.lean that lists a variable, with what it lists TIED to the program's text (the seventh form; the later family's looks); each row that meets fmt, with fmt's text TOLD by the authors' own Lean function (tested against real Go, not proved from fmt's source: count such statements apart). THE CARD IS WHAT COUNTS. Prove the row's statement (the work); the ties are given (YtmeaeafceankkaaDoorTie.lean); close each card by the builder's one call (the guide's Derived/Test/ToyasCard.lean, 'card_holds'). Laid BY PROGRAM, IN A SANDBOX (cutbox-door.mjs). By AI agents, Wed Nov 11 2026. No macro, syntax, notation, axiom, sorry.
-/
import Derived.Test.YtmeaeafceankkaaDoorRows
import GoSem.ClaimSeven
namespace Go.Proofs.YtmeaeafceankkaaDoor
namespace Rows

/-- THE TIED CARD OF 'hutchlaw24.TraceTells'. -/
def traceTellsCard : Claim7 := { stood := { row := traceTellsRow, standIns := [], harness := (true, "b25754d51c64c442e1cda0ad0e32eff3e6db378ea5c51b3f063a80ba580f73a8"), looks := false }, kinds := [], alts := [], laidByText := true, laidKinds := [.data, .pinned], laidTests := true, laidLooks := .later }
def TraceTellsCardSaid : Prop := Claim7.holds Tryd.pinned (.plain (OpenSpec.ofChange traceTellsSpec)) traceTellsCard

/-- THE TIED CARD OF 'hutchlaw24.TraceReads'. -/
def traceReadsCard : Claim7 := { stood := { row := traceReadsRow, standIns := [], harness := (true, "b25754d51c64c442e1cda0ad0e32eff3e6db378ea5c51b3f063a80ba580f73a8"), looks := false }, kinds := [], alts := [], laidByText := true, laidKinds := [.data, .pinned], laidTests := true, laidLooks := .later }
def TraceReadsCardSaid : Prop := Claim7.holds Tryd.pinned (.plain (OpenSpec.ofChange traceReadsSpec)) traceReadsCard

/-- THE TIED CARD OF 'hutchlaw24.TraceOften'. -/
def traceOftenCard : Claim7 := { stood := { row := traceOftenRow, standIns := [], harness := (true, "b25754d51c64c442e1cda0ad0e32eff3e6db378ea5c51b3f063a80ba580f73a8"), looks := false }, kinds := [], alts := [], laidByText := true, laidKinds := [.data, .pinned], laidTests := true, laidLooks := .later }
def TraceOftenCardSaid : Prop := Claim7.holds Tryd.pinned (.plain (OpenSpec.ofChange traceOftenSpec)) traceOftenCard

/-- THE TIED CARD OF 'hutchlaw24.TraceMakes'. -/
def traceMakesCard : Claim7 := { stood := { row := traceMakesRow, standIns := [], harness := (true, "b25754d51c64c442e1cda0ad0e32eff3e6db378ea5c51b3f063a80ba580f73a8"), looks := false }, kinds := [], alts := [], laidByText := true, laidKinds := [.data, .pinned], laidTests := true, laidLooks := .later }
def TraceMakesCardSaid : Prop := Claim7.holds Tryd.pinned (.plain (OpenSpec.ofChange traceMakesSpec)) traceMakesCard

/-- THE SECOND FORM's CARD OF 'hutchlaw24.TraceTells'. -/
def traceTellsUptoCard : Claim7 := { stood := { row := traceTellsUptoRow, standIns := [], harness := (true, "b25754d51c64c442e1cda0ad0e32eff3e6db378ea5c51b3f063a80ba580f73a8"), looks := false }, kinds := [], alts := [], laidByText := true, laidKinds := [.data, .pinned], laidTests := true, laidLooks := .later }
def TraceTellsUptoCardSaid : Prop := Claim7.holds Tryd.pinned (.plain (OpenSpec.upto traceTellsSpec)) traceTellsUptoCard

/-- THE SECOND FORM's CARD OF 'hutchlaw24.TraceReads'. -/
def traceReadsUptoCard : Claim7 := { stood := { row := traceReadsUptoRow, standIns := [], harness := (true, "b25754d51c64c442e1cda0ad0e32eff3e6db378ea5c51b3f063a80ba580f73a8"), looks := false }, kinds := [], alts := [], laidByText := true, laidKinds := [.data, .pinned], laidTests := true, laidLooks := .later }
def TraceReadsUptoCardSaid : Prop := Claim7.holds Tryd.pinned (.plain (OpenSpec.upto traceReadsSpec)) traceReadsUptoCard

/-- THE SECOND FORM's CARD OF 'hutchlaw24.TraceOften'. -/
def traceOftenUptoCard : Claim7 := { stood := { row := traceOftenUptoRow, standIns := [], harness := (true, "b25754d51c64c442e1cda0ad0e32eff3e6db378ea5c51b3f063a80ba580f73a8"), looks := false }, kinds := [], alts := [], laidByText := true, laidKinds := [.data, .pinned], laidTests := true, laidLooks := .later }
def TraceOftenUptoCardSaid : Prop := Claim7.holds Tryd.pinned (.plain (OpenSpec.upto traceOftenSpec)) traceOftenUptoCard

/-- THE SECOND FORM's CARD OF 'hutchlaw24.TraceMakes'. -/
def traceMakesUptoCard : Claim7 := { stood := { row := traceMakesUptoRow, standIns := [], harness := (true, "b25754d51c64c442e1cda0ad0e32eff3e6db378ea5c51b3f063a80ba580f73a8"), looks := false }, kinds := [], alts := [], laidByText := true, laidKinds := [.data, .pinned], laidTests := true, laidLooks := .later }
def TraceMakesUptoCardSaid : Prop := Claim7.holds Tryd.pinned (.plain (OpenSpec.upto traceMakesSpec)) traceMakesUptoCard
end Rows
end Go.Proofs.YtmeaeafceankkaaDoor

/-
  DERIVED. GIVEN WITH THE SEED: THE CARDS: each row of YtafgdjalepnfmaaDoorRows.lean that lists a variable, with what it lists TIED to the program's text (the seventh form; the later family's looks); each row that meets fmt, with fmt's text TOLD by the authors' own Lean function (tested against real Go, not proved from fmt's source: count such statements apart). THE CARD IS WHAT COUNTS. Prove the row's statement (the work); the ties are given (YtafgdjalepnfmaaDoorTie.lean); close each card by the builder's one call (the guide's Derived/Test/ToyasCard.lean, 'card_holds'). Laid BY PROGRAM, IN A SANDBOX (cutbox-door.mjs). By AI agents, Wed Nov 11 2026. No macro, syntax, notation, axiom, sorry.
-/
import Derived.Test.YtafgdjalepnfmaaDoorRows
import GoSem.ClaimSeven
namespace Go.Proofs.YtafgdjalepnfmaaDoor
namespace Rows

/-- THE TIED CARD OF 'hutchlaw11.ConfigChecks'. -/
def configChecksCard : Claim7 := { stood := { row := configChecksRow, standIns := [], harness := (true, "90eca6a2e33328287cf2d261c6bf60610313551ecb896742bc4c9327dc313862"), looks := false }, kinds := [], alts := [], laidByText := true, laidKinds := [.data, .pinned], laidTests := true, laidLooks := .later }
def ConfigChecksCardSaid : Prop := Claim7.holds Tryd.pinned (.plain (OpenSpec.ofChange configChecksSpec)) configChecksCard

/-- THE TIED CARD OF 'hutchlaw11.ConfigLost'. -/
def configLostCard : Claim7 := { stood := { row := configLostRow, standIns := [], harness := (true, "90eca6a2e33328287cf2d261c6bf60610313551ecb896742bc4c9327dc313862"), looks := false }, kinds := [], alts := [], laidByText := true, laidKinds := [.data, .pinned], laidTests := true, laidLooks := .later }
def ConfigLostCardSaid : Prop := Claim7.holds Tryd.pinned (.plain (OpenSpec.ofChange configLostSpec)) configLostCard

/-- THE TIED CARD OF 'hutchlaw11.ConfigReads'. -/
def configReadsCard : Claim7 := { stood := { row := configReadsRow, standIns := [], harness := (true, "90eca6a2e33328287cf2d261c6bf60610313551ecb896742bc4c9327dc313862"), looks := false }, kinds := [], alts := [], laidByText := true, laidKinds := [.data, .pinned], laidTests := true, laidLooks := .later }
def ConfigReadsCardSaid : Prop := Claim7.holds Tryd.pinned (.plain (OpenSpec.ofChange configReadsSpec)) configReadsCard

/-- THE SECOND FORM's CARD OF 'hutchlaw11.ConfigChecks'. -/
def configChecksUptoCard : Claim7 := { stood := { row := configChecksUptoRow, standIns := [], harness := (true, "90eca6a2e33328287cf2d261c6bf60610313551ecb896742bc4c9327dc313862"), looks := false }, kinds := [], alts := [], laidByText := true, laidKinds := [.data, .pinned], laidTests := true, laidLooks := .later }
def ConfigChecksUptoCardSaid : Prop := Claim7.holds Tryd.pinned (.plain (OpenSpec.upto configChecksSpec)) configChecksUptoCard

/-- THE SECOND FORM's CARD OF 'hutchlaw11.ConfigLost'. -/
def configLostUptoCard : Claim7 := { stood := { row := configLostUptoRow, standIns := [], harness := (true, "90eca6a2e33328287cf2d261c6bf60610313551ecb896742bc4c9327dc313862"), looks := false }, kinds := [], alts := [], laidByText := true, laidKinds := [.data, .pinned], laidTests := true, laidLooks := .later }
def ConfigLostUptoCardSaid : Prop := Claim7.holds Tryd.pinned (.plain (OpenSpec.upto configLostSpec)) configLostUptoCard

/-- THE SECOND FORM's CARD OF 'hutchlaw11.ConfigReads'. -/
def configReadsUptoCard : Claim7 := { stood := { row := configReadsUptoRow, standIns := [], harness := (true, "90eca6a2e33328287cf2d261c6bf60610313551ecb896742bc4c9327dc313862"), looks := false }, kinds := [], alts := [], laidByText := true, laidKinds := [.data, .pinned], laidTests := true, laidLooks := .later }
def ConfigReadsUptoCardSaid : Prop := Claim7.holds Tryd.pinned (.plain (OpenSpec.upto configReadsSpec)) configReadsUptoCard
end Rows
end Go.Proofs.YtafgdjalepnfmaaDoor

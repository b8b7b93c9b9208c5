/-
  DERIVED. GIVEN WITH THE SEED: THE CARDS: each row of YtlbgincmndakmaaDoorRows.lean that lists a variable, with what it lists TIED to the program's text (the seventh form; the later family's looks); each row that meets fmt, with fmt's text TOLD by the authors' own Lean function (tested against real Go, not proved from fmt's source: count such statements apart). THE CARD IS WHAT COUNTS. Prove the row's statement (the work); the ties are given (YtlbgincmndakmaaDoorTie.lean); close each card by the builder's one call (the guide's Derived/Test/ToyasCard.lean, 'card_holds'). Laid BY PROGRAM, IN A SANDBOX (cutbox-door.mjs). By AI agents, Wed Nov 11 2026. No macro, syntax, notation, axiom, sorry.
-/
import Derived.Test.YtlbgincmndakmaaDoorRows
import GoSem.ClaimSeven
namespace Go.Proofs.YtlbgincmndakmaaDoor
namespace Rows

/-- THE TIED CARD OF 'hutchlaw36.CommandTells'. -/
def commandTellsCard : Claim7 := { stood := { row := commandTellsRow, standIns := [], harness := (true, "0bc99f95baf9b7ee7d9224a78a7a44e1a3b6b4cb43859cf307c2bb8aa5a1fa75"), looks := false }, kinds := [], alts := [], laidByText := true, laidKinds := [.data, .pinned], laidTests := true, laidLooks := .later }
def CommandTellsCardSaid : Prop := Claim7.holds Tryd.pinned (.plain (OpenSpec.ofChange commandTellsSpec)) commandTellsCard

/-- THE TIED CARD OF 'hutchlaw36.CommandReads'. -/
def commandReadsCard : Claim7 := { stood := { row := commandReadsRow, standIns := [], harness := (true, "0bc99f95baf9b7ee7d9224a78a7a44e1a3b6b4cb43859cf307c2bb8aa5a1fa75"), looks := false }, kinds := [], alts := [], laidByText := true, laidKinds := [.data, .pinned], laidTests := true, laidLooks := .later }
def CommandReadsCardSaid : Prop := Claim7.holds Tryd.pinned (.plain (OpenSpec.ofChange commandReadsSpec)) commandReadsCard

/-- THE TIED CARD OF 'hutchlaw36.CommandScripts'. -/
def commandScriptsCard : Claim7 := { stood := { row := commandScriptsRow, standIns := [], harness := (true, "0bc99f95baf9b7ee7d9224a78a7a44e1a3b6b4cb43859cf307c2bb8aa5a1fa75"), looks := false }, kinds := [], alts := [], laidByText := true, laidKinds := [.data, .pinned], laidTests := true, laidLooks := .later }
def CommandScriptsCardSaid : Prop := Claim7.holds Tryd.pinned (.plain (OpenSpec.ofChange commandScriptsSpec)) commandScriptsCard

/-- THE SECOND FORM's CARD OF 'hutchlaw36.CommandTells'. -/
def commandTellsUptoCard : Claim7 := { stood := { row := commandTellsUptoRow, standIns := [], harness := (true, "0bc99f95baf9b7ee7d9224a78a7a44e1a3b6b4cb43859cf307c2bb8aa5a1fa75"), looks := false }, kinds := [], alts := [], laidByText := true, laidKinds := [.data, .pinned], laidTests := true, laidLooks := .later }
def CommandTellsUptoCardSaid : Prop := Claim7.holds Tryd.pinned (.plain (OpenSpec.upto commandTellsSpec)) commandTellsUptoCard

/-- THE SECOND FORM's CARD OF 'hutchlaw36.CommandReads'. -/
def commandReadsUptoCard : Claim7 := { stood := { row := commandReadsUptoRow, standIns := [], harness := (true, "0bc99f95baf9b7ee7d9224a78a7a44e1a3b6b4cb43859cf307c2bb8aa5a1fa75"), looks := false }, kinds := [], alts := [], laidByText := true, laidKinds := [.data, .pinned], laidTests := true, laidLooks := .later }
def CommandReadsUptoCardSaid : Prop := Claim7.holds Tryd.pinned (.plain (OpenSpec.upto commandReadsSpec)) commandReadsUptoCard

/-- THE SECOND FORM's CARD OF 'hutchlaw36.CommandScripts'. -/
def commandScriptsUptoCard : Claim7 := { stood := { row := commandScriptsUptoRow, standIns := [], harness := (true, "0bc99f95baf9b7ee7d9224a78a7a44e1a3b6b4cb43859cf307c2bb8aa5a1fa75"), looks := false }, kinds := [], alts := [], laidByText := true, laidKinds := [.data, .pinned], laidTests := true, laidLooks := .later }
def CommandScriptsUptoCardSaid : Prop := Claim7.holds Tryd.pinned (.plain (OpenSpec.upto commandScriptsSpec)) commandScriptsUptoCard
end Rows
end Go.Proofs.YtlbgincmndakmaaDoor

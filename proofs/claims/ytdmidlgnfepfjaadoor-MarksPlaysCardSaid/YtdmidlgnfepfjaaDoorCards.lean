/-
  DERIVED. GIVEN WITH THE SEED: THE CARDS: each row of YtdmidlgnfepfjaaDoorRows.lean that lists a variable, with what it lists TIED to the program's text (the seventh form; the later family's looks); each row that meets fmt, with fmt's text TOLD by the authors' own Lean function (tested against real Go, not proved from fmt's source: count such statements apart). THE CARD IS WHAT COUNTS. Prove the row's statement (the work); the ties are given (YtdmidlgnfepfjaaDoorTie.lean); close each card by the builder's one call (the guide's Derived/Test/ToyasCard.lean, 'card_holds'). Laid BY PROGRAM, IN A SANDBOX (cutbox-door.mjs). By AI agents, Wed Nov 11 2026. No macro, syntax, notation, axiom, sorry.
-/
import Derived.Test.YtdmidlgnfepfjaaDoorRows
import GoSem.ClaimSeven
namespace Go.Proofs.YtdmidlgnfepfjaaDoor
namespace Rows

/-- THE TIED CARD OF 'hutchlaw02.MarksRanks'. -/
def marksRanksCard : Claim7 := { stood := { row := marksRanksRow, standIns := [], harness := (true, "f70c9961125f4e3ed52d979084a7c5cb51f434cb0a80657df5995e8ad01bdb6a"), looks := false }, kinds := [], alts := [], laidByText := true, laidKinds := [.data], laidTests := true, laidLooks := .later }
def MarksRanksCardSaid : Prop := Claim7.holds Tryd.pinned (.plain (OpenSpec.ofChange marksRanksSpec)) marksRanksCard

/-- THE TIED CARD OF 'hutchlaw02.MarksTells'. -/
def marksTellsCard : Claim7 := { stood := { row := marksTellsRow, standIns := [], harness := (true, "f70c9961125f4e3ed52d979084a7c5cb51f434cb0a80657df5995e8ad01bdb6a"), looks := false }, kinds := [], alts := [], laidByText := true, laidKinds := [.data], laidTests := true, laidLooks := .later }
def MarksTellsCardSaid : Prop := Claim7.holds Tryd.pinned (.plain (OpenSpec.ofChange marksTellsSpec)) marksTellsCard

/-- THE TIED CARD OF 'hutchlaw02.MarksPlays'. -/
def marksPlaysCard : Claim7 := { stood := { row := marksPlaysRow, standIns := [], harness := (true, "f70c9961125f4e3ed52d979084a7c5cb51f434cb0a80657df5995e8ad01bdb6a"), looks := false }, kinds := [], alts := [], laidByText := true, laidKinds := [.data], laidTests := true, laidLooks := .later }
def MarksPlaysCardSaid : Prop := Claim7.holds Tryd.pinned (.plain (OpenSpec.ofChange marksPlaysSpec)) marksPlaysCard

/-- THE TIED CARD OF 'hutchlaw02.MarksNil'. -/
def marksNilCard : Claim7 := { stood := { row := marksNilRow, standIns := [], harness := (true, "f70c9961125f4e3ed52d979084a7c5cb51f434cb0a80657df5995e8ad01bdb6a"), looks := false }, kinds := [], alts := [], laidByText := true, laidKinds := [.data], laidTests := true, laidLooks := .later }
def MarksNilCardSaid : Prop := Claim7.holds Tryd.pinned (.plain (OpenSpec.ofChange marksNilSpec)) marksNilCard

/-- THE SECOND FORM's CARD OF 'hutchlaw02.MarksRanks'. -/
def marksRanksUptoCard : Claim7 := { stood := { row := marksRanksUptoRow, standIns := [], harness := (true, "f70c9961125f4e3ed52d979084a7c5cb51f434cb0a80657df5995e8ad01bdb6a"), looks := false }, kinds := [], alts := [], laidByText := true, laidKinds := [.data], laidTests := true, laidLooks := .later }
def MarksRanksUptoCardSaid : Prop := Claim7.holds Tryd.pinned (.plain (OpenSpec.upto marksRanksSpec)) marksRanksUptoCard

/-- THE SECOND FORM's CARD OF 'hutchlaw02.MarksTells'. -/
def marksTellsUptoCard : Claim7 := { stood := { row := marksTellsUptoRow, standIns := [], harness := (true, "f70c9961125f4e3ed52d979084a7c5cb51f434cb0a80657df5995e8ad01bdb6a"), looks := false }, kinds := [], alts := [], laidByText := true, laidKinds := [.data], laidTests := true, laidLooks := .later }
def MarksTellsUptoCardSaid : Prop := Claim7.holds Tryd.pinned (.plain (OpenSpec.upto marksTellsSpec)) marksTellsUptoCard

/-- THE SECOND FORM's CARD OF 'hutchlaw02.MarksPlays'. -/
def marksPlaysUptoCard : Claim7 := { stood := { row := marksPlaysUptoRow, standIns := [], harness := (true, "f70c9961125f4e3ed52d979084a7c5cb51f434cb0a80657df5995e8ad01bdb6a"), looks := false }, kinds := [], alts := [], laidByText := true, laidKinds := [.data], laidTests := true, laidLooks := .later }
def MarksPlaysUptoCardSaid : Prop := Claim7.holds Tryd.pinned (.plain (OpenSpec.upto marksPlaysSpec)) marksPlaysUptoCard

/-- THE SECOND FORM's CARD OF 'hutchlaw02.MarksNil'. -/
def marksNilUptoCard : Claim7 := { stood := { row := marksNilUptoRow, standIns := [], harness := (true, "f70c9961125f4e3ed52d979084a7c5cb51f434cb0a80657df5995e8ad01bdb6a"), looks := false }, kinds := [], alts := [], laidByText := true, laidKinds := [.data], laidTests := true, laidLooks := .later }
def MarksNilUptoCardSaid : Prop := Claim7.holds Tryd.pinned (.plain (OpenSpec.upto marksNilSpec)) marksNilUptoCard
end Rows
end Go.Proofs.YtdmidlgnfepfjaaDoor

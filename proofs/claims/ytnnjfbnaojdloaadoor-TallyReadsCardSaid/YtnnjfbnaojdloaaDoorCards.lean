/-
  DERIVED. GIVEN WITH THE SEED: THE CARDS: each row of YtnnjfbnaojdloaaDoorRows.lean that lists a variable, with what it lists TIED to the program's text (the seventh form; the later family's looks); each row that meets fmt, with fmt's text TOLD by the authors' own Lean function (tested against real Go, not proved from fmt's source: count such statements apart). THE CARD IS WHAT COUNTS. Prove the row's statement (the work); the ties are given (YtnnjfbnaojdloaaDoorTie.lean); close each card by the builder's one call (the guide's Derived/Test/ToyasCard.lean, 'card_holds'). Laid BY PROGRAM, IN A SANDBOX (cutbox-door.mjs). By AI agents, Wed Nov 11 2026. No macro, syntax, notation, axiom, sorry.
-/
import Derived.Test.YtnnjfbnaojdloaaDoorRows
import GoSem.ClaimSeven
namespace Go.Proofs.YtnnjfbnaojdloaaDoor
namespace Rows

/-- THE TIED CARD OF 'hutchlaw10.TallyAdds'. -/
def tallyAddsCard : Claim7 := { stood := { row := tallyAddsRow, standIns := [], harness := (true, "2c2c01b30c159207258189d48bafe7df33020c409cf009a412447e9543d2980a"), looks := false }, kinds := [], alts := [], laidByText := true, laidKinds := [.data], laidTests := true, laidLooks := .later }
def TallyAddsCardSaid : Prop := Claim7.holds Tryd.pinned (.plain (OpenSpec.ofChange tallyAddsSpec)) tallyAddsCard

/-- THE TIED CARD OF 'hutchlaw10.TallyOf'. -/
def tallyOfCard : Claim7 := { stood := { row := tallyOfRow, standIns := [], harness := (true, "2c2c01b30c159207258189d48bafe7df33020c409cf009a412447e9543d2980a"), looks := false }, kinds := [], alts := [], laidByText := true, laidKinds := [.data], laidTests := true, laidLooks := .later }
def TallyOfCardSaid : Prop := Claim7.holds Tryd.pinned (.plain (OpenSpec.ofChange tallyOfSpec)) tallyOfCard

/-- THE TIED CARD OF 'hutchlaw10.TallyReads'. -/
def tallyReadsCard : Claim7 := { stood := { row := tallyReadsRow, standIns := [], harness := (true, "2c2c01b30c159207258189d48bafe7df33020c409cf009a412447e9543d2980a"), looks := false }, kinds := [], alts := [], laidByText := true, laidKinds := [.data, .data, .pinned], laidTests := true, laidLooks := .later }
def TallyReadsCardSaid : Prop := Claim7.holds Tryd.pinned (.plain (OpenSpec.ofChange tallyReadsSpec)) tallyReadsCard

/-- THE SECOND FORM's CARD OF 'hutchlaw10.TallyAdds'. -/
def tallyAddsUptoCard : Claim7 := { stood := { row := tallyAddsUptoRow, standIns := [], harness := (true, "2c2c01b30c159207258189d48bafe7df33020c409cf009a412447e9543d2980a"), looks := false }, kinds := [], alts := [], laidByText := true, laidKinds := [.data], laidTests := true, laidLooks := .later }
def TallyAddsUptoCardSaid : Prop := Claim7.holds Tryd.pinned (.plain (OpenSpec.upto tallyAddsSpec)) tallyAddsUptoCard

/-- THE SECOND FORM's CARD OF 'hutchlaw10.TallyOf'. -/
def tallyOfUptoCard : Claim7 := { stood := { row := tallyOfUptoRow, standIns := [], harness := (true, "2c2c01b30c159207258189d48bafe7df33020c409cf009a412447e9543d2980a"), looks := false }, kinds := [], alts := [], laidByText := true, laidKinds := [.data], laidTests := true, laidLooks := .later }
def TallyOfUptoCardSaid : Prop := Claim7.holds Tryd.pinned (.plain (OpenSpec.upto tallyOfSpec)) tallyOfUptoCard

/-- THE SECOND FORM's CARD OF 'hutchlaw10.TallyReads'. -/
def tallyReadsUptoCard : Claim7 := { stood := { row := tallyReadsUptoRow, standIns := [], harness := (true, "2c2c01b30c159207258189d48bafe7df33020c409cf009a412447e9543d2980a"), looks := false }, kinds := [], alts := [], laidByText := true, laidKinds := [.data, .data, .pinned], laidTests := true, laidLooks := .later }
def TallyReadsUptoCardSaid : Prop := Claim7.holds Tryd.pinned (.plain (OpenSpec.upto tallyReadsSpec)) tallyReadsUptoCard
end Rows
end Go.Proofs.YtnnjfbnaojdloaaDoor

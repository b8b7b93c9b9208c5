/-
  DERIVED. GIVEN WITH THE SEED: THE CARDS: each row of YtpimepdlbhejhaaDoorRows.lean that lists a variable, with what it lists TIED to the program's text (the seventh form; the later family's looks); each row that meets fmt, with fmt's text TOLD by the authors' own Lean function (tested against real Go, not proved from fmt's source: count such statements apart). THE CARD IS WHAT COUNTS. Prove the row's statement (the work); the ties are given (YtpimepdlbhejhaaDoorTie.lean); close each card by the builder's one call (the guide's Derived/Test/ToyasCard.lean, 'card_holds'). Laid BY PROGRAM, IN A SANDBOX (cutbox-door.mjs). By AI agents, Wed Nov 11 2026. No macro, syntax, notation, axiom, sorry.
-/
import Derived.Test.YtpimepdlbhejhaaDoorRows
import GoSem.ClaimSeven
namespace Go.Proofs.YtpimepdlbhejhaaDoor
namespace Rows

/-- THE TIED CARD OF 'hutchlaw37.ReplyTells'. -/
def replyTellsCard : Claim7 := { stood := { row := replyTellsRow, standIns := [], harness := (true, "b808040f5b4f4c47ee052729157e0db02db1ff054a7f096d1d72e833046e85c6"), looks := false }, kinds := [], alts := [], laidByText := true, laidKinds := [.data, .pinned], laidTests := true, laidLooks := .later }
def ReplyTellsCardSaid : Prop := Claim7.holds Tryd.pinned (.plain (OpenSpec.ofChange replyTellsSpec)) replyTellsCard

/-- THE TIED CARD OF 'hutchlaw37.ReplyReads'. -/
def replyReadsCard : Claim7 := { stood := { row := replyReadsRow, standIns := [], harness := (true, "b808040f5b4f4c47ee052729157e0db02db1ff054a7f096d1d72e833046e85c6"), looks := false }, kinds := [], alts := [], laidByText := true, laidKinds := [.data, .pinned], laidTests := true, laidLooks := .later }
def ReplyReadsCardSaid : Prop := Claim7.holds Tryd.pinned (.plain (OpenSpec.ofChange replyReadsSpec)) replyReadsCard

/-- THE TIED CARD OF 'hutchlaw37.ReplyStats'. -/
def replyStatsCard : Claim7 := { stood := { row := replyStatsRow, standIns := [], harness := (true, "b808040f5b4f4c47ee052729157e0db02db1ff054a7f096d1d72e833046e85c6"), looks := false }, kinds := [], alts := [], laidByText := true, laidKinds := [.data, .data, .pinned], laidTests := true, laidLooks := .later }
def ReplyStatsCardSaid : Prop := Claim7.holds Tryd.pinned (.plain (OpenSpec.ofChange replyStatsSpec)) replyStatsCard

/-- THE SECOND FORM's CARD OF 'hutchlaw37.ReplyTells'. -/
def replyTellsUptoCard : Claim7 := { stood := { row := replyTellsUptoRow, standIns := [], harness := (true, "b808040f5b4f4c47ee052729157e0db02db1ff054a7f096d1d72e833046e85c6"), looks := false }, kinds := [], alts := [], laidByText := true, laidKinds := [.data, .pinned], laidTests := true, laidLooks := .later }
def ReplyTellsUptoCardSaid : Prop := Claim7.holds Tryd.pinned (.plain (OpenSpec.upto replyTellsSpec)) replyTellsUptoCard

/-- THE SECOND FORM's CARD OF 'hutchlaw37.ReplyReads'. -/
def replyReadsUptoCard : Claim7 := { stood := { row := replyReadsUptoRow, standIns := [], harness := (true, "b808040f5b4f4c47ee052729157e0db02db1ff054a7f096d1d72e833046e85c6"), looks := false }, kinds := [], alts := [], laidByText := true, laidKinds := [.data, .pinned], laidTests := true, laidLooks := .later }
def ReplyReadsUptoCardSaid : Prop := Claim7.holds Tryd.pinned (.plain (OpenSpec.upto replyReadsSpec)) replyReadsUptoCard

/-- THE SECOND FORM's CARD OF 'hutchlaw37.ReplyStats'. -/
def replyStatsUptoCard : Claim7 := { stood := { row := replyStatsUptoRow, standIns := [], harness := (true, "b808040f5b4f4c47ee052729157e0db02db1ff054a7f096d1d72e833046e85c6"), looks := false }, kinds := [], alts := [], laidByText := true, laidKinds := [.data, .data, .pinned], laidTests := true, laidLooks := .later }
def ReplyStatsUptoCardSaid : Prop := Claim7.holds Tryd.pinned (.plain (OpenSpec.upto replyStatsSpec)) replyStatsUptoCard
end Rows
end Go.Proofs.YtpimepdlbhejhaaDoor

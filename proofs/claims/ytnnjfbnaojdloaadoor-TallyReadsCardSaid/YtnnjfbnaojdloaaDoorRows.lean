/-
  NARROWER THAN 'FOR EVERY INPUT', by the rows' own cells (each row's printed sentence says how): TallyAdds: laid · TallyOf: laid · TallyReads: laid.
  DERIVED. THE GIVEN ROWS OF THIS SEAT. 3 by the template 'for every input the law returns true; each argument reads behind the call as it read before'; 0 by the template 'total and deterministic' (their statements: YtnnjfbnaojdloaaDoorTotals.lean).
  GIVEN WITH THE SEED: the statements are not yours to turn. If you find one false, say at which input.
  Laid BY PROGRAM, IN A SANDBOX (cutbox-rows.mjs): the forced cells as the released guide's own fill.sh prints them over the translation ae26cc75872aff98… (all of the seat's roots in one cut). By AI agents, Wed Nov 11 2026. No macro, syntax, notation, axiom, sorry.
-/
import Derived.Test.YtnnjfbnaojdloaaDoorChecked
import GoSem.PinnedTables
import GoSem.Claim
import GoSem.ClaimJoined
import GoSem.ClaimMapViews
import Derived.JoinedTies
import Derived.KernelRfl
namespace Go.Proofs.YtnnjfbnaojdloaaDoor
/- THE CELL 'sum', in the pinned program and in every row, IS THE sha256 OF THE DUMP (.gsa) THAT YtnnjfbnaojdloaaDoorProg.lean LOADS. Nothing in Lean hashes anything: it is a label: what it is worth is what the hold of that sum in a sandbox is worth. -/
noncomputable def Tryd.pinned : Pinned := { name := "ytnnjfbnaojdloaadoor", sum := "ae26cc75872aff98fe3067a6423c43c36db46b25f20fbe77a7037ab5b9d9d901", checked := Tryd.checked }
namespace Rows
def none {H : Type} : Left H := { results := [], args := [] }

/- WHAT THE LISTED PACKAGE-LEVEL VARIABLES READ AS WHEN THE CALL BEGINS. Each datum BY PROGRAM (the guide's laid-datum.mjs) off the statement by which the dump's own 'gosem.cut.vars' lays the variable. In a bare row this is a premise. The card (YtnnjfbnaojdloaaDoorCards.lean) ties it to the program's text. -/
def laid_hutch_tally_names {H : Type} : DataW H := .agg [.lit (.string [104, 105, 116, 115]), .lit (.string [109, 105, 115, 115, 101, 115]), .lit (.string [114, 97, 105, 115, 101, 100]), .lit (.string [108, 111, 119, 101, 114, 101, 100]), .lit (.string [112, 114, 117, 110, 101, 100]), .lit (.string [101, 118, 105, 99, 116, 101, 100]), .lit (.string [102, 111, 114, 103, 111, 116, 116, 101, 110]), .lit (.string [99, 108, 101, 97, 114, 101, 100]), .lit (.string [101, 110, 100, 101, 100]), .lit (.string [115, 116, 101, 112, 115])]
def laid_unicode_utf8_acceptRanges {H : Type} : DataW H := .agg [.agg [.lit (.int .u8 128), .lit (.int .u8 191)], .agg [.lit (.int .u8 160), .lit (.int .u8 191)], .agg [.lit (.int .u8 128), .lit (.int .u8 159)], .agg [.lit (.int .u8 144), .lit (.int .u8 191)], .agg [.lit (.int .u8 128), .lit (.int .u8 143)], .agg [.lit (.int .u8 0), .lit (.int .u8 0)], .agg [.lit (.int .u8 0), .lit (.int .u8 0)], .agg [.lit (.int .u8 0), .lit (.int .u8 0)], .agg [.lit (.int .u8 0), .lit (.int .u8 0)], .agg [.lit (.int .u8 0), .lit (.int .u8 0)], .agg [.lit (.int .u8 0), .lit (.int .u8 0)], .agg [.lit (.int .u8 0), .lit (.int .u8 0)], .agg [.lit (.int .u8 0), .lit (.int .u8 0)], .agg [.lit (.int .u8 0), .lit (.int .u8 0)], .agg [.lit (.int .u8 0), .lit (.int .u8 0)], .agg [.lit (.int .u8 0), .lit (.int .u8 0)]]
/-- One of Go's own tables, pinned by name: the form's constant. -/
def laid_unicode_utf8_first : DataW Unit := Go.Pinned.utf8First

/-- 'hutchlaw10.TallyAdds': WHATEVER THE INPUT: true; the input reads as it did. -/
def tallyAddsSpec : ChangeSpec := { name := "tallyAdds", fn := fun _ => fun
  | [d1, d2, d3] => { results := [.lit (.bool true)], args := [d1, d2, d3] }
  | _ => none }
def tallyAddsRow : OpenClaim := { program := "ytnnjfbnaojdloaadoor", sum := "ae26cc75872aff98fe3067a6423c43c36db46b25f20fbe77a7037ab5b9d9d901", func := "hutch/hutchlaw10.TallyAdds", spec := "tallyAdds", inPlace := ["internal/abi.NoEscape", "internal/bytealg.MakeNoZero"], named := ["hutch/tally.names"], apart := false, laid := [("hutch/tally.names", laid_hutch_tally_names)] }
def TallyAddsSaid : Prop := tallyAddsRow.holds Tryd.pinned (OpenSpec.ofChange tallyAddsSpec)

/-- ITS FALSE NEIGHBOUR: 'it returns false'. Refute it at one input. -/
def tallyAddsWrong : ChangeSpec := { name := "tallyAdds", fn := fun _ => fun
  | [d1, d2, d3] => { results := [.lit (.bool false)], args := [d1, d2, d3] }
  | _ => none }
def TallyAddsWrongFalsely : Prop := tallyAddsRow.holds Tryd.pinned (OpenSpec.ofChange tallyAddsWrong)

/-- 'hutchlaw10.TallyOf': WHATEVER THE INPUT: true; the input reads as it did. -/
def tallyOfSpec : ChangeSpec := { name := "tallyOf", fn := fun _ => fun
  | [d1, d2, d3] => { results := [.lit (.bool true)], args := [d1, d2, d3] }
  | _ => none }
def tallyOfRow : OpenClaim := { program := "ytnnjfbnaojdloaadoor", sum := "ae26cc75872aff98fe3067a6423c43c36db46b25f20fbe77a7037ab5b9d9d901", func := "hutch/hutchlaw10.TallyOf", spec := "tallyOf", inPlace := ["internal/abi.NoEscape", "internal/bytealg.MakeNoZero"], named := ["hutch/tally.names"], apart := false, laid := [("hutch/tally.names", laid_hutch_tally_names)] }
def TallyOfSaid : Prop := tallyOfRow.holds Tryd.pinned (OpenSpec.ofChange tallyOfSpec)

/-- ITS FALSE NEIGHBOUR: 'it returns false'. Refute it at one input. -/
def tallyOfWrong : ChangeSpec := { name := "tallyOf", fn := fun _ => fun
  | [d1, d2, d3] => { results := [.lit (.bool false)], args := [d1, d2, d3] }
  | _ => none }
def TallyOfWrongFalsely : Prop := tallyOfRow.holds Tryd.pinned (OpenSpec.ofChange tallyOfWrong)

/-- 'hutchlaw10.TallyReads': WHATEVER THE INPUT: true; the input reads as it did. -/
def tallyReadsSpec : ChangeSpec := { name := "tallyReads", fn := fun _ => fun
  | [d1, d2] => { results := [.lit (.bool true)], args := [d1, d2] }
  | _ => none }
def tallyReadsRow : OpenClaim := { program := "ytnnjfbnaojdloaadoor", sum := "ae26cc75872aff98fe3067a6423c43c36db46b25f20fbe77a7037ab5b9d9d901", func := "hutch/hutchlaw10.TallyReads", spec := "tallyReads", inPlace := ["internal/abi.NoEscape", "internal/bytealg.MakeNoZero", "internal/bytealg.CountString", "internal/bytealg.IndexByteString", "internal/bytealg.IndexString"], named := ["hutch/tally.names", "unicode/utf8.first", "unicode/utf8.acceptRanges", "internal/bytealg.MaxLen"], apart := false, laid := [("unicode/utf8.acceptRanges", laid_unicode_utf8_acceptRanges), ("hutch/tally.names", laid_hutch_tally_names), ("unicode/utf8.first", laid_unicode_utf8_first)] }
def TallyReadsSaid : Prop := tallyReadsRow.holds Tryd.pinned (OpenSpec.ofChange tallyReadsSpec)

/-- ITS FALSE NEIGHBOUR: 'it returns false'. Refute it at one input. -/
def tallyReadsWrong : ChangeSpec := { name := "tallyReads", fn := fun _ => fun
  | [d1, d2] => { results := [.lit (.bool false)], args := [d1, d2] }
  | _ => none }
def TallyReadsWrongFalsely : Prop := tallyReadsRow.holds Tryd.pinned (OpenSpec.ofChange tallyReadsWrong)

/- THE SECOND FORM. 'bulk': how many values and letters a reading holds, each counted each time it is reached (what is shared counts as often as it is met; a slice's spare places count too). A statement '..UptoSaid' is the law's where the arguments, and the package variables that the reading takes, are together of bulk at most 1048576: NARROWER than '..Said'. Prove '..Said' where nothing that the law and all that it calls make is longer than what came in: it says more and counts as full. Else prove '..UptoSaid'. A law counts once. -/
mutual
def uptoBulk {H : Type} : DataW H → Nat
  | .lit (.string bytes) => bytes.length + 1
  | .lit _ => 1
  | .nil => 1
  | .ptr d => uptoBulk d + 1
  | .slice elems spare => uptoBulkAll elems + uptoBulkAll spare + 1
  | .agg parts => uptoBulkAll parts + 1
  | .iface _ d => uptoBulk d + 1
  | .map entries => uptoBulkEntries entries + 1
  | .held _ => 1
def uptoBulkAll {H : Type} : List (DataW H) → Nat
  | [] => 0
  | d :: r => uptoBulk d + uptoBulkAll r
def uptoBulkEntries {H : Type} : List (Lit × DataW H) → Nat
  | [] => 0
  | x :: r => uptoBulkEntry x + uptoBulkEntries r
def uptoBulkEntry {H : Type} : Lit × DataW H → Nat
  | (.string bytes, d) => bytes.length + uptoBulk d + 1
  | (_, d) => uptoBulk d + 1
 end
def uptoSmall : (H : Type) → List (DataW H) → Bool := fun _ ds => decide (uptoBulkAll ds ≤ 1048576)
def OpenSpec.upto (s : _root_.Go.ChangeSpec) : _root_.Go.OpenSpec := { _root_.Go.OpenSpec.ofChange s with cond := some uptoSmall }

/-- 'hutchlaw10.TallyAdds', WHERE WHAT IT READS IS OF BULK AT MOST 1048576: true; the input reads as it did. -/
def tallyAddsUptoRow : OpenClaim := { program := "ytnnjfbnaojdloaadoor", sum := "ae26cc75872aff98fe3067a6423c43c36db46b25f20fbe77a7037ab5b9d9d901", func := "hutch/hutchlaw10.TallyAdds", spec := "tallyAdds", inPlace := ["internal/abi.NoEscape", "internal/bytealg.MakeNoZero"], named := ["hutch/tally.names"], apart := false, laid := [("hutch/tally.names", laid_hutch_tally_names)], narrowed := true }
def TallyAddsUptoSaid : Prop := tallyAddsUptoRow.holds Tryd.pinned (OpenSpec.upto tallyAddsSpec)

/-- 'hutchlaw10.TallyOf', WHERE WHAT IT READS IS OF BULK AT MOST 1048576: true; the input reads as it did. -/
def tallyOfUptoRow : OpenClaim := { program := "ytnnjfbnaojdloaadoor", sum := "ae26cc75872aff98fe3067a6423c43c36db46b25f20fbe77a7037ab5b9d9d901", func := "hutch/hutchlaw10.TallyOf", spec := "tallyOf", inPlace := ["internal/abi.NoEscape", "internal/bytealg.MakeNoZero"], named := ["hutch/tally.names"], apart := false, laid := [("hutch/tally.names", laid_hutch_tally_names)], narrowed := true }
def TallyOfUptoSaid : Prop := tallyOfUptoRow.holds Tryd.pinned (OpenSpec.upto tallyOfSpec)

/-- 'hutchlaw10.TallyReads', WHERE WHAT IT READS IS OF BULK AT MOST 1048576: true; the input reads as it did. -/
def tallyReadsUptoRow : OpenClaim := { program := "ytnnjfbnaojdloaadoor", sum := "ae26cc75872aff98fe3067a6423c43c36db46b25f20fbe77a7037ab5b9d9d901", func := "hutch/hutchlaw10.TallyReads", spec := "tallyReads", inPlace := ["internal/abi.NoEscape", "internal/bytealg.MakeNoZero", "internal/bytealg.CountString", "internal/bytealg.IndexByteString", "internal/bytealg.IndexString"], named := ["hutch/tally.names", "unicode/utf8.first", "unicode/utf8.acceptRanges", "internal/bytealg.MaxLen"], apart := false, laid := [("unicode/utf8.acceptRanges", laid_unicode_utf8_acceptRanges), ("hutch/tally.names", laid_hutch_tally_names), ("unicode/utf8.first", laid_unicode_utf8_first)], narrowed := true }
def TallyReadsUptoSaid : Prop := tallyReadsUptoRow.holds Tryd.pinned (OpenSpec.upto tallyReadsSpec)

end Rows
end Go.Proofs.YtnnjfbnaojdloaaDoor

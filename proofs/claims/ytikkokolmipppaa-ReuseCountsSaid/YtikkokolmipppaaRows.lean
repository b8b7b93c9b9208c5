/-
  No cell of these rows narrows 'for every input' (looked for: loops, veiled, ifaces, maps, wideKeys, modest, calm, conditions, laid).
  DERIVED. THE GIVEN ROWS OF THIS SEAT. 4 by the template 'for every input the law returns true; each argument reads behind the call as it read before'; 0 by the template 'total and deterministic' (their statements: YtikkokolmipppaaTotals.lean).
  GIVEN WITH THE SEED: the statements are not yours to turn. If you find one false, say at which input.
  Laid BY PROGRAM, IN A SANDBOX (cutbox-rows.mjs): the forced cells as the released guide's own fill.sh prints them over the translation 7dad0e8a6ff22b94… (all of the seat's roots in one cut). By AI agents, Wed Nov 11 2026. No macro, syntax, notation, axiom, sorry.
-/
import Derived.Test.YtikkokolmipppaaChecked
import GoSem.Claim
import GoSem.ClaimJoined
import GoSem.ClaimMapViews
import Derived.JoinedTies
import Derived.KernelRfl
namespace Go.Proofs.Ytikkokolmipppaa
/- THE CELL 'sum', in the pinned program and in every row, IS THE sha256 OF THE DUMP (.gsa) THAT YtikkokolmipppaaProg.lean LOADS. Nothing in Lean hashes anything: it is a label: what it is worth is what the hold of that sum in a sandbox is worth. -/
noncomputable def Try.pinned : Pinned := { name := "ytikkokolmipppaa", sum := "7dad0e8a6ff22b94367e44cfacc72dff9918f54a797ae163baf85287854af068", checked := Try.checked }
namespace Rows
def none {H : Type} : Left H := { results := [], args := [] }

/-- 'hutchlaw25.ReusePlaces': WHATEVER THE INPUT: true; the input reads as it did. -/
def reusePlacesSpec : ChangeSpec := { name := "reusePlaces", fn := fun _ => fun
  | [d] => { results := [.lit (.bool true)], args := [d] }
  | _ => none }
def reusePlacesRow : OpenClaim := { program := "ytikkokolmipppaa", sum := "7dad0e8a6ff22b94367e44cfacc72dff9918f54a797ae163baf85287854af068", func := "hutch/hutchlaw25.ReusePlaces", spec := "reusePlaces", apart := false }
def ReusePlacesSaid : Prop := reusePlacesRow.holds Try.pinned (OpenSpec.ofChange reusePlacesSpec)

/-- ITS FALSE NEIGHBOUR: 'it returns false'. Refute it at one input. -/
def reusePlacesWrong : ChangeSpec := { name := "reusePlaces", fn := fun _ => fun
  | [d] => { results := [.lit (.bool false)], args := [d] }
  | _ => none }
def ReusePlacesWrongFalsely : Prop := reusePlacesRow.holds Try.pinned (OpenSpec.ofChange reusePlacesWrong)

/-- 'hutchlaw25.ReuseTurned': WHATEVER THE INPUT: true; the input reads as it did. -/
def reuseTurnedSpec : ChangeSpec := { name := "reuseTurned", fn := fun _ => fun
  | [d] => { results := [.lit (.bool true)], args := [d] }
  | _ => none }
def reuseTurnedRow : OpenClaim := { program := "ytikkokolmipppaa", sum := "7dad0e8a6ff22b94367e44cfacc72dff9918f54a797ae163baf85287854af068", func := "hutch/hutchlaw25.ReuseTurned", spec := "reuseTurned", apart := false }
def ReuseTurnedSaid : Prop := reuseTurnedRow.holds Try.pinned (OpenSpec.ofChange reuseTurnedSpec)

/-- ITS FALSE NEIGHBOUR: 'it returns false'. Refute it at one input. -/
def reuseTurnedWrong : ChangeSpec := { name := "reuseTurned", fn := fun _ => fun
  | [d] => { results := [.lit (.bool false)], args := [d] }
  | _ => none }
def ReuseTurnedWrongFalsely : Prop := reuseTurnedRow.holds Try.pinned (OpenSpec.ofChange reuseTurnedWrong)

/-- 'hutchlaw25.ReuseRecency': WHATEVER THE INPUT: true; the input reads as it did. -/
def reuseRecencySpec : ChangeSpec := { name := "reuseRecency", fn := fun _ => fun
  | [d1, d2, d3] => { results := [.lit (.bool true)], args := [d1, d2, d3] }
  | _ => none }
def reuseRecencyRow : OpenClaim := { program := "ytikkokolmipppaa", sum := "7dad0e8a6ff22b94367e44cfacc72dff9918f54a797ae163baf85287854af068", func := "hutch/hutchlaw25.ReuseRecency", spec := "reuseRecency", apart := false }
def ReuseRecencySaid : Prop := reuseRecencyRow.holds Try.pinned (OpenSpec.ofChange reuseRecencySpec)

/-- ITS FALSE NEIGHBOUR: 'it returns false'. Refute it at one input. -/
def reuseRecencyWrong : ChangeSpec := { name := "reuseRecency", fn := fun _ => fun
  | [d1, d2, d3] => { results := [.lit (.bool false)], args := [d1, d2, d3] }
  | _ => none }
def ReuseRecencyWrongFalsely : Prop := reuseRecencyRow.holds Try.pinned (OpenSpec.ofChange reuseRecencyWrong)

/-- 'hutchlaw25.ReuseCounts': WHATEVER THE INPUT: true; the input reads as it did. -/
def reuseCountsSpec : ChangeSpec := { name := "reuseCounts", fn := fun _ => fun
  | [d] => { results := [.lit (.bool true)], args := [d] }
  | _ => none }
def reuseCountsRow : OpenClaim := { program := "ytikkokolmipppaa", sum := "7dad0e8a6ff22b94367e44cfacc72dff9918f54a797ae163baf85287854af068", func := "hutch/hutchlaw25.ReuseCounts", spec := "reuseCounts", apart := false }
def ReuseCountsSaid : Prop := reuseCountsRow.holds Try.pinned (OpenSpec.ofChange reuseCountsSpec)

/-- ITS FALSE NEIGHBOUR: 'it returns false'. Refute it at one input. -/
def reuseCountsWrong : ChangeSpec := { name := "reuseCounts", fn := fun _ => fun
  | [d] => { results := [.lit (.bool false)], args := [d] }
  | _ => none }
def ReuseCountsWrongFalsely : Prop := reuseCountsRow.holds Try.pinned (OpenSpec.ofChange reuseCountsWrong)

/- THE SECOND FORM. 'bulk': how many values and letters a reading holds, each counted each time it is reached (what is shared counts as often as it is met; a slice's spare places count too). A statement '..UptoSaid' is the law's where the arguments, and the package variables that the reading takes, are together of bulk at most 1048576: NARROWER than '..Said'. Prove '..Said' where nothing that the law and all that it calls make is longer than what came in: it says more and counts as full. Else prove '..UptoSaid'. A law counts once. -/
mutual
def uptoBulk {H : Type} : DataW H → Nat
  | .lit (.string bytes) => bytes.length + 1
  | .lit _ => 1
  | .nil => 1
  | .ptr d => uptoBulk d + 1
  | .slice elems spare => uptoBulkAll elems + uptoBulkAll spare + 1
  | .agg parts => uptoBulkAll parts + 1
  | .iface _ d => uptoBulk d + 1
  | .map entries => uptoBulkEntries entries + 1
  | .held _ => 1
def uptoBulkAll {H : Type} : List (DataW H) → Nat
  | [] => 0
  | d :: r => uptoBulk d + uptoBulkAll r
def uptoBulkEntries {H : Type} : List (Lit × DataW H) → Nat
  | [] => 0
  | x :: r => uptoBulkEntry x + uptoBulkEntries r
def uptoBulkEntry {H : Type} : Lit × DataW H → Nat
  | (.string bytes, d) => bytes.length + uptoBulk d + 1
  | (_, d) => uptoBulk d + 1
 end
def uptoSmall : (H : Type) → List (DataW H) → Bool := fun _ ds => decide (uptoBulkAll ds ≤ 1048576)
def OpenSpec.upto (s : _root_.Go.ChangeSpec) : _root_.Go.OpenSpec := { _root_.Go.OpenSpec.ofChange s with cond := some uptoSmall }

/-- 'hutchlaw25.ReusePlaces', WHERE WHAT IT READS IS OF BULK AT MOST 1048576: true; the input reads as it did. -/
def reusePlacesUptoRow : OpenClaim := { program := "ytikkokolmipppaa", sum := "7dad0e8a6ff22b94367e44cfacc72dff9918f54a797ae163baf85287854af068", func := "hutch/hutchlaw25.ReusePlaces", spec := "reusePlaces", apart := false, narrowed := true }
def ReusePlacesUptoSaid : Prop := reusePlacesUptoRow.holds Try.pinned (OpenSpec.upto reusePlacesSpec)

/-- 'hutchlaw25.ReuseTurned', WHERE WHAT IT READS IS OF BULK AT MOST 1048576: true; the input reads as it did. -/
def reuseTurnedUptoRow : OpenClaim := { program := "ytikkokolmipppaa", sum := "7dad0e8a6ff22b94367e44cfacc72dff9918f54a797ae163baf85287854af068", func := "hutch/hutchlaw25.ReuseTurned", spec := "reuseTurned", apart := false, narrowed := true }
def ReuseTurnedUptoSaid : Prop := reuseTurnedUptoRow.holds Try.pinned (OpenSpec.upto reuseTurnedSpec)

/-- 'hutchlaw25.ReuseRecency', WHERE WHAT IT READS IS OF BULK AT MOST 1048576: true; the input reads as it did. -/
def reuseRecencyUptoRow : OpenClaim := { program := "ytikkokolmipppaa", sum := "7dad0e8a6ff22b94367e44cfacc72dff9918f54a797ae163baf85287854af068", func := "hutch/hutchlaw25.ReuseRecency", spec := "reuseRecency", apart := false, narrowed := true }
def ReuseRecencyUptoSaid : Prop := reuseRecencyUptoRow.holds Try.pinned (OpenSpec.upto reuseRecencySpec)

/-- 'hutchlaw25.ReuseCounts', WHERE WHAT IT READS IS OF BULK AT MOST 1048576: true; the input reads as it did. -/
def reuseCountsUptoRow : OpenClaim := { program := "ytikkokolmipppaa", sum := "7dad0e8a6ff22b94367e44cfacc72dff9918f54a797ae163baf85287854af068", func := "hutch/hutchlaw25.ReuseCounts", spec := "reuseCounts", apart := false, narrowed := true }
def ReuseCountsUptoSaid : Prop := reuseCountsUptoRow.holds Try.pinned (OpenSpec.upto reuseCountsSpec)

end Rows
end Go.Proofs.Ytikkokolmipppaa

/-
  No cell of these rows narrows 'for every input' (looked for: loops, veiled, ifaces, maps, wideKeys, modest, calm, conditions, laid).
  DERIVED. THE GIVEN ROWS OF THIS SEAT. 4 by the template 'for every input the law returns true; each argument reads behind the call as it read before'; 0 by the template 'total and deterministic' (their statements: YtdcciodnlnkjpaaTotals.lean).
  GIVEN WITH THE SEED: the statements are not yours to turn. If you find one false, say at which input.
  Laid BY PROGRAM, IN A SANDBOX (cutbox-rows.mjs): the forced cells as the released guide's own fill.sh prints them over the translation 2f4833edeca63735… (all of the seat's roots in one cut). By AI agents, Wed Nov 11 2026. No macro, syntax, notation, axiom, sorry.
-/
import Derived.Test.YtdcciodnlnkjpaaChecked
import GoSem.Claim
import GoSem.ClaimJoined
import GoSem.ClaimMapViews
import Derived.JoinedTies
import Derived.KernelRfl
namespace Go.Proofs.Ytdcciodnlnkjpaa
/- THE CELL 'sum', in the pinned program and in every row, IS THE sha256 OF THE DUMP (.gsa) THAT YtdcciodnlnkjpaaProg.lean LOADS. Nothing in Lean hashes anything: it is a label: what it is worth is what the hold of that sum in a sandbox is worth. -/
noncomputable def Try.pinned : Pinned := { name := "ytdcciodnlnkjpaa", sum := "2f4833edeca63735ec856b2d1066238ffa0edd9073f8f0c927bd7f2597541ca3", checked := Try.checked }
namespace Rows
def none {H : Type} : Left H := { results := [], args := [] }

/-- 'hutchlaw03.SlabShapes': WHATEVER THE INPUT: true; the input reads as it did. -/
def slabShapesSpec : ChangeSpec := { name := "slabShapes", fn := fun _ => fun
  | [d1, d2] => { results := [.lit (.bool true)], args := [d1, d2] }
  | _ => none }
def slabShapesRow : OpenClaim := { program := "ytdcciodnlnkjpaa", sum := "2f4833edeca63735ec856b2d1066238ffa0edd9073f8f0c927bd7f2597541ca3", func := "hutch/hutchlaw03.SlabShapes", spec := "slabShapes", apart := false }
def SlabShapesSaid : Prop := slabShapesRow.holds Try.pinned (OpenSpec.ofChange slabShapesSpec)

/-- ITS FALSE NEIGHBOUR: 'it returns false'. Refute it at one input. -/
def slabShapesWrong : ChangeSpec := { name := "slabShapes", fn := fun _ => fun
  | [d1, d2] => { results := [.lit (.bool false)], args := [d1, d2] }
  | _ => none }
def SlabShapesWrongFalsely : Prop := slabShapesRow.holds Try.pinned (OpenSpec.ofChange slabShapesWrong)

/-- 'hutchlaw03.SlabStale': WHATEVER THE INPUT: true; the input reads as it did. -/
def slabStaleSpec : ChangeSpec := { name := "slabStale", fn := fun _ => fun
  | [d1, d2] => { results := [.lit (.bool true)], args := [d1, d2] }
  | _ => none }
def slabStaleRow : OpenClaim := { program := "ytdcciodnlnkjpaa", sum := "2f4833edeca63735ec856b2d1066238ffa0edd9073f8f0c927bd7f2597541ca3", func := "hutch/hutchlaw03.SlabStale", spec := "slabStale", apart := false }
def SlabStaleSaid : Prop := slabStaleRow.holds Try.pinned (OpenSpec.ofChange slabStaleSpec)

/-- ITS FALSE NEIGHBOUR: 'it returns false'. Refute it at one input. -/
def slabStaleWrong : ChangeSpec := { name := "slabStale", fn := fun _ => fun
  | [d1, d2] => { results := [.lit (.bool false)], args := [d1, d2] }
  | _ => none }
def SlabStaleWrongFalsely : Prop := slabStaleRow.holds Try.pinned (OpenSpec.ofChange slabStaleWrong)

/-- 'hutchlaw03.SlabPlays': WHATEVER THE INPUT: true; the input reads as it did. -/
def slabPlaysSpec : ChangeSpec := { name := "slabPlays", fn := fun _ => fun
  | [d1, d2, d3] => { results := [.lit (.bool true)], args := [d1, d2, d3] }
  | _ => none }
def slabPlaysRow : OpenClaim := { program := "ytdcciodnlnkjpaa", sum := "2f4833edeca63735ec856b2d1066238ffa0edd9073f8f0c927bd7f2597541ca3", func := "hutch/hutchlaw03.SlabPlays", spec := "slabPlays", unfollowed := true, recurses := true, apart := false }
def SlabPlaysSaid : Prop := slabPlaysRow.holds Try.pinned (OpenSpec.ofChange slabPlaysSpec)

/-- ITS FALSE NEIGHBOUR: 'it returns false'. Refute it at one input. -/
def slabPlaysWrong : ChangeSpec := { name := "slabPlays", fn := fun _ => fun
  | [d1, d2, d3] => { results := [.lit (.bool false)], args := [d1, d2, d3] }
  | _ => none }
def SlabPlaysWrongFalsely : Prop := slabPlaysRow.holds Try.pinned (OpenSpec.ofChange slabPlaysWrong)

/-- 'hutchlaw03.SlabNil': WHATEVER THE INPUT: true; the input reads as it did. -/
def slabNilSpec : ChangeSpec := { name := "slabNil", fn := fun _ => fun
  | [d1, d2] => { results := [.lit (.bool true)], args := [d1, d2] }
  | _ => none }
def slabNilRow : OpenClaim := { program := "ytdcciodnlnkjpaa", sum := "2f4833edeca63735ec856b2d1066238ffa0edd9073f8f0c927bd7f2597541ca3", func := "hutch/hutchlaw03.SlabNil", spec := "slabNil", unfollowed := true, recurses := true, apart := false }
def SlabNilSaid : Prop := slabNilRow.holds Try.pinned (OpenSpec.ofChange slabNilSpec)

/-- ITS FALSE NEIGHBOUR: 'it returns false'. Refute it at one input. -/
def slabNilWrong : ChangeSpec := { name := "slabNil", fn := fun _ => fun
  | [d1, d2] => { results := [.lit (.bool false)], args := [d1, d2] }
  | _ => none }
def SlabNilWrongFalsely : Prop := slabNilRow.holds Try.pinned (OpenSpec.ofChange slabNilWrong)

/- THE SECOND FORM. 'bulk': how many values and letters a reading holds, each counted each time it is reached (what is shared counts as often as it is met; a slice's spare places count too). A statement '..UptoSaid' is the law's where the arguments, and the package variables that the reading takes, are together of bulk at most 1048576: NARROWER than '..Said'. Prove '..Said' where nothing that the law and all that it calls make is longer than what came in: it says more and counts as full. Else prove '..UptoSaid'. A law counts once. -/
mutual
def uptoBulk {H : Type} : DataW H → Nat
  | .lit (.string bytes) => bytes.length + 1
  | .lit _ => 1
  | .nil => 1
  | .ptr d => uptoBulk d + 1
  | .slice elems spare => uptoBulkAll elems + uptoBulkAll spare + 1
  | .agg parts => uptoBulkAll parts + 1
  | .iface _ d => uptoBulk d + 1
  | .map entries => uptoBulkEntries entries + 1
  | .held _ => 1
def uptoBulkAll {H : Type} : List (DataW H) → Nat
  | [] => 0
  | d :: r => uptoBulk d + uptoBulkAll r
def uptoBulkEntries {H : Type} : List (Lit × DataW H) → Nat
  | [] => 0
  | x :: r => uptoBulkEntry x + uptoBulkEntries r
def uptoBulkEntry {H : Type} : Lit × DataW H → Nat
  | (.string bytes, d) => bytes.length + uptoBulk d + 1
  | (_, d) => uptoBulk d + 1
 end
def uptoSmall : (H : Type) → List (DataW H) → Bool := fun _ ds => decide (uptoBulkAll ds ≤ 1048576)
def OpenSpec.upto (s : _root_.Go.ChangeSpec) : _root_.Go.OpenSpec := { _root_.Go.OpenSpec.ofChange s with cond := some uptoSmall }

/-- 'hutchlaw03.SlabShapes', WHERE WHAT IT READS IS OF BULK AT MOST 1048576: true; the input reads as it did. -/
def slabShapesUptoRow : OpenClaim := { program := "ytdcciodnlnkjpaa", sum := "2f4833edeca63735ec856b2d1066238ffa0edd9073f8f0c927bd7f2597541ca3", func := "hutch/hutchlaw03.SlabShapes", spec := "slabShapes", apart := false, narrowed := true }
def SlabShapesUptoSaid : Prop := slabShapesUptoRow.holds Try.pinned (OpenSpec.upto slabShapesSpec)

/-- 'hutchlaw03.SlabStale', WHERE WHAT IT READS IS OF BULK AT MOST 1048576: true; the input reads as it did. -/
def slabStaleUptoRow : OpenClaim := { program := "ytdcciodnlnkjpaa", sum := "2f4833edeca63735ec856b2d1066238ffa0edd9073f8f0c927bd7f2597541ca3", func := "hutch/hutchlaw03.SlabStale", spec := "slabStale", apart := false, narrowed := true }
def SlabStaleUptoSaid : Prop := slabStaleUptoRow.holds Try.pinned (OpenSpec.upto slabStaleSpec)

/-- 'hutchlaw03.SlabPlays', WHERE WHAT IT READS IS OF BULK AT MOST 1048576: true; the input reads as it did. -/
def slabPlaysUptoRow : OpenClaim := { program := "ytdcciodnlnkjpaa", sum := "2f4833edeca63735ec856b2d1066238ffa0edd9073f8f0c927bd7f2597541ca3", func := "hutch/hutchlaw03.SlabPlays", spec := "slabPlays", unfollowed := true, recurses := true, apart := false, narrowed := true }
def SlabPlaysUptoSaid : Prop := slabPlaysUptoRow.holds Try.pinned (OpenSpec.upto slabPlaysSpec)

/-- 'hutchlaw03.SlabNil', WHERE WHAT IT READS IS OF BULK AT MOST 1048576: true; the input reads as it did. -/
def slabNilUptoRow : OpenClaim := { program := "ytdcciodnlnkjpaa", sum := "2f4833edeca63735ec856b2d1066238ffa0edd9073f8f0c927bd7f2597541ca3", func := "hutch/hutchlaw03.SlabNil", spec := "slabNil", unfollowed := true, recurses := true, apart := false, narrowed := true }
def SlabNilUptoSaid : Prop := slabNilUptoRow.holds Try.pinned (OpenSpec.upto slabNilSpec)

end Rows
end Go.Proofs.Ytdcciodnlnkjpaa

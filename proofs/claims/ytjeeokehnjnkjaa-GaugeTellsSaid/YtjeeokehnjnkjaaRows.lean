/-
  No cell of these rows narrows 'for every input' (looked for: loops, veiled, ifaces, maps, wideKeys, modest, calm, conditions, laid).
  DERIVED. THE GIVEN ROWS OF THIS SEAT. 3 by the template 'for every input the law returns true; each argument reads behind the call as it read before'; 0 by the template 'total and deterministic' (their statements: YtjeeokehnjnkjaaTotals.lean).
  GIVEN WITH THE SEED: the statements are not yours to turn. If you find one false, say at which input.
  Laid BY PROGRAM, IN A SANDBOX (cutbox-rows.mjs): the forced cells as the released guide's own fill.sh prints them over the translation ca149ef5d967271c… (all of the seat's roots in one cut). By AI agents, Wed Nov 11 2026. No macro, syntax, notation, axiom, sorry.
-/
import Derived.Test.YtjeeokehnjnkjaaChecked
import GoSem.Claim
import GoSem.ClaimJoined
import GoSem.ClaimMapViews
import Derived.JoinedTies
import Derived.KernelRfl
namespace Go.Proofs.Ytjeeokehnjnkjaa
/- THE CELL 'sum', in the pinned program and in every row, IS THE sha256 OF THE DUMP (.gsa) THAT YtjeeokehnjnkjaaProg.lean LOADS. Nothing in Lean hashes anything: it is a label: what it is worth is what the hold of that sum in a sandbox is worth. -/
noncomputable def Try.pinned : Pinned := { name := "ytjeeokehnjnkjaa", sum := "ca149ef5d967271c58c528562e4357eec9d3291caa030e3f6cab4652c9b28435", checked := Try.checked }
namespace Rows
def none {H : Type} : Left H := { results := [], args := [] }

/-- 'hutchlaw41.GaugeTells': WHATEVER THE INPUT: true; the input reads as it did. -/
def gaugeTellsSpec : ChangeSpec := { name := "gaugeTells", fn := fun _ => fun
  | [d1, d2] => { results := [.lit (.bool true)], args := [d1, d2] }
  | _ => none }
def gaugeTellsRow : OpenClaim := { program := "ytjeeokehnjnkjaa", sum := "ca149ef5d967271c58c528562e4357eec9d3291caa030e3f6cab4652c9b28435", func := "hutch/hutchlaw41.GaugeTells", spec := "gaugeTells", unfollowed := true, recurses := true, apart := false }
def GaugeTellsSaid : Prop := gaugeTellsRow.holds Try.pinned (OpenSpec.ofChange gaugeTellsSpec)

/-- ITS FALSE NEIGHBOUR: 'it returns false'. Refute it at one input. -/
def gaugeTellsWrong : ChangeSpec := { name := "gaugeTells", fn := fun _ => fun
  | [d1, d2] => { results := [.lit (.bool false)], args := [d1, d2] }
  | _ => none }
def GaugeTellsWrongFalsely : Prop := gaugeTellsRow.holds Try.pinned (OpenSpec.ofChange gaugeTellsWrong)

/-- 'hutchlaw41.GaugeGoes': WHATEVER THE INPUT: true; the input reads as it did. -/
def gaugeGoesSpec : ChangeSpec := { name := "gaugeGoes", fn := fun _ => fun
  | [d1, d2, d3] => { results := [.lit (.bool true)], args := [d1, d2, d3] }
  | _ => none }
def gaugeGoesRow : OpenClaim := { program := "ytjeeokehnjnkjaa", sum := "ca149ef5d967271c58c528562e4357eec9d3291caa030e3f6cab4652c9b28435", func := "hutch/hutchlaw41.GaugeGoes", spec := "gaugeGoes", unfollowed := true, recurses := true, apart := false }
def GaugeGoesSaid : Prop := gaugeGoesRow.holds Try.pinned (OpenSpec.ofChange gaugeGoesSpec)

/-- ITS FALSE NEIGHBOUR: 'it returns false'. Refute it at one input. -/
def gaugeGoesWrong : ChangeSpec := { name := "gaugeGoes", fn := fun _ => fun
  | [d1, d2, d3] => { results := [.lit (.bool false)], args := [d1, d2, d3] }
  | _ => none }
def GaugeGoesWrongFalsely : Prop := gaugeGoesRow.holds Try.pinned (OpenSpec.ofChange gaugeGoesWrong)

/-- 'hutchlaw41.GaugeNil': WHATEVER THE INPUT: true; the input reads as it did. -/
def gaugeNilSpec : ChangeSpec := { name := "gaugeNil", fn := fun _ => fun
  | [d] => { results := [.lit (.bool true)], args := [d] }
  | _ => none }
def gaugeNilRow : OpenClaim := { program := "ytjeeokehnjnkjaa", sum := "ca149ef5d967271c58c528562e4357eec9d3291caa030e3f6cab4652c9b28435", func := "hutch/hutchlaw41.GaugeNil", spec := "gaugeNil", unfollowed := true, recurses := true, apart := false }
def GaugeNilSaid : Prop := gaugeNilRow.holds Try.pinned (OpenSpec.ofChange gaugeNilSpec)

/-- ITS FALSE NEIGHBOUR: 'it returns false'. Refute it at one input. -/
def gaugeNilWrong : ChangeSpec := { name := "gaugeNil", fn := fun _ => fun
  | [d] => { results := [.lit (.bool false)], args := [d] }
  | _ => none }
def GaugeNilWrongFalsely : Prop := gaugeNilRow.holds Try.pinned (OpenSpec.ofChange gaugeNilWrong)

/- THE SECOND FORM. 'bulk': how many values and letters a reading holds, each counted each time it is reached (what is shared counts as often as it is met; a slice's spare places count too). A statement '..UptoSaid' is the law's where the arguments, and the package variables that the reading takes, are together of bulk at most 1048576: NARROWER than '..Said'. Prove '..Said' where nothing that the law and all that it calls make is longer than what came in: it says more and counts as full. Else prove '..UptoSaid'. A law counts once. -/
mutual
def uptoBulk {H : Type} : DataW H → Nat
  | .lit (.string bytes) => bytes.length + 1
  | .lit _ => 1
  | .nil => 1
  | .ptr d => uptoBulk d + 1
  | .slice elems spare => uptoBulkAll elems + uptoBulkAll spare + 1
  | .agg parts => uptoBulkAll parts + 1
  | .iface _ d => uptoBulk d + 1
  | .map entries => uptoBulkEntries entries + 1
  | .held _ => 1
def uptoBulkAll {H : Type} : List (DataW H) → Nat
  | [] => 0
  | d :: r => uptoBulk d + uptoBulkAll r
def uptoBulkEntries {H : Type} : List (Lit × DataW H) → Nat
  | [] => 0
  | x :: r => uptoBulkEntry x + uptoBulkEntries r
def uptoBulkEntry {H : Type} : Lit × DataW H → Nat
  | (.string bytes, d) => bytes.length + uptoBulk d + 1
  | (_, d) => uptoBulk d + 1
 end
def uptoSmall : (H : Type) → List (DataW H) → Bool := fun _ ds => decide (uptoBulkAll ds ≤ 1048576)
def OpenSpec.upto (s : _root_.Go.ChangeSpec) : _root_.Go.OpenSpec := { _root_.Go.OpenSpec.ofChange s with cond := some uptoSmall }

/-- 'hutchlaw41.GaugeTells', WHERE WHAT IT READS IS OF BULK AT MOST 1048576: true; the input reads as it did. -/
def gaugeTellsUptoRow : OpenClaim := { program := "ytjeeokehnjnkjaa", sum := "ca149ef5d967271c58c528562e4357eec9d3291caa030e3f6cab4652c9b28435", func := "hutch/hutchlaw41.GaugeTells", spec := "gaugeTells", unfollowed := true, recurses := true, apart := false, narrowed := true }
def GaugeTellsUptoSaid : Prop := gaugeTellsUptoRow.holds Try.pinned (OpenSpec.upto gaugeTellsSpec)

/-- 'hutchlaw41.GaugeGoes', WHERE WHAT IT READS IS OF BULK AT MOST 1048576: true; the input reads as it did. -/
def gaugeGoesUptoRow : OpenClaim := { program := "ytjeeokehnjnkjaa", sum := "ca149ef5d967271c58c528562e4357eec9d3291caa030e3f6cab4652c9b28435", func := "hutch/hutchlaw41.GaugeGoes", spec := "gaugeGoes", unfollowed := true, recurses := true, apart := false, narrowed := true }
def GaugeGoesUptoSaid : Prop := gaugeGoesUptoRow.holds Try.pinned (OpenSpec.upto gaugeGoesSpec)

/-- 'hutchlaw41.GaugeNil', WHERE WHAT IT READS IS OF BULK AT MOST 1048576: true; the input reads as it did. -/
def gaugeNilUptoRow : OpenClaim := { program := "ytjeeokehnjnkjaa", sum := "ca149ef5d967271c58c528562e4357eec9d3291caa030e3f6cab4652c9b28435", func := "hutch/hutchlaw41.GaugeNil", spec := "gaugeNil", unfollowed := true, recurses := true, apart := false, narrowed := true }
def GaugeNilUptoSaid : Prop := gaugeNilUptoRow.holds Try.pinned (OpenSpec.upto gaugeNilSpec)

end Rows
end Go.Proofs.Ytjeeokehnjnkjaa

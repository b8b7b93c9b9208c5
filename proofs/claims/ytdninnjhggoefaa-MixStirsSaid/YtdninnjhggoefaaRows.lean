/-
  No cell of these rows narrows 'for every input' (looked for: loops, veiled, ifaces, maps, wideKeys, modest, calm, conditions, laid).
  DERIVED. THE GIVEN ROWS OF THIS SEAT. 4 by the template 'for every input the law returns true; each argument reads behind the call as it read before'; 0 by the template 'total and deterministic' (their statements: YtdninnjhggoefaaTotals.lean).
  GIVEN WITH THE SEED: the statements are not yours to turn. If you find one false, say at which input.
  Laid BY PROGRAM, IN A SANDBOX (cutbox-rows.mjs): the forced cells as the released guide's own fill.sh prints them over the translation 9c1df227c518f805… (all of the seat's roots in one cut). By AI agents, Wed Nov 11 2026. No macro, syntax, notation, axiom, sorry.
-/
import Derived.Test.YtdninnjhggoefaaChecked
import GoSem.Claim
import GoSem.ClaimJoined
import GoSem.ClaimMapViews
import Derived.JoinedTies
import Derived.KernelRfl
namespace Go.Proofs.Ytdninnjhggoefaa
/- THE CELL 'sum', in the pinned program and in every row, IS THE sha256 OF THE DUMP (.gsa) THAT YtdninnjhggoefaaProg.lean LOADS. Nothing in Lean hashes anything: it is a label: what it is worth is what the hold of that sum in a sandbox is worth. -/
noncomputable def Try.pinned : Pinned := { name := "ytdninnjhggoefaa", sum := "9c1df227c518f80507c25c2de252c6d4e5bd632cdd7122229a9613e78d9b55f5", checked := Try.checked }
namespace Rows
def none {H : Type} : Left H := { results := [], args := [] }

/-- 'hutchlaw01.MixStirs': WHATEVER THE INPUT: true; the input reads as it did. -/
def mixStirsSpec : ChangeSpec := { name := "mixStirs", fn := fun _ => fun
  | [d] => { results := [.lit (.bool true)], args := [d] }
  | _ => none }
def mixStirsRow : OpenClaim := { program := "ytdninnjhggoefaa", sum := "9c1df227c518f80507c25c2de252c6d4e5bd632cdd7122229a9613e78d9b55f5", func := "hutch/hutchlaw01.MixStirs", spec := "mixStirs", apart := false }
def MixStirsSaid : Prop := mixStirsRow.holds Try.pinned (OpenSpec.ofChange mixStirsSpec)

/-- ITS FALSE NEIGHBOUR: 'it returns false'. Refute it at one input. -/
def mixStirsWrong : ChangeSpec := { name := "mixStirs", fn := fun _ => fun
  | [d] => { results := [.lit (.bool false)], args := [d] }
  | _ => none }
def MixStirsWrongFalsely : Prop := mixStirsRow.holds Try.pinned (OpenSpec.ofChange mixStirsWrong)

/-- 'hutchlaw01.MixBack': WHATEVER THE INPUT: true; the input reads as it did. -/
def mixBackSpec : ChangeSpec := { name := "mixBack", fn := fun _ => fun
  | [d1, d2] => { results := [.lit (.bool true)], args := [d1, d2] }
  | _ => none }
def mixBackRow : OpenClaim := { program := "ytdninnjhggoefaa", sum := "9c1df227c518f80507c25c2de252c6d4e5bd632cdd7122229a9613e78d9b55f5", func := "hutch/hutchlaw01.MixBack", spec := "mixBack", apart := false }
def MixBackSaid : Prop := mixBackRow.holds Try.pinned (OpenSpec.ofChange mixBackSpec)

/-- ITS FALSE NEIGHBOUR: 'it returns false'. Refute it at one input. -/
def mixBackWrong : ChangeSpec := { name := "mixBack", fn := fun _ => fun
  | [d1, d2] => { results := [.lit (.bool false)], args := [d1, d2] }
  | _ => none }
def MixBackWrongFalsely : Prop := mixBackRow.holds Try.pinned (OpenSpec.ofChange mixBackWrong)

/-- 'hutchlaw01.MixSlots': WHATEVER THE INPUT: true; the input reads as it did. -/
def mixSlotsSpec : ChangeSpec := { name := "mixSlots", fn := fun _ => fun
  | [d1, d2] => { results := [.lit (.bool true)], args := [d1, d2] }
  | _ => none }
def mixSlotsRow : OpenClaim := { program := "ytdninnjhggoefaa", sum := "9c1df227c518f80507c25c2de252c6d4e5bd632cdd7122229a9613e78d9b55f5", func := "hutch/hutchlaw01.MixSlots", spec := "mixSlots", apart := false }
def MixSlotsSaid : Prop := mixSlotsRow.holds Try.pinned (OpenSpec.ofChange mixSlotsSpec)

/-- ITS FALSE NEIGHBOUR: 'it returns false'. Refute it at one input. -/
def mixSlotsWrong : ChangeSpec := { name := "mixSlots", fn := fun _ => fun
  | [d1, d2] => { results := [.lit (.bool false)], args := [d1, d2] }
  | _ => none }
def MixSlotsWrongFalsely : Prop := mixSlotsRow.holds Try.pinned (OpenSpec.ofChange mixSlotsWrong)

/-- 'hutchlaw01.MixBytes': WHATEVER THE INPUT: true; the input reads as it did. -/
def mixBytesSpec : ChangeSpec := { name := "mixBytes", fn := fun _ => fun
  | [d1, d2] => { results := [.lit (.bool true)], args := [d1, d2] }
  | _ => none }
def mixBytesRow : OpenClaim := { program := "ytdninnjhggoefaa", sum := "9c1df227c518f80507c25c2de252c6d4e5bd632cdd7122229a9613e78d9b55f5", func := "hutch/hutchlaw01.MixBytes", spec := "mixBytes", apart := false }
def MixBytesSaid : Prop := mixBytesRow.holds Try.pinned (OpenSpec.ofChange mixBytesSpec)

/-- ITS FALSE NEIGHBOUR: 'it returns false'. Refute it at one input. -/
def mixBytesWrong : ChangeSpec := { name := "mixBytes", fn := fun _ => fun
  | [d1, d2] => { results := [.lit (.bool false)], args := [d1, d2] }
  | _ => none }
def MixBytesWrongFalsely : Prop := mixBytesRow.holds Try.pinned (OpenSpec.ofChange mixBytesWrong)

/- THE SECOND FORM. 'bulk': how many values and letters a reading holds, each counted each time it is reached (what is shared counts as often as it is met; a slice's spare places count too). A statement '..UptoSaid' is the law's where the arguments, and the package variables that the reading takes, are together of bulk at most 1048576: NARROWER than '..Said'. Prove '..Said' where nothing that the law and all that it calls make is longer than what came in: it says more and counts as full. Else prove '..UptoSaid'. A law counts once. -/
mutual
def uptoBulk {H : Type} : DataW H → Nat
  | .lit (.string bytes) => bytes.length + 1
  | .lit _ => 1
  | .nil => 1
  | .ptr d => uptoBulk d + 1
  | .slice elems spare => uptoBulkAll elems + uptoBulkAll spare + 1
  | .agg parts => uptoBulkAll parts + 1
  | .iface _ d => uptoBulk d + 1
  | .map entries => uptoBulkEntries entries + 1
  | .held _ => 1
def uptoBulkAll {H : Type} : List (DataW H) → Nat
  | [] => 0
  | d :: r => uptoBulk d + uptoBulkAll r
def uptoBulkEntries {H : Type} : List (Lit × DataW H) → Nat
  | [] => 0
  | x :: r => uptoBulkEntry x + uptoBulkEntries r
def uptoBulkEntry {H : Type} : Lit × DataW H → Nat
  | (.string bytes, d) => bytes.length + uptoBulk d + 1
  | (_, d) => uptoBulk d + 1
 end
def uptoSmall : (H : Type) → List (DataW H) → Bool := fun _ ds => decide (uptoBulkAll ds ≤ 1048576)
def OpenSpec.upto (s : _root_.Go.ChangeSpec) : _root_.Go.OpenSpec := { _root_.Go.OpenSpec.ofChange s with cond := some uptoSmall }

/-- 'hutchlaw01.MixStirs', WHERE WHAT IT READS IS OF BULK AT MOST 1048576: true; the input reads as it did. -/
def mixStirsUptoRow : OpenClaim := { program := "ytdninnjhggoefaa", sum := "9c1df227c518f80507c25c2de252c6d4e5bd632cdd7122229a9613e78d9b55f5", func := "hutch/hutchlaw01.MixStirs", spec := "mixStirs", apart := false, narrowed := true }
def MixStirsUptoSaid : Prop := mixStirsUptoRow.holds Try.pinned (OpenSpec.upto mixStirsSpec)

/-- 'hutchlaw01.MixBack', WHERE WHAT IT READS IS OF BULK AT MOST 1048576: true; the input reads as it did. -/
def mixBackUptoRow : OpenClaim := { program := "ytdninnjhggoefaa", sum := "9c1df227c518f80507c25c2de252c6d4e5bd632cdd7122229a9613e78d9b55f5", func := "hutch/hutchlaw01.MixBack", spec := "mixBack", apart := false, narrowed := true }
def MixBackUptoSaid : Prop := mixBackUptoRow.holds Try.pinned (OpenSpec.upto mixBackSpec)

/-- 'hutchlaw01.MixSlots', WHERE WHAT IT READS IS OF BULK AT MOST 1048576: true; the input reads as it did. -/
def mixSlotsUptoRow : OpenClaim := { program := "ytdninnjhggoefaa", sum := "9c1df227c518f80507c25c2de252c6d4e5bd632cdd7122229a9613e78d9b55f5", func := "hutch/hutchlaw01.MixSlots", spec := "mixSlots", apart := false, narrowed := true }
def MixSlotsUptoSaid : Prop := mixSlotsUptoRow.holds Try.pinned (OpenSpec.upto mixSlotsSpec)

/-- 'hutchlaw01.MixBytes', WHERE WHAT IT READS IS OF BULK AT MOST 1048576: true; the input reads as it did. -/
def mixBytesUptoRow : OpenClaim := { program := "ytdninnjhggoefaa", sum := "9c1df227c518f80507c25c2de252c6d4e5bd632cdd7122229a9613e78d9b55f5", func := "hutch/hutchlaw01.MixBytes", spec := "mixBytes", apart := false, narrowed := true }
def MixBytesUptoSaid : Prop := mixBytesUptoRow.holds Try.pinned (OpenSpec.upto mixBytesSpec)

end Rows
end Go.Proofs.Ytdninnjhggoefaa

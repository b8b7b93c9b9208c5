/- The queue's laws over the small heap: QueueNil. Own text of this session. -/
import Derived.Test.YtfbepkamckpofaaQ4
import Derived.Test.YtfbepkamckpofaaA15
set_option linter.unusedVariables false
set_option linter.unusedSimpArgs false
set_option maxRecDepth 4000
set_option maxHeartbeats 2000000
namespace Go.Proofs.Ytfbepkamckpofaa.C
open Go Go.RowKit Go.Proofs.YtfbepkamckpofaaA

theorem queueNil_run {H : AH} {v i : Int} : CallR cx 7 #[i64 v, i64 i] H (fun v _ => v = .bool true) := by
  refine wk7 (by simp) ?_
  simp [c7]
  refine callV_R cb14 push_nil ?_
  rintro _ _ ⟨rfl, rfl⟩
  simp
  refine callV_R cb13 pop_nil ?_
  rintro _ _ ⟨rfl, rfl⟩
  simp
  refine callV_R cb15 get_nil ?_
  rintro _ _ ⟨rfl, rfl⟩
  simp
  refine callV_R cb16 (told_run (a0 := none) (xs := []) (most := 5) (.inl ⟨rfl, rfl⟩)) ?_
  rintro _ H1 ⟨sv, O, rfl, hrow, -, -⟩
  obtain ⟨ra, rfl, -⟩ := hrow.isSlice
  have hw : IntKind.i64.wrap (IntKind.i64.wrap 0) = 0 := by decide
  simp [hw]

  refine callV_R cb18 len_nil ?_
  rintro _ _ ⟨rfl, rfl⟩
  simp
  refine callV_R cb19 total_nil ?_
  rintro _ _ ⟨rfl, rfl⟩
  simp
  refine callV_R cb9 alive_run ?_
  rintro _ _ ⟨rfl, _⟩
  simp
theorem queueNil_row {v i : Int} (_ : (Lit.int .i64 v).wf = true) (_ : (Lit.int .i64 i).wf = true) : CallR cx 7 #[i64 v, i64 i] H00 (fun v _ => v = .bool true) := queueNil_run
theorem mixed : Try.prog.follows .mixedOrders = true := by kernel_rfl
theorem allOk : progOk Try.prog (fun _ => false) = true := by kernel_rfl
end Go.Proofs.Ytfbepkamckpofaa.C

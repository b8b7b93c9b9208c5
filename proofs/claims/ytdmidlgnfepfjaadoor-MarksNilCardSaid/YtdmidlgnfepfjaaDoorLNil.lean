/- MarksNil over the small heap. Own text of this session. -/
import Derived.Test.YtdmidlgnfepfjaaDoorC
set_option linter.unusedVariables false
set_option linter.unusedSimpArgs false
set_option maxRecDepth 4000
set_option maxHeartbeats 2000000
namespace Go.Proofs.YtdmidlgnfepfjaaDoor.C
open Go Go.RowKit Go.Proofs.YtdmidlgnfepfjaaDoorA
theorem width_nil {H : AH} (hg : HasG gs H) : CallR cx 18 #[.pointer none] H (fun v H' => v = .int .i64 0 ∧ H' = H) := closed_run (by simp [closed]) hg
theorem count_nil {H : AH} (hg : HasG gs H) : CallR cx 23 #[.pointer none] H (fun v H' => v = .int .i64 0 ∧ H' = H) := closed_run (by simp [closed]) hg
theorem copy_nil {H : AH} (hg : HasG gs H) : CallR cx 19 #[.pointer none] H (fun v H' => v = .pointer none ∧ H' = H) := closed_run (by simp [closed]) hg
theorem told_nil {H : AH} (hg : HasG gs H) : CallR cx 14 #[.pointer none, .int .i64 9] H (fun v H' => v = .tuple #[.slice none 0 0, .bool true] ∧ H' = H) := closed_run (by simp [closed]) hg
variable {H : AH} {i : Int}
theorem next_nil (hg : HasG gs H) : CallR cx 12 #[.pointer none, i64 i] H (fun v H' => v = .tuple #[i64 0, .bool false] ∧ H' = H) := by
  refine wk12 (by simp) ?_
  simp [c12]
  refine callV_R cb18 (width_nil hg) ?_
  rintro _ _ ⟨rfl, rfl⟩
  have : (0 : Int) ≤ max 0 i := by omega
  simp [this]
theorem pick_nil (hg : HasG gs H) : CallR cx 10 #[.pointer none, i64 i] H (fun v H' => v = .tuple #[i64 0, .bool false] ∧ H' = H) := by
  refine wk10 (by simp) ?_
  simp [c10]
theorem has_nil (hg : HasG gs H) : CallR cx 22 #[.pointer none, i64 i] H (fun v H' => v = .bool false ∧ H' = H) := by
  refine wk22 (by simp) ?_
  by_cases h : 0 ≤ i
  · simp [c22, h]
    refine callV_R cb18 (width_nil hg) ?_
    rintro _ _ ⟨rfl, rfl⟩
    have : ¬ i < 0 := by omega
    simp [this]
  · simp [c22, h]
theorem put_nil (hg : HasG gs H) : CallR cx 9 #[.pointer none, i64 i] H (fun v H' => v = .bool false ∧ H' = H) := by
  refine wk9 (by simp) ?_
  by_cases h : i < 0
  · simp [c9, h]
  · simp [c9, h]
    refine callV_R cb18 (width_nil hg) ?_
    rintro _ _ ⟨rfl, rfl⟩
    have : (0 : Int) ≤ i := by omega
    simp [this]
theorem drop_nil (hg : HasG gs H) : CallR cx 17 #[.pointer none, i64 i] H (fun v H' => v = .bool false ∧ H' = H) := by
  refine wk17 (by simp) ?_
  simp [c17]
  refine callV_R cb22 (has_nil hg) ?_
  rintro _ _ ⟨rfl, rfl⟩
  simp
theorem rank_nil (hg : HasG gs H) : CallR cx 11 #[.pointer none, i64 i] H (fun v H' => v = i64 0 ∧ H' = H) := by
  refine wk11 (by simp) ?_
  simp [c11]
  refine callV_R cb18 (width_nil hg) ?_
  rintro _ H1 ⟨rfl, rfl⟩
  have h0 : max 0 (min i 0) = 0 := by omega
  have h1 : bits .and .i64 0 63 = 0 := by decide
  have h2 : IntKind.u64.wrap 0 = 0 := by decide
  simp [h0]
  refine aw_loop_to 0 (fun k s => s.env 1 = i64 0 ∧ s.env 5 = i64 0 ∧ s.env 6 = i64 0 ∧ s.ds = [] ∧ s.H = H1) ?_ ?_ ?_
  · intro k s h; omega
  · rintro ⟨env, H2, ds⟩ ⟨e1, e5, e6, eds, rfl⟩
    simp only at e1 e5 e6 eds
    simp [e1, e5, e6, eds, aBin_shr, h1, h2]
  · simp
theorem marksNil_run {H : AH} {i : Int} (hg : HasG gs H) (hn : nG ≤ H.next) (h : (Lit.int .i64 i).wf = true) : CallR cx 6 #[i64 i] H (fun v _ => v = .bool true) := by
  refine wk6 (by simp) ?_
  simp [c6]
  refine callV_R cb12 (next_nil hg) ?_
  rintro _ H1 ⟨rfl, rfl⟩
  simp
  refine callV_R cb10 (pick_nil hg) ?_
  rintro _ H1 ⟨rfl, rfl⟩
  simp
  refine callV_R cb14 (told_nil hg) ?_
  rintro _ H1 ⟨rfl, rfl⟩
  simp
  refine callV_R cb9 (put_nil hg) ?_
  rintro _ H1 ⟨rfl, rfl⟩
  simp
  refine callV_R cb17 (drop_nil hg) ?_
  rintro _ H1 ⟨rfl, rfl⟩
  simp
  refine callV_R cb22 (has_nil hg) ?_
  rintro _ H1 ⟨rfl, rfl⟩
  simp
  refine callV_R cb23 (count_nil hg) ?_
  rintro _ H1 ⟨rfl, rfl⟩
  simp
  refine callV_R cb11 (rank_nil hg) ?_
  rintro _ H1 ⟨rfl, rfl⟩
  simp
  refine callV_R cb18 (width_nil hg) ?_
  rintro _ H1 ⟨rfl, rfl⟩
  simp
  refine callV_R cb19 (copy_nil hg) ?_
  rintro _ H1 ⟨rfl, rfl⟩
  simp
  refine callV_R cb8 (alive_run hg) ?_
  rintro _ H1 ⟨rfl, rfl⟩
  simp
end Go.Proofs.YtdmidlgnfepfjaaDoor.C

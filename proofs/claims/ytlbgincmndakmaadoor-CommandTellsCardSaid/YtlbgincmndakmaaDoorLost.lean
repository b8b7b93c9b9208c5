/- ConfigLost over the small heap. Own text of this session. -/
import Derived.Test.YtlbgincmndakmaaDoorC
set_option linter.unusedVariables false
set_option linter.unusedSimpArgs false
set_option maxRecDepth 4000
set_option maxHeartbeats 2000000
namespace Go.Proofs.YtlbgincmndakmaaDoor.C
open Go Go.RowKit Go.Proofs.YtlbgincmndakmaaDoorA
abbrev cfg (p c q g : Int) : Value := .agg #[i64 p, i64 c, i64 q, i64 g]
abbrev cfgB (p c q g : Int) : ABlk := .cells [i64 p, i64 c, i64 q, i64 g] 27 true 0
def May (p c q g : Int) : Prop := (1 ≤ p ∧ p ≤ 4) ∧ (2 ≤ c ∧ c ≤ 256) ∧ (1 ≤ q ∧ q < c) ∧ 0 ≤ g ∧ g ≤ 512
instance (p c q g : Int) : Decidable (May p c q g) := by unfold May; infer_instance
variable {H : AH} {p c q g : Int}
theorem check_run : CallR cx 46 #[cfg p c q g] H (fun v H' => v = i64 (if May p c q g then 0 else 2) ∧ H' = H.new (cfgB p c q g)) := by
  refine wk46 (by simp) ?_
  by_cases h1 : p < 1
  · have hm : ¬ May p c q g := by unfold May; omega
    simp [c46, h1, hm]
  by_cases h2 : 4 < p
  · have hm : ¬ May p c q g := by unfold May; omega
    simp [c46, h1, h2, hm]
  by_cases h3 : c < 2
  · have hm : ¬ May p c q g := by unfold May; omega
    simp [c46, h1, h2, h3, hm]
  by_cases h4 : 256 < c
  · have hm : ¬ May p c q g := by unfold May; omega
    simp [c46, h1, h2, h3, h4, hm]
  by_cases h5 : q < 1
  · have hm : ¬ May p c q g := by unfold May; omega
    simp [c46, h1, h2, h3, h4, h5, hm]
  by_cases h6 : c ≤ q
  · have hm : ¬ May p c q g := by unfold May; omega
    simp [c46, h1, h2, h3, h4, h5, h6, hm]
  by_cases h7 : g < 0
  · have hm : ¬ May p c q g := by unfold May; omega
    simp [c46, h1, h2, h3, h4, h5, h6, h7, hm]
  by_cases h8 : 512 < g
  · have hm : ¬ May p c q g := by unfold May; omega
    simp [c46, h1, h2, h3, h4, h5, h6, h7, h8, hm]
  have hm : May p c q g := by unfold May; omega
  simp [c46, h1, h2, h3, h4, h5, h6, h7, h8, hm]
theorem may_run : CallR cx 25 #[cfg p c q g] H (fun v H' => v = .bool (decide (May p c q g)) ∧ H' = H.new (cfgB p c q g)) := by
  refine wk25 (by simp) ?_
  by_cases h1 : 1 ≤ p
  case neg =>
    have hm : ¬ May p c q g := by unfold May; omega
    simp [c25, h1, hm]
  by_cases h2 : p ≤ 4
  case neg =>
    have hm : ¬ May p c q g := by unfold May; omega
    simp [c25, h1, h2, hm]
  by_cases h3 : 2 ≤ c
  case neg =>
    have hm : ¬ May p c q g := by unfold May; omega
    simp [c25, h1, h2, h3, hm]
  by_cases h4 : c ≤ 256
  case neg =>
    have hm : ¬ May p c q g := by unfold May; omega
    simp [c25, h1, h2, h3, h4, hm]
  by_cases h5 : 1 ≤ q
  case neg =>
    have hm : ¬ May p c q g := by unfold May; omega
    simp [c25, h1, h2, h3, h4, h5, hm]
  by_cases h6 : q < c
  case neg =>
    have hm : ¬ May p c q g := by unfold May; omega
    simp [c25, h1, h2, h3, h4, h5, h6, hm]
  by_cases h7 : 0 ≤ g
  case neg =>
    have hm : ¬ May p c q g := by unfold May; omega
    simp [c25, h1, h2, h3, h4, h5, h6, h7, hm]
  by_cases h8 : g ≤ 512
  case neg =>
    have hm : ¬ May p c q g := by unfold May; omega
    simp [c25, h1, h2, h3, h4, h5, h6, h7, h8, hm]
  have hm : May p c q g := by unfold May; omega
  simp [c25, h1, h2, h3, h4, h5, h6, h7, h8, hm]
theorem wrapL {n : Int} (h : -9000000000000000000 ≤ n ∧ n ≤ 9000000000000000000) : IntKind.i64.wrap n = n := by simp [IntKind.wrap, IntKind.bits, IntKind.signed]; omega
theorem nn2 (n : Nat) : (n = n + 1 + 1) = False := by simp; omega
theorem nn3 (n : Nat) : (n = n + 1 + 1 + 1) = False := by simp; omega
theorem nn4 (n : Nat) : (n = n + 1 + 1 + 1 + 1) = False := by simp; omega
theorem fresh1 {H : AH} {b : ABlk} : Fresh H (H.new b) := Fresh.ofNew
end Go.Proofs.YtlbgincmndakmaaDoor.C

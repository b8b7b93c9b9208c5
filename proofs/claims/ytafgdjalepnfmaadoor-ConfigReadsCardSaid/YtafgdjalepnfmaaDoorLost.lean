/- ConfigLost over the small heap. Own text of this session. -/
import Derived.Test.YtafgdjalepnfmaaDoorC
set_option linter.unusedVariables false
set_option linter.unusedSimpArgs false
set_option maxRecDepth 4000
set_option maxHeartbeats 2000000
namespace Go.Proofs.YtafgdjalepnfmaaDoor.C
open Go Go.RowKit Go.Proofs.YtafgdjalepnfmaaDoorA
abbrev cfg (p c q g : Int) : Value := .agg #[i64 p, i64 c, i64 q, i64 g]
abbrev cfgB (p c q g : Int) : ABlk := .cells [i64 p, i64 c, i64 q, i64 g] 24 true 0
def May (p c q g : Int) : Prop := (1 ≤ p ∧ p ≤ 4) ∧ (2 ≤ c ∧ c ≤ 256) ∧ (1 ≤ q ∧ q < c) ∧ 0 ≤ g ∧ g ≤ 512
instance (p c q g : Int) : Decidable (May p c q g) := by unfold May; infer_instance
variable {H : AH} {p c q g : Int}
theorem check_run : CallR cx 7 #[cfg p c q g] H (fun v H' => v = i64 (if May p c q g then 0 else 2) ∧ H' = H.new (cfgB p c q g)) := by
  refine wk7 (by simp) ?_
  by_cases h1 : p < 1
  · have hm : ¬ May p c q g := by unfold May; omega
    simp [c7, h1, hm]
  by_cases h2 : 4 < p
  · have hm : ¬ May p c q g := by unfold May; omega
    simp [c7, h1, h2, hm]
  by_cases h3 : c < 2
  · have hm : ¬ May p c q g := by unfold May; omega
    simp [c7, h1, h2, h3, hm]
  by_cases h4 : 256 < c
  · have hm : ¬ May p c q g := by unfold May; omega
    simp [c7, h1, h2, h3, h4, hm]
  by_cases h5 : q < 1
  · have hm : ¬ May p c q g := by unfold May; omega
    simp [c7, h1, h2, h3, h4, h5, hm]
  by_cases h6 : c ≤ q
  · have hm : ¬ May p c q g := by unfold May; omega
    simp [c7, h1, h2, h3, h4, h5, h6, hm]
  by_cases h7 : g < 0
  · have hm : ¬ May p c q g := by unfold May; omega
    simp [c7, h1, h2, h3, h4, h5, h6, h7, hm]
  by_cases h8 : 512 < g
  · have hm : ¬ May p c q g := by unfold May; omega
    simp [c7, h1, h2, h3, h4, h5, h6, h7, h8, hm]
  have hm : May p c q g := by unfold May; omega
  simp [c7, h1, h2, h3, h4, h5, h6, h7, h8, hm]
theorem may_run : CallR cx 9 #[cfg p c q g] H (fun v H' => v = .bool (decide (May p c q g)) ∧ H' = H.new (cfgB p c q g)) := by
  refine wk9 (by simp) ?_
  by_cases h1 : 1 ≤ p
  case neg =>
    have hm : ¬ May p c q g := by unfold May; omega
    simp [c9, h1, hm]
  by_cases h2 : p ≤ 4
  case neg =>
    have hm : ¬ May p c q g := by unfold May; omega
    simp [c9, h1, h2, hm]
  by_cases h3 : 2 ≤ c
  case neg =>
    have hm : ¬ May p c q g := by unfold May; omega
    simp [c9, h1, h2, h3, hm]
  by_cases h4 : c ≤ 256
  case neg =>
    have hm : ¬ May p c q g := by unfold May; omega
    simp [c9, h1, h2, h3, h4, hm]
  by_cases h5 : 1 ≤ q
  case neg =>
    have hm : ¬ May p c q g := by unfold May; omega
    simp [c9, h1, h2, h3, h4, h5, hm]
  by_cases h6 : q < c
  case neg =>
    have hm : ¬ May p c q g := by unfold May; omega
    simp [c9, h1, h2, h3, h4, h5, h6, hm]
  by_cases h7 : 0 ≤ g
  case neg =>
    have hm : ¬ May p c q g := by unfold May; omega
    simp [c9, h1, h2, h3, h4, h5, h6, h7, hm]
  by_cases h8 : g ≤ 512
  case neg =>
    have hm : ¬ May p c q g := by unfold May; omega
    simp [c9, h1, h2, h3, h4, h5, h6, h7, h8, hm]
  have hm : May p c q g := by unfold May; omega
  simp [c9, h1, h2, h3, h4, h5, h6, h7, h8, hm]
theorem wrapL {n : Int} (h : -9000000000000000000 ≤ n ∧ n ≤ 9000000000000000000) : IntKind.i64.wrap n = n := by simp [IntKind.wrap, IntKind.bits, IntKind.signed]; omega
theorem nn2 (n : Nat) : (n = n + 1 + 1) = False := by simp; omega
theorem nn3 (n : Nat) : (n = n + 1 + 1 + 1) = False := by simp; omega
theorem nn4 (n : Nat) : (n = n + 1 + 1 + 1 + 1) = False := by simp; omega
theorem fresh1 {H : AH} {b : ABlk} : Fresh H (H.new b) := Fresh.ofNew
theorem lost_run {p2 c2 q2 g2 : Int} : CallR cx 14 #[cfg p c q g, cfg p2 c2 q2 g2] H (fun v H' => v = i64 (if May p c q g ∧ May p2 c2 q2 g2 then max 0 (c + g - c2 - g2) else 0) ∧ Fresh H H') := by
  refine wk14 (by simp) ?_
  simp [c14]
  refine callV_R cb7 check_run ?_
  rintro _ _ ⟨rfl, rfl⟩
  by_cases hm : May p c q g
  · simp [hm]
    refine callV_R cb7 check_run ?_
    rintro _ _ ⟨rfl, rfl⟩
    by_cases hm2 : May p2 c2 q2 g2
    · have hw1 : IntKind.i64.wrap (c + g) = c + g := wrapL (by unfold May at hm; omega)
      have hw2 : IntKind.i64.wrap (c + g - c2) = c + g - c2 := wrapL (by unfold May at hm hm2; omega)
      have hw3 : IntKind.i64.wrap (c + g - c2 - g2) = c + g - c2 - g2 := wrapL (by unfold May at hm hm2; omega)
      simp [hm2, nn2, nn3, nn4, hw1, hw2, hw3]
      refine ⟨fun h => absurd hm h, ?_⟩
      exact fresh1.trans (fresh1.trans (fresh1.trans fresh1))
    · simp [hm2]
      exact fresh1.trans (fresh1.trans (fresh1.trans fresh1))
  · simp [hm]
    exact fresh1.trans (fresh1.trans fresh1)
theorem configLost_run {p2 c2 q2 g2 : Int} (hg : HasG gs H) (hn : nG ≤ H.next) (_ : IntKind.i64.has p) (_ : IntKind.i64.has c) (_ : IntKind.i64.has q) (_ : IntKind.i64.has g) (_ : IntKind.i64.has p2) (_ : IntKind.i64.has c2) (_ : IntKind.i64.has q2) (_ : IntKind.i64.has g2) :
    CallR cx 4 #[cfg p c q g, cfg p2 c2 q2 g2] H (fun v _ => v = .bool true) := by
  refine wk4 (by simp) ?_
  simp [c4]
  have hf0 : Fresh H ((H.new (cfgB p c q g)).new (cfgB p2 c2 q2 g2)) := fresh1.trans fresh1
  have ha0 : ((H.new (cfgB p c q g)).new (cfgB p2 c2 q2 g2)).get H.next = some (cfgB p c q g) := by simp
  have hb0 : ((H.new (cfgB p c q g)).new (cfgB p2 c2 q2 g2)).get (H.next + 1) = some (cfgB p2 c2 q2 g2) := by simp
  have hl0 : ((H.new (cfgB p c q g)).new (cfgB p2 c2 q2 g2)).next = H.next + 2 := by simp
  generalize (H.new (cfgB p c q g)).new (cfgB p2 c2 q2 g2) = H1 at *
  refine callV_R cb14 lost_run ?_
  rintro _ H2 ⟨rfl, hf1⟩
  have ha1 : H2.get H.next = some (cfgB p c q g) := by rw [hf1.get (by omega), ha0]
  have hb1 : H2.get (H.next + 1) = some (cfgB p2 c2 q2 g2) := by rw [hf1.get (by omega), hb0]
  simp [ha1, hb1]
  refine callV_R cb14 lost_run ?_
  rintro _ H3 ⟨rfl, hf2⟩
  have ha2 : H3.get H.next = some (cfgB p c q g) := by rw [hf2.get (by have := hf1.1; omega), ha1]
  have hb2 : H3.get (H.next + 1) = some (cfgB p2 c2 q2 g2) := by rw [hf2.get (by have := hf1.1; omega), hb1]
  simp [ha0, hb0, ha1, hb1, ha2, hb2]
  have hg3 : HasG gs H3 := hg.fresh gs_lt hn (hf0.trans (hf1.trans hf2))
  have hn3 : H.next + 2 ≤ H3.next := by have := hf1.1; have := hf2.1; omega
  have hn3' : nG ≤ H3.next := by omega
  refine callV_R cb9 may_run ?_
  rintro _ H4 ⟨rfl, hH4⟩
  have hf4 : Fresh H3 H4 := by rw [hH4]; exact fresh1
  have hg4 : HasG gs H4 := hg3.fresh gs_lt hn3' hf4
  have ha4 : H4.get H.next = some (cfgB p c q g) := by rw [hf4.get (by omega), ha2]
  have hb4 : H4.get (H.next + 1) = some (cfgB p2 c2 q2 g2) := by rw [hf4.get (by omega), hb2]
  clear hH4
  by_cases hm : May p c q g
  · simp [hm, hb4]
    refine callV_R cb9 may_run ?_
    rintro _ H5 ⟨rfl, hH5⟩
    have hf5 : Fresh H4 H5 := by rw [hH5]; exact fresh1
    have hg5 : HasG gs H5 := hg4.fresh gs_lt (by have := hf4.1; omega) hf5
    have ha5 : H5.get H.next = some (cfgB p c q g) := by rw [hf5.get (by have := hf4.1; omega), ha4]
    have hb5 : H5.get (H.next + 1) = some (cfgB p2 c2 q2 g2) := by rw [hf5.get (by have := hf4.1; omega), hb4]
    clear hH5
    by_cases hm2 : May p2 c2 q2 g2
    · have hw1 : IntKind.i64.wrap (c + g) = c + g := wrapL (by unfold May at hm; omega)
      have hw2 : IntKind.i64.wrap (c + g - c2) = c + g - c2 := wrapL (by unfold May at hm hm2; omega)
      have hw3 : IntKind.i64.wrap (c + g - c2 - g2) = c + g - c2 - g2 := wrapL (by unfold May at hm hm2; omega)
      have hw4 : IntKind.i64.wrap (max 0 (c + g - c2 - g2) - max 0 (c2 + g2 - c - g)) = c + g - c2 - g2 := by rw [wrapL (by unfold May at hm hm2; omega)]; omega
      have h5 : (0 : Int) ≤ max 0 (c + g - c2 - g2) := by omega
      have h6 : (0 : Int) ≤ max 0 (c2 + g2 - c - g) := by omega
      have h7 : max 0 (c + g - c2 - g2) = 0 ∨ max 0 (c2 + g2 - c - g) = 0 := by omega
      generalize max 0 (c + g - c2 - g2) = n at *
      generalize max 0 (c2 + g2 - c - g) = m at *
      by_cases h8 : n = 0
      · subst h8
        simp only [Int.zero_sub] at hw4
        simp [hm, hm2, ha5, hb5, hw1, hw2, hw3, hw4, h6]
        refine callV_R cba (alive_run hg5) ?_
        rintro _ _ ⟨rfl, _⟩
        simp
      · have h9 : m = 0 := by omega
        subst h9
        simp only [Int.sub_zero] at hw4
        simp [hm, hm2, ha5, hb5, hw1, hw2, hw3, hw4, h5, h8]
        refine callV_R cba (alive_run hg5) ?_
        rintro _ _ ⟨rfl, _⟩
        simp
    · simp [hm2]
      refine callV_R cba (alive_run hg5) ?_
      rintro _ _ ⟨rfl, _⟩
      simp
  · simp [hm]
    refine callV_R cba (alive_run hg4) ?_
    rintro _ _ ⟨rfl, _⟩
    simp
end Go.Proofs.YtafgdjalepnfmaaDoor.C

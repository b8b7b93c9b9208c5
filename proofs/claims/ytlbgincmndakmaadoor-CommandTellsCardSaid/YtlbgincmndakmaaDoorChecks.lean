/- ConfigChecks over the small heap. Own text of this session. -/
import Derived.Test.YtlbgincmndakmaaDoorLost
set_option linter.unusedVariables false
set_option linter.unusedSimpArgs false
set_option maxRecDepth 4000
set_option maxHeartbeats 2000000
namespace Go.Proofs.YtlbgincmndakmaaDoor.C
open Go Go.RowKit Go.Proofs.YtlbgincmndakmaaDoorA
/-- a policy's name -/
def nameOf (p : Int) : ByteArray := if p = 1 then ⟨#[108, 105, 114, 115]⟩ else if p = 2 then ⟨#[99, 108, 111, 99, 107]⟩ else if p = 3 then ⟨#[108, 114, 117]⟩ else if p = 4 then ⟨#[115, 101, 99, 111, 110, 100]⟩ else ⟨#[]⟩
def polOf (s : ByteArray) : Int := if nameOf 1 = s then 1 else if nameOf 2 = s then 2 else if nameOf 3 = s then 3 else if nameOf 4 = s then 4 else 0
variable {H : AH} {p : Int} {s : ByteArray}
theorem name_in (hg : HasG gs H) (hp : 1 ≤ p ∧ p ≤ 4) : CallR cx 48 #[i64 p] H (fun v H' => v = .string (nameOf p) ∧ H' = H) := by
  have : p = 1 ∨ p = 2 ∨ p = 3 ∨ p = 4 := by omega
  rcases this with rfl | rfl | rfl | rfl <;> exact closed_run (by simp [closed, nameOf]) hg
theorem name_run (hg : HasG gs H) : CallR cx 48 #[i64 p] H (fun v H' => v = .string (nameOf p) ∧ Fresh H H') := by
  by_cases h : 1 ≤ p ∧ p ≤ 4
  · exact (name_in hg h).mono fun v H' ⟨h1, h2⟩ => ⟨h1, h2 ▸ Fresh.refl⟩
  · have hn : nameOf p = ⟨#[]⟩ := by unfold nameOf; rw [if_neg (by omega), if_neg (by omega), if_neg (by omega), if_neg (by omega)]
    refine wk48 (by simp) ?_
    by_cases h1 : p < 1
    · simp [c48, h1, hn, Fresh.refl]
    · have h2 : 4 < p := by omega
      simp [c48, h1, h2, hn, Fresh.refl]
theorem rname_run : CallR cx 56 #[i64 p] H (fun v H' => v = .string (nameOf p) ∧ H' = H) := by
  refine wk56 (by simp) ?_
  by_cases h1 : p = 1
  · simp [c56, h1, nameOf]
  by_cases h2 : p = 2
  · simp [c56, h2, nameOf]
  by_cases h3 : p = 3
  · simp [c56, h3, nameOf]
  by_cases h4 : p = 4
  · simp [c56, h4, nameOf]
  simp [c56, h1, h2, h3, h4, nameOf]
theorem policy_run (hg : HasG gs H) : CallR cx 52 #[.string s] H (fun v H' => v = .tuple #[i64 (polOf s), .bool (decide (polOf s ≠ 0))] ∧ H' = H) := by
  refine wk52 (by simp) ?_
  simp [c52]
  refine aw_loop_to 4 (fun k s' => s'.env 0 = .string s ∧ s'.env 2 = i64 0 ∧ s'.env 3 = .bool false ∧ s'.env 4 = i64 (k + 1) ∧ s'.ds = [] ∧ s'.H = H ∧ (∀ j : Nat, j < k → nameOf (j + 1) ≠ s)) ?_ ?_ ?_
  · rintro k ⟨env, H1, ds⟩ hk ⟨e0, e2, e3, e4, eds, rfl, hno⟩
    simp only at e0 e2 e3 e4 eds
    have h4 : (k : Int) + 1 ≤ 4 := by omega
    have hw : IntKind.i64.wrap ((k : Int) + 1 + 1) = (k : Int) + 1 + 1 := wrapL (by omega)
    simp [e0, e2, e3, e4, h4]
    refine callV_R cbc48 (name_in hg (by omega)) ?_
    rintro _ H1 ⟨rfl, rfl⟩
    by_cases hs : nameOf ((k : Int) + 1) = s
    · have hpol : polOf s = (k : Int) + 1 := by
        have : k = 0 ∨ k = 1 ∨ k = 2 ∨ k = 3 := by omega
        rcases this with rfl | rfl | rfl | rfl
        · simp only [polOf]; rw [if_pos (by simpa using hs)]; rfl
        · have := hno 0 (by omega)
          simp only [polOf]; rw [if_neg (by simpa using this), if_pos (by simpa using hs)]; rfl
        · have h0 := hno 0 (by omega); have h1 := hno 1 (by omega)
          simp only [polOf]; rw [if_neg (by simpa using h0), if_neg (by simpa using h1), if_pos (by simpa using hs)]; rfl
        · have h0 := hno 0 (by omega); have h1 := hno 1 (by omega); have h2 := hno 2 (by omega)
          simp only [polOf]; rw [if_neg (by simpa using h0), if_neg (by simpa using h1), if_neg (by simpa using h2), if_pos (by simpa using hs)]; rfl
      have hne : ¬ polOf s = 0 := by omega
      simp [e0, e4, hs, eds, hpol]
      omega
    · simp [e0, e2, e3, e4, hs, eds, hw]
      intro j hj
      by_cases hjk : j = k
      · subst hjk; exact hs
      · exact hno j (by omega)
  · rintro ⟨env, H1, ds⟩ ⟨e0, e2, e3, e4, eds, rfl, hno⟩
    simp only at e0 e2 e3 e4 eds
    have h0 := hno 0 (by omega); have h1 := hno 1 (by omega); have h2 := hno 2 (by omega); have h3 := hno 3 (by omega)
    have hpol : polOf s = 0 := by
      simp only [polOf]; rw [if_neg (by simpa using h0), if_neg (by simpa using h1), if_neg (by simpa using h2), if_neg (by simpa using h3)]
    simp [e0, e2, e3, e4, eds, hpol]
  · simp
theorem rpolicy_run : CallR cx 60 #[.string s] H (fun v H' => v = i64 (polOf s) ∧ H' = H) := by
  refine wk60 (by simp) ?_
  simp [c60]
  refine aw_loop_to 4 (fun k s' => s'.env 0 = .string s ∧ s'.env 2 = i64 0 ∧ s'.env 3 = i64 (k + 1) ∧ s'.ds = [] ∧ s'.H = H ∧ (∀ j : Nat, j < k → nameOf (j + 1) ≠ s)) ?_ ?_ ?_
  · rintro k ⟨env, H1, ds⟩ hk ⟨e0, e2, e3, eds, rfl, hno⟩
    simp only at e0 e2 e3 eds
    have h4 : (k : Int) + 1 ≤ 4 := by omega
    have hw : IntKind.i64.wrap ((k : Int) + 1 + 1) = (k : Int) + 1 + 1 := wrapL (by omega)
    simp [e0, e2, e3, h4]
    refine callV_R cb56 rname_run ?_
    rintro _ H1 ⟨rfl, rfl⟩
    by_cases hs : nameOf ((k : Int) + 1) = s
    · have hpol : polOf s = (k : Int) + 1 := by
        have : k = 0 ∨ k = 1 ∨ k = 2 ∨ k = 3 := by omega
        rcases this with rfl | rfl | rfl | rfl
        · simp only [polOf]; rw [if_pos (by simpa using hs)]; rfl
        · have := hno 0 (by omega)
          simp only [polOf]; rw [if_neg (by simpa using this), if_pos (by simpa using hs)]; rfl
        · have h0 := hno 0 (by omega); have h1 := hno 1 (by omega)
          simp only [polOf]; rw [if_neg (by simpa using h0), if_neg (by simpa using h1), if_pos (by simpa using hs)]; rfl
        · have h0 := hno 0 (by omega); have h1 := hno 1 (by omega); have h2 := hno 2 (by omega)
          simp only [polOf]; rw [if_neg (by simpa using h0), if_neg (by simpa using h1), if_neg (by simpa using h2), if_pos (by simpa using hs)]; rfl
      simp [e0, e3, hs, eds, hpol]
    · simp [e0, e2, e3, hs, eds, hw]
      intro j hj
      by_cases hjk : j = k
      · subst hjk; exact hs
      · exact hno j (by omega)
  · rintro ⟨env, H1, ds⟩ ⟨e0, e2, e3, eds, rfl, hno⟩
    simp only at e0 e2 e3 eds
    have h0 := hno 0 (by omega); have h1 := hno 1 (by omega); have h2 := hno 2 (by omega); have h3 := hno 3 (by omega)
    have hpol : polOf s = 0 := by
      simp only [polOf]; rw [if_neg (by simpa using h0), if_neg (by simpa using h1), if_neg (by simpa using h2), if_neg (by simpa using h3)]
    simp [e0, e2, e3, eds, hpol]
  · simp
variable {c q g : Int}
end Go.Proofs.YtlbgincmndakmaaDoor.C

/- ConfigChecks over the small heap. Own text of this session. -/
import Derived.Test.YtafgdjalepnfmaaDoorLost
set_option linter.unusedVariables false
set_option linter.unusedSimpArgs false
set_option maxRecDepth 4000
set_option maxHeartbeats 2000000
namespace Go.Proofs.YtafgdjalepnfmaaDoor.C
open Go Go.RowKit Go.Proofs.YtafgdjalepnfmaaDoorA
/-- a policy's name -/
def nameOf (p : Int) : ByteArray := if p = 1 then ⟨#[108, 105, 114, 115]⟩ else if p = 2 then ⟨#[99, 108, 111, 99, 107]⟩ else if p = 3 then ⟨#[108, 114, 117]⟩ else if p = 4 then ⟨#[115, 101, 99, 111, 110, 100]⟩ else ⟨#[]⟩
def polOf (s : ByteArray) : Int := if nameOf 1 = s then 1 else if nameOf 2 = s then 2 else if nameOf 3 = s then 3 else if nameOf 4 = s then 4 else 0
variable {H : AH} {p : Int} {s : ByteArray}
theorem name_in (hg : HasG gs H) (hp : 1 ≤ p ∧ p ≤ 4) : CallR cx 12 #[i64 p] H (fun v H' => v = .string (nameOf p) ∧ H' = H) := by
  have : p = 1 ∨ p = 2 ∨ p = 3 ∨ p = 4 := by omega
  rcases this with rfl | rfl | rfl | rfl <;> exact closed_run (by simp [closed, nameOf]) hg
theorem name_run (hg : HasG gs H) : CallR cx 12 #[i64 p] H (fun v H' => v = .string (nameOf p) ∧ Fresh H H') := by
  by_cases h : 1 ≤ p ∧ p ≤ 4
  · exact (name_in hg h).mono fun v H' ⟨h1, h2⟩ => ⟨h1, h2 ▸ Fresh.refl⟩
  · have hn : nameOf p = ⟨#[]⟩ := by unfold nameOf; rw [if_neg (by omega), if_neg (by omega), if_neg (by omega), if_neg (by omega)]
    refine wk12 (by simp) ?_
    by_cases h1 : p < 1
    · simp [c12, h1, hn, Fresh.refl]
    · have h2 : 4 < p := by omega
      simp [c12, h1, h2, hn, Fresh.refl]
theorem rname_run : CallR cx 13 #[i64 p] H (fun v H' => v = .string (nameOf p) ∧ H' = H) := by
  refine wk13 (by simp) ?_
  by_cases h1 : p = 1
  · simp [c13, h1, nameOf]
  by_cases h2 : p = 2
  · simp [c13, h2, nameOf]
  by_cases h3 : p = 3
  · simp [c13, h3, nameOf]
  by_cases h4 : p = 4
  · simp [c13, h4, nameOf]
  simp [c13, h1, h2, h3, h4, nameOf]
theorem policy_run (hg : HasG gs H) : CallR cx 8 #[.string s] H (fun v H' => v = .tuple #[i64 (polOf s), .bool (decide (polOf s ≠ 0))] ∧ H' = H) := by
  refine wk8 (by simp) ?_
  simp [c8]
  refine aw_loop_to 4 (fun k s' => s'.env 0 = .string s ∧ s'.env 2 = i64 0 ∧ s'.env 3 = .bool false ∧ s'.env 4 = i64 (k + 1) ∧ s'.ds = [] ∧ s'.H = H ∧ (∀ j : Nat, j < k → nameOf (j + 1) ≠ s)) ?_ ?_ ?_
  · rintro k ⟨env, H1, ds⟩ hk ⟨e0, e2, e3, e4, eds, rfl, hno⟩
    simp only at e0 e2 e3 e4 eds
    have h4 : (k : Int) + 1 ≤ 4 := by omega
    have hw : IntKind.i64.wrap ((k : Int) + 1 + 1) = (k : Int) + 1 + 1 := wrapL (by omega)
    simp [e0, e2, e3, e4, h4]
    refine callV_R cbc12 (name_in hg (by omega)) ?_
    rintro _ H1 ⟨rfl, rfl⟩
    by_cases hs : nameOf ((k : Int) + 1) = s
    · have hpol : polOf s = (k : Int) + 1 := by
        have : k = 0 ∨ k = 1 ∨ k = 2 ∨ k = 3 := by omega
        rcases this with rfl | rfl | rfl | rfl
        · simp only [polOf]; rw [if_pos (by simpa using hs)]; rfl
        · have := hno 0 (by omega)
          simp only [polOf]; rw [if_neg (by simpa using this), if_pos (by simpa using hs)]; rfl
        · have h0 := hno 0 (by omega); have h1 := hno 1 (by omega)
          simp only [polOf]; rw [if_neg (by simpa using h0), if_neg (by simpa using h1), if_pos (by simpa using hs)]; rfl
        · have h0 := hno 0 (by omega); have h1 := hno 1 (by omega); have h2 := hno 2 (by omega)
          simp only [polOf]; rw [if_neg (by simpa using h0), if_neg (by simpa using h1), if_neg (by simpa using h2), if_pos (by simpa using hs)]; rfl
      have hne : ¬ polOf s = 0 := by omega
      simp [e0, e4, hs, eds, hpol]
      omega
    · simp [e0, e2, e3, e4, hs, eds, hw]
      intro j hj
      by_cases hjk : j = k
      · subst hjk; exact hs
      · exact hno j (by omega)
  · rintro ⟨env, H1, ds⟩ ⟨e0, e2, e3, e4, eds, rfl, hno⟩
    simp only at e0 e2 e3 e4 eds
    have h0 := hno 0 (by omega); have h1 := hno 1 (by omega); have h2 := hno 2 (by omega); have h3 := hno 3 (by omega)
    have hpol : polOf s = 0 := by
      simp only [polOf]; rw [if_neg (by simpa using h0), if_neg (by simpa using h1), if_neg (by simpa using h2), if_neg (by simpa using h3)]
    simp [e0, e2, e3, e4, eds, hpol]
  · simp
theorem rpolicy_run : CallR cx 10 #[.string s] H (fun v H' => v = i64 (polOf s) ∧ H' = H) := by
  refine wk10 (by simp) ?_
  simp [c10]
  refine aw_loop_to 4 (fun k s' => s'.env 0 = .string s ∧ s'.env 2 = i64 0 ∧ s'.env 3 = i64 (k + 1) ∧ s'.ds = [] ∧ s'.H = H ∧ (∀ j : Nat, j < k → nameOf (j + 1) ≠ s)) ?_ ?_ ?_
  · rintro k ⟨env, H1, ds⟩ hk ⟨e0, e2, e3, eds, rfl, hno⟩
    simp only at e0 e2 e3 eds
    have h4 : (k : Int) + 1 ≤ 4 := by omega
    have hw : IntKind.i64.wrap ((k : Int) + 1 + 1) = (k : Int) + 1 + 1 := wrapL (by omega)
    simp [e0, e2, e3, h4]
    refine callV_R cb13 rname_run ?_
    rintro _ H1 ⟨rfl, rfl⟩
    by_cases hs : nameOf ((k : Int) + 1) = s
    · have hpol : polOf s = (k : Int) + 1 := by
        have : k = 0 ∨ k = 1 ∨ k = 2 ∨ k = 3 := by omega
        rcases this with rfl | rfl | rfl | rfl
        · simp only [polOf]; rw [if_pos (by simpa using hs)]; rfl
        · have := hno 0 (by omega)
          simp only [polOf]; rw [if_neg (by simpa using this), if_pos (by simpa using hs)]; rfl
        · have h0 := hno 0 (by omega); have h1 := hno 1 (by omega)
          simp only [polOf]; rw [if_neg (by simpa using h0), if_neg (by simpa using h1), if_pos (by simpa using hs)]; rfl
        · have h0 := hno 0 (by omega); have h1 := hno 1 (by omega); have h2 := hno 2 (by omega)
          simp only [polOf]; rw [if_neg (by simpa using h0), if_neg (by simpa using h1), if_neg (by simpa using h2), if_pos (by simpa using hs)]; rfl
      simp [e0, e3, hs, eds, hpol]
    · simp [e0, e2, e3, hs, eds, hw]
      intro j hj
      by_cases hjk : j = k
      · subst hjk; exact hs
      · exact hno j (by omega)
  · rintro ⟨env, H1, ds⟩ ⟨e0, e2, e3, eds, rfl, hno⟩
    simp only at e0 e2 e3 eds
    have h0 := hno 0 (by omega); have h1 := hno 1 (by omega); have h2 := hno 2 (by omega); have h3 := hno 3 (by omega)
    have hpol : polOf s = 0 := by
      simp only [polOf]; rw [if_neg (by simpa using h0), if_neg (by simpa using h1), if_neg (by simpa using h2), if_neg (by simpa using h3)]
    simp [e0, e2, e3, eds, hpol]
  · simp
variable {c q g : Int}
theorem room_run : CallR cx 11 #[cfg p c q g] H (fun v H' => v = i64 (if May p c q g then c - q else 0) ∧ Fresh H H') := by
  refine wk11 (by simp) ?_
  simp [c11]
  refine callV_R cb7 check_run ?_
  rintro _ _ ⟨rfl, rfl⟩
  by_cases hm : May p c q g
  · have hw : IntKind.i64.wrap (c - q) = c - q := wrapL (by unfold May at hm; omega)
    simp [hm, hw]
    exact fresh1.trans fresh1
  · simp [hm]
    exact fresh1.trans fresh1
theorem configChecks_run (hg : HasG gs H) (hn : nG ≤ H.next) (_ : IntKind.i64.has p) (_ : IntKind.i64.has c) (_ : IntKind.i64.has q) (_ : IntKind.i64.has g) :
    CallR cx 3 #[cfg p c q g, .string s] H (fun v _ => v = .bool true) := by
  refine wk3 (by simp) ?_
  simp [c3]
  have hf0 : Fresh H (H.new (cfgB p c q g)) := fresh1
  have ha0 : (H.new (cfgB p c q g)).get H.next = some (cfgB p c q g) := by simp
  have hl0 : H.next < (H.new (cfgB p c q g)).next := by simp
  have hg0 : HasG gs (H.new (cfgB p c q g)) := hg.fresh gs_lt hn hf0
  generalize H.new (cfgB p c q g) = H1 at *
  by_cases h100 : 100 < (s.size : Int)
  · simp [h100]
    refine callV_R cba (alive_run hg0) ?_
    rintro _ _ ⟨rfl, _⟩
    simp
  simp [h100, ha0]
  have hpb : 0 ≤ polOf s ∧ polOf s ≤ 4 := by unfold polOf; split; omega; split; omega; split; omega; split <;> omega
  have hwp : IntKind.i64.wrap (polOf s) = polOf s := wrapL (by omega)
  have hpn : 0 ≤ H.next := by omega
  have hn1 : nG ≤ H1.next := by have := hf0.1; omega
  refine callV_R cb7 check_run ?_
  rintro _ H2 ⟨rfl, hH2⟩
  have hf2 : Fresh H1 H2 := by rw [hH2]; exact fresh1
  have ha2 : H2.get H.next = some (cfgB p c q g) := by rw [hf2.get hl0, ha0]
  have hg2 : HasG gs H2 := hg0.fresh gs_lt hn1 hf2
  clear hH2
  simp
  refine callV_R cb8 (policy_run hg2) ?_
  rintro _ H2 ⟨rfl, rfl⟩
  have hl2 : H.next < H2.next := by have := hf2.1; omega
  have hn2 : nG ≤ H2.next := by have := hf2.1; omega
  simp [ha2]
  refine callV_R cb9 may_run ?_
  rintro _ H3 ⟨rfl, hH3⟩
  have hf3 : Fresh H2 H3 := by rw [hH3]; exact fresh1
  have ha3 : H3.get H.next = some (cfgB p c q g) := by rw [hf3.get hl2, ha2]
  have hl3 : H.next < H3.next := by have := hf3.1; omega
  have hn3 : nG ≤ H3.next := by have := hf3.1; omega
  have hg3 : HasG gs H3 := hg2.fresh gs_lt hn2 hf3
  clear hH3
  by_cases hm : May p c q g
  · have hw : IntKind.i64.wrap (c - q) = c - q := wrapL (by unfold May at hm; omega)
    simp [hm]
    refine callV_R cb10 rpolicy_run ?_
    rintro _ H3 ⟨rfl, rfl⟩
    simp [hm, ha3, hw, hwp]
    refine callV_R cb11 room_run ?_
    rintro _ H4 ⟨rfl, hf4⟩
    have ha4 : H4.get H.next = some (cfgB p c q g) := by rw [hf4.get hl3, ha3]
    have hl4 : H.next < H4.next := by have := hf4.1; omega
    have hn4 : nG ≤ H4.next := by have := hf4.1; omega
    have hg4 : HasG gs H4 := hg3.fresh gs_lt hn3 hf4
    simp [hm, ha4]
    refine callV_R cbc12 (name_run hg4) ?_
    rintro _ H5 ⟨rfl, hf5⟩
    have ha5 : H5.get H.next = some (cfgB p c q g) := by rw [hf5.get hl4, ha4]
    have hg5 : HasG gs H5 := hg4.fresh gs_lt hn4 hf5
    simp [ha4, ha5]
    refine callV_R cb13 rname_run ?_
    rintro _ H5 ⟨rfl, rfl⟩
    simp
    refine callV_R cba (alive_run hg5) ?_
    rintro _ _ ⟨rfl, _⟩
    simp [ha4, ha5]
  · simp [hm]
    refine callV_R cb10 rpolicy_run ?_
    rintro _ H3 ⟨rfl, rfl⟩
    simp [hm, ha3, hwp]
    refine callV_R cb11 room_run ?_
    rintro _ H4 ⟨rfl, hf4⟩
    have ha4 : H4.get H.next = some (cfgB p c q g) := by rw [hf4.get hl3, ha3]
    have hl4 : H.next < H4.next := by have := hf4.1; omega
    have hn4 : nG ≤ H4.next := by have := hf4.1; omega
    have hg4 : HasG gs H4 := hg3.fresh gs_lt hn3 hf4
    simp [hm, ha4]
    refine callV_R cbc12 (name_run hg4) ?_
    rintro _ H5 ⟨rfl, hf5⟩
    have ha5 : H5.get H.next = some (cfgB p c q g) := by rw [hf5.get hl4, ha4]
    have hg5 : HasG gs H5 := hg4.fresh gs_lt hn4 hf5
    simp [ha4, ha5]
    refine callV_R cb13 rname_run ?_
    rintro _ H5 ⟨rfl, rfl⟩
    simp
    refine callV_R cba (alive_run hg5) ?_
    rintro _ _ ⟨rfl, _⟩
    simp [ha4, ha5]
end Go.Proofs.YtafgdjalepnfmaaDoor.C

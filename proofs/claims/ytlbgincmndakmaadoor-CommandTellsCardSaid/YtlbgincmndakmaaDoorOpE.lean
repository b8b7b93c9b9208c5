/- Which ops may be told; are two ops one. Own text of this session. -/
import Derived.Test.YtlbgincmndakmaaDoorOpD
set_option linter.unusedVariables false
set_option linter.unusedSimpArgs false
set_option maxRecDepth 4000
set_option maxHeartbeats 8000000
namespace Go.Proofs.YtlbgincmndakmaaDoor.C
open Go Go.RowKit Go.Proofs.YtlbgincmndakmaaDoorA Go.Proofs.YtlbgincmndakmaaDoor.Plain
variable {H : AH}
/-- may an op be told -/
def MayO (k : Int) (n : Nat) (m : Nat) (p c q g : Int) : Prop :=
  m ≤ 1024 ∧ (if k = 1 ∨ k = 3 then m = 0 ∧ p = 0 ∧ c = 0 ∧ q = 0 ∧ g = 0 else if k = 2 then p = 0 ∧ c = 0 ∧ q = 0 ∧ g = 0 else if k = 4 then m = 0 ∧ n = 0 ∧ May p c q g else if k = 5 ∨ k = 6 then m = 0 ∧ n = 0 ∧ p = 0 ∧ c = 0 ∧ q = 0 ∧ g = 0 else False)
theorem eqC (p c q g : Int) (ox oy : Operand) : aBin Tryd.prog .eql 27 ox oy (cfg p c q g) (cfg 0 0 0 0) = some (.bool (decide (p = 0 ∧ c = 0 ∧ q = 0 ∧ g = 0))) := by
  rw [eq24]
  congr 2
  simp [Bool.decide_and]
theorem eqCs (p c q g : Int) (ox oy : Operand) : aBin Tryd.prog .eql 27 ox oy (cfg p c q g) (cfg p c q g) = some (.bool true) := by
  rw [eq24, eqLr]
theorem build27z : aBuild Tryd.prog 27 [] = some (cfg 0 0 0 0) := by kernel_rfl
theorem box29 (k : Int) (n : Nat) (sv : Value) (p c q g : Int) (H : AH) : aBox 29 (opV k n sv p c q g) H = (ptr H.next, H.new (opB k n sv p c q g)) := rfl
theorem ld27at {H : AH} {l : Nat} {k : Int} {n : Nat} {s : Value} {p c q g : Int} (hg : H.get l = some (opB k n s p c q g)) : aLoad Tryd.prog 27 (.pointer (some ⟨l, 3, none⟩)) H = some (cfg p c q g) := by
  rw [ld27, row_of hg (by simp)]
  simp
theorem tellable_run {k : Int} {n m : Nat} {a : Option Addr} {p c q g : Int} : CallR cx 18 #[opV k n (.slice a m m) p c q g] H (fun v H' => ∃ b, v = .bool b ∧ (b = true ↔ MayO k n m p c q g) ∧ Fresh H H') := by
  refine wk18 (by simp) ?_
  unfold c18
  refine aw_cut (fun t => t.env 1 = ptr H.next ∧ t.ds = [] ∧ t.H = H.new (opB k n (.slice a m m) p c q g)) (by simp [box29]) ?_
  rintro ⟨env, H1, ds⟩ ⟨e1, eds, hH⟩
  simp only at e1 eds hH
  have f1 : Fresh H H1 := by rw [hH]; exact Fresh.ofNew
  have r1 : H1.get H.next = some (opB k n (.slice a m m) p c q g) := by rw [hH]; simp [AH.new]
  clear hH
  have lc := ld27at r1
  by_cases hk : 1 ≤ k ∧ k ≤ 6
  case neg =>
    have hw : wordL k = [] := by unfold wordL; rw [if_neg (by omega), if_neg (by omega), if_neg (by omega), if_neg (by omega), if_neg (by omega), if_neg (by omega)]
    have hM : ¬ MayO k n m p c q g := by unfold MayO; rw [if_neg (by omega), if_neg (by omega), if_neg (by omega), if_neg (by omega)]; simp
    simp [e1, r1]
    refine callV_R cb19 word_run ?_
    rintro _ H2 ⟨rfl, hH⟩
    subst hH
    simp [hw, hM, f1, eds]
  have hw : ¬ wordL k = [] := by
    have : k = 1 ∨ k = 2 ∨ k = 3 ∨ k = 4 ∨ k = 5 ∨ k = 6 := by omega
    rcases this with rfl | rfl | rfl | rfl | rfl | rfl <;> decide
  have hky : keyP k ↔ k = 1 ∨ k = 2 ∨ k = 3 := Iff.rfl
  by_cases hA : ¬ keyP k ∧ n ≠ 0
  · obtain ⟨hA1, hA2⟩ := hA
    have hM : ¬ MayO k n m p c q g := by
      unfold MayO
      rw [hky] at hA1
      rw [if_neg (by omega), if_neg (by omega)]
      split
      · exact fun h => hA2 h.2.2.1
      split
      · exact fun h => hA2 h.2.2.1
      · exact fun h => h.2
    simp [e1, r1]
    refine callV_R cb19 word_run ?_
    rintro _ H2 ⟨rfl, hH⟩
    subst hH
    simp [hw, e1, r1]
    refine callV_R cb20 keyed_run ?_
    rintro _ H2 ⟨rfl, hH⟩
    subst hH
    simp [hA1, hA2, hM, f1, e1, r1, eds]
  by_cases hB : (k ≠ 2 ∧ 0 < m) ∨ 1024 < m
  · have hM : ¬ MayO k n m p c q g := by
      unfold MayO
      rintro ⟨h1, h2⟩
      rcases hB with ⟨hB1, hB2⟩ | hB
      · split at h2
        · omega
        · split at h2
          · omega
          · split at h2
            · omega
            · exact h2
      · omega
    simp [e1, r1]
    refine callV_R cb19 word_run ?_
    rintro _ H2 ⟨rfl, hH⟩
    subst hH
    simp [hw, e1, r1]
    refine callV_R cb20 keyed_run ?_
    rintro _ H2 ⟨rfl, hH⟩
    subst hH
    have hmI : (1024 : Int) < m ↔ 1024 < m := by omega
    by_cases hk3 : keyP k
    · by_cases hk2 : k = 2
      · have h1024 : 1024 < m := by omega
        subst hk2
        simp [hk3, h1024, hmI, hM, f1, e1, r1, eds, Go.undef]
      · by_cases hm0 : 0 < m
        · simp [hk3, hk2, hm0, hM, f1, e1, r1, eds, Go.undef]
        · omega
    · have hn0 : n = 0 := by
        refine Classical.byContradiction fun h => hA ⟨hk3, h⟩
      have hk2 : ¬ k = 2 := by rw [hky] at hk3; omega
      by_cases hm0 : 0 < m
      · simp [hk3, hn0, hk2, hm0, f1, e1, r1, eds, Go.undef]
        rw [hn0] at hM
        exact hM
      · omega
  have hm1024 : ¬ 1024 < m := fun h => hB (.inr h)
  have hm0 : k ≠ 2 → m = 0 := fun h => by
    refine Classical.byContradiction fun h0 => hB (.inl ⟨h, by omega⟩)
  have hn0 : ¬ keyP k → n = 0 := fun h => Classical.byContradiction fun h0 => hA ⟨h, h0⟩
  -- the three first tests are passed
  refine aw_cut (fun t => t.env 1 = ptr H.next ∧ t.ds = [] ∧ t.H = H1 ∧ k ≠ 4) ?_ ?_
  · simp [e1, r1]
    refine callV_R cb19 word_run ?_
    rintro _ H2 ⟨rfl, hH⟩
    subst hH
    simp [hw, e1, r1]
    refine callV_R cb20 keyed_run ?_
    rintro _ H2 ⟨rfl, hH⟩
    subst hH
    have hmI : ¬ (1024 : Int) < m := by omega
    by_cases hk4 : k = 4
    · subst hk4
      have hk3 : ¬ keyP 4 := by decide
      have hz := hm0 (by decide)
      have hzn := hn0 hk3
      subst hz
      subst hzn
      have hM : MayO 4 0 0 p c q g ↔ May p c q g := by unfold MayO; simp
      simp [hk3, e1, r1, lc, Go.undef]
      refine callV_R cb46 check_run ?_
      rintro _ H2 ⟨rfl, hH⟩
      have f2 : Fresh H H2 := f1.trans (by rw [hH]; exact Fresh.ofNew)
      clear hH
      by_cases hm : May p c q g
      · simp [hm, hM, eds, f2]
      · simp [hm, hM, eds, f2]
    · by_cases hk3 : keyP k
      · by_cases hk2 : k = 2
        · subst hk2
          simp [hk3, hm1024, hmI, e1, r1, eds, Go.undef]
        · have hz := hm0 hk2
          subst hz
          simp [hk3, hk2, hk4, e1, r1, eds, Go.undef]
      · have hk2 : ¬ k = 2 := by rw [hky] at hk3; omega
        have hz := hm0 hk2
        have hzn := hn0 hk3
        subst hz
        subst hzn
        simp [hk3, hk2, hk4, e1, r1, eds, Go.undef]
  clear e1 eds
  rintro ⟨env, H2, ds⟩ ⟨e1, eds, hH, hk4⟩
  simp only at e1 eds hH
  subst hH
  have hM : MayO k n m p c q g ↔ (p = 0 ∧ c = 0 ∧ q = 0 ∧ g = 0) := by
    have hk5 : k = 1 ∨ k = 2 ∨ k = 3 ∨ k = 5 ∨ k = 6 := by omega
    rcases hk5 with rfl | rfl | rfl | rfl | rfl
    · have := hm0 (by decide); unfold MayO; simp [this]
    · unfold MayO; simp; omega
    · have := hm0 (by decide); unfold MayO; simp [this]
    · have := hm0 (by decide); have h2 := hn0 (by decide); unfold MayO; simp [this, h2]
    · have := hm0 (by decide); have h2 := hn0 (by decide); unfold MayO; simp [this, h2]
  simp [e1, r1, lc, build27z, eqC, hM, f1, eds, -aBuild]
  omega
theorem sameO_run {k : Int} {n : Nat} {sv sv2 : Value} {val : List UInt8} {O O2 : Option Nat} {w w2 : Bool} {p c q g : Int} (hv : Row 5 w H sv (val.map u8v) O) (hv2 : Row 5 w2 H sv2 (val.map u8v) O2) :
    CallR cx 11 #[opV k n sv p c q g, opV k n sv2 p c q g] H (fun v H' => v = .bool true ∧ Fresh H H') := by
  obtain ⟨ra, rfl, _⟩ := hv.isSlice
  obtain ⟨rb, rfl, _⟩ := hv2.isSlice
  simp only [List.length_map] at hv hv2 ⊢
  refine wk11 (by simp) ?_
  unfold c11
  refine aw_cut (fun t => t.env 2 = ptr H.next ∧ t.env 3 = ptr (H.next + 1) ∧ t.ds = [] ∧ t.H = (H.new (opB k n (.slice ra val.length val.length) p c q g)).new (opB k n (.slice rb val.length val.length) p c q g)) (by simp [AH.new]) ?_
  rintro ⟨env, H1, ds⟩ ⟨e2, e3, eds, hH⟩
  simp only at e2 e3 eds hH
  have f1 : Fresh H H1 := by rw [hH]; exact Fresh.ofNew.trans Fresh.ofNew
  have hne : ¬ H.next = H.next + 1 := by omega
  have r2 : H1.get H.next = some (opB k n (.slice ra val.length val.length) p c q g) := by rw [hH]; simp [AH.new, hne]
  have r3 : H1.get (H.next + 1) = some (opB k n (.slice rb val.length val.length) p c q g) := by rw [hH]; simp [AH.new]
  clear hH
  have c1 := conv_row (hv.keep f1 (fun _ _ => id))
  have c2 := conv_row (hv2.keep f1 (fun _ _ => id))
  have lc2 := ld27at r2
  have lc3 := ld27at r3
  simp [e2, e3, r2, r3, c1, c2, lc2, lc3, eqCs, eds, f1]
end Go.Proofs.YtlbgincmndakmaaDoor.C

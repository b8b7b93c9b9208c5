/- How many keys are alike, or rise: the program's and the document's. Own text of this session. -/
import Derived.Test.YtmeaeafceankkaaDoorTel
set_option linter.unusedVariables false
set_option linter.unusedSimpArgs false
set_option maxRecDepth 4000
set_option maxHeartbeats 4000000
namespace Go.Proofs.YtmeaeafceankkaaDoor.C
open Go Go.RowKit Go.Proofs.YtmeaeafceankkaaDoorA Go.Proofs.YtmeaeafceankkaaDoor.Plain
variable {H : AH}
theorem gcell {w : Bool} {ra : Option Addr} {n : Nat} {l : List Nat} {O : Option Nat} (h : Row 39 w H (.slice ra n n) (gcells l) O) {j : Nat} (hj : j < l.length) : ∃ la oa cs, ra = some ⟨la, oa, none⟩ ∧ H.get la = some (.cells cs 39 w 1) ∧ cs[oa + j]? = some (u64 (l.getD j 0 : Nat)) := by
  obtain ⟨la, oa, cs, h1, h2, h3, _⟩ := h.cell (i := j) (x := u64 (l.getD j 0 : Nat)) (by simp [hj])
  exact ⟨la, oa, cs, h1, h2, h3⟩
theorem getD_drop (l : List Nat) (i j : Nat) : (l.drop i).getD j 0 = l.getD (i + j) 0 := by simp [List.getD_eq_getElem?_getD]
/-- trace.same -/
theorem same_run {w : Bool} {sv : Value} {l : List Nat} {O : Option Nat} (h : Row 39 w H sv (gcells l) O) (hne : l ≠ []) (hl : l.length < 1000000) : CallR cx 38 #[sv] H (fun v H' => v = i64 (smN l : Nat) ∧ H' = H) := by
  obtain ⟨ra, rfl, _⟩ := h.isSlice
  simp only [List.length_map] at h ⊢
  have hp : 0 < l.length := List.length_pos_iff.2 hne
  obtain ⟨s1, s2, s3, s4⟩ := smN_spec hne
  obtain ⟨la, oa, c0, rfl, b1, b2⟩ := gcell h hp
  have hcell : ∀ j, j < l.length → c0[oa + j]? = some (u64 (l.getD j 0 : Nat)) := by
    intro j hj
    obtain ⟨la', oa', cs, e, q1, q2⟩ := gcell h hj
    cases e
    rw [b1] at q1
    cases q1
    exact q2
  have hix0 := ix22 la oa l.length l.length .i64 0 (by omega) (by omega)
  generalize hx0 : l.getD 0 0 = x0 at b2 s3 s4
  simp only [Int.toNat_zero, Nat.add_zero] at hix0 b2
  refine wk38 (by simp) ?_
  simp [c38]
  refine aw_loop_to (smN l - 1) (fun k t => t.env 0 = .slice (some ⟨la, oa, none⟩) l.length l.length ∧ t.env 3 = i64 ((k + 1 : Nat) : Int) ∧ t.ds = [] ∧ t.H = H) ?_ ?_ ?_
  · rintro k ⟨env, H1, ds⟩ hk ⟨e0, e3, eds, rfl⟩
    simp only at e0 e3 eds b1
    obtain ⟨j, hj⟩ : ∃ j, j = k + 1 := ⟨_, rfl⟩
    rw [← hj] at e3
    have hjl : j < l.length := by omega
    have hjN : (j : Int) < l.length := by omega
    have hix := ix22 la oa l.length l.length .i64 (j : Int) (by omega) hjN
    rw [Int.toNat_natCast] at hix
    have hc := hcell j hjl
    rw [s3 j (by omega)] at hc
    have hw : IntKind.i64.wrap ((j : Int) + 1) = ((k + 1 + 1 : Nat) : Int) := by rw [w64 (by omega)]; omega
    simp [e0, e3, hjl, hjN, hix, hix0, b1, b2, hc, hw, eds]
  · rintro ⟨env, H1, ds⟩ ⟨e0, e3, eds, rfl⟩
    simp only at e0 e3 eds b1
    rw [show smN l - 1 + 1 = smN l by omega] at e3
    generalize smN l = n at *
    by_cases hn : n < l.length
    · have hnN : (n : Int) < l.length := by omega
      have hix := ix22 la oa l.length l.length .i64 (n : Int) (by omega) hnN
      rw [Int.toNat_natCast] at hix
      have hc := hcell n hn
      have hne := s4 hn
      generalize l.getD n 0 = y at hc hne
      have hneI : ¬ (y : Int) = x0 := by omega
      simp [e0, e3, hn, hnN, hix, hix0, b1, b2, hc, hne, hneI, eds]
    · have hnN : ¬ (n : Int) < l.length := by omega
      simp [e0, e3, hn, hnN, eds]
  · simp
/-- trace.rising -/
theorem rising_run {w : Bool} {sv : Value} {l : List Nat} {O : Option Nat} (h : Row 39 w H sv (gcells l) O) (hs : Sm l) (hne : l ≠ []) (hl : l.length < 1000000) : CallR cx 40 #[sv] H (fun v H' => v = i64 (rsN l : Nat) ∧ H' = H) := by
  obtain ⟨ra, rfl, _⟩ := h.isSlice
  simp only [List.length_map] at h ⊢
  have hp : 0 < l.length := List.length_pos_iff.2 hne
  obtain ⟨s1, s2, s3, s4⟩ := rsN_spec hne
  obtain ⟨la, oa, c0, rfl, b1, b2⟩ := gcell h hp
  have hcell : ∀ j, j < l.length → c0[oa + j]? = some (u64 (l.getD j 0 : Nat)) := by
    intro j hj
    obtain ⟨la', oa', cs, e, q1, q2⟩ := gcell h hj
    cases e
    rw [b1] at q1
    cases q1
    exact q2
  refine wk40 (by simp) ?_
  simp [c40]
  refine aw_loop_to (rsN l - 1) (fun k t => t.env 0 = .slice (some ⟨la, oa, none⟩) l.length l.length ∧ t.env 3 = i64 ((k + 1 : Nat) : Int) ∧ t.ds = [] ∧ t.H = H) ?_ ?_ ?_
  · rintro k ⟨env, H1, ds⟩ hk ⟨e0, e3, eds, rfl⟩
    simp only at e0 e3 eds b1
    obtain ⟨j, hj⟩ : ∃ j, j = k + 1 := ⟨_, rfl⟩
    rw [← hj] at e3
    have hjl : j < l.length := by omega
    have hjN : (j : Int) < l.length := by omega
    have hkN : (k : Int) < l.length := by omega
    have hix := ix22 la oa l.length l.length .i64 (j : Int) (by omega) hjN
    rw [Int.toNat_natCast] at hix
    have hixk := ix22 la oa l.length l.length .i64 (k : Int) (by omega) hkN
    rw [Int.toNat_natCast] at hixk
    have hc := hcell j hjl
    have hck := hcell k (by omega)
    have hb := hs.getD j
    rw [s3 j (by omega) (by omega), show j - 1 = k by omega] at hc hb
    generalize l.getD k 0 = x at hc hck hb
    have hlt : (x : Int) < 18446744073709551615 := by omega
    have hlt' : x < 18446744073709551615 := by omega
    obtain ⟨y, hy⟩ : ∃ y, y = x + 1 := ⟨_, rfl⟩
    rw [← hy] at hc
    have hwx : IntKind.u64.wrap ((x : Int) + 1) = (y : Int) := by rw [show (x : Int) + 1 = (y : Int) by omega, wU' (by omega)]
    have hwm : IntKind.i64.wrap ((j : Int) - 1) = (k : Int) := by rw [w64 (by omega)]; omega
    have hw : IntKind.i64.wrap ((j : Int) + 1) = ((k + 1 + 1 : Nat) : Int) := by rw [w64 (by omega)]; omega
    simp [e0, e3, hjl, hjN, hix, hixk, b1, hck, hc, hwm, hwx, hlt, hlt', hw, eds]
  · rintro ⟨env, H1, ds⟩ ⟨e0, e3, eds, rfl⟩
    simp only at e0 e3 eds b1
    rw [show rsN l - 1 + 1 = rsN l by omega] at e3
    generalize rsN l = n at *
    by_cases hn : n < l.length
    · have hnN : (n : Int) < l.length := by omega
      obtain ⟨k, hk⟩ : ∃ k, k = n - 1 := ⟨_, rfl⟩
      have hkN : (k : Int) < l.length := by omega
      have hix := ix22 la oa l.length l.length .i64 (n : Int) (by omega) hnN
      rw [Int.toNat_natCast] at hix
      have hixk := ix22 la oa l.length l.length .i64 (k : Int) (by omega) hkN
      rw [Int.toNat_natCast] at hixk
      have hc := hcell n hn
      have hck := hcell k (by omega)
      have hne := s4 hn
      have hb := hs.getD k
      rw [← hk] at hne
      generalize l.getD n 0 = y at hc hne
      generalize l.getD k 0 = x at hck hne hb
      have hwm : IntKind.i64.wrap ((n : Int) - 1) = (k : Int) := by rw [w64 (by omega)]; omega
      by_cases hlt : x < 18446744073709551615
      · have hltI : (x : Int) < 18446744073709551615 := by omega
        obtain ⟨x1, hx1⟩ : ∃ x1, x1 = x + 1 := ⟨_, rfl⟩
        have hwx : IntKind.u64.wrap ((x : Int) + 1) = (x1 : Int) := by rw [show (x : Int) + 1 = (x1 : Int) by omega, wU' (by omega)]
        rw [← hx1] at hne
        have hneI : ¬ (y : Int) = x1 := by omega
        simp [e0, e3, hn, hnN, hix, hixk, b1, hc, hck, hwm, hlt, hltI, hwx, hne, hneI, eds]
      · have hltI : ¬ (x : Int) < 18446744073709551615 := by omega
        simp [e0, e3, hn, hnN, hix, hixk, b1, hc, hck, hwm, hlt, hltI, eds]
    · have hnN : ¬ (n : Int) < l.length := by omega
      simp [e0, e3, hn, hnN, eds]
  · simp
/-- ref.like -/
theorem like_run {w : Bool} {sv : Value} {l : List Nat} {O : Option Nat} {i : Nat} (h : Row 39 w H sv (gcells l) O) (hi : i < l.length) (hl : l.length < 1000000) : CallR cx 25 #[sv, i64 (i : Nat)] H (fun v H' => v = i64 (smN (l.drop i) : Nat) ∧ H' = H) := by
  obtain ⟨ra, rfl, _⟩ := h.isSlice
  simp only [List.length_map] at h ⊢
  have hne : l.drop i ≠ [] := by intro e; have := congrArg List.length e; simp at this; omega
  obtain ⟨s1, s2, s3, s4⟩ := smN_spec hne
  simp only [List.length_drop] at s2 s4
  obtain ⟨la, oa, c0, rfl, b1, b2⟩ := gcell h hi
  have hcell : ∀ j, i + j < l.length → c0[oa + (i + j)]? = some (u64 ((l.drop i).getD j 0 : Nat)) := by
    intro j hj
    rw [getD_drop]
    obtain ⟨la', oa', cs, e, q1, q2⟩ := gcell h hj
    cases e
    rw [b1] at q1
    cases q1
    exact q2
  have hix0 := ix22 la oa l.length l.length .i64 (i : Int) (by omega) (by omega)
  rw [Int.toNat_natCast] at hix0
  have hx0 : (l.drop i).getD 0 0 = l.getD i 0 := by rw [getD_drop]; rfl
  rw [← hx0] at b2
  generalize (l.drop i).getD 0 0 = x0 at b2 s3 s4
  refine wk25 (by simp) ?_
  simp [c25]
  refine aw_loop_to (smN (l.drop i)) (fun k t => t.env 0 = .slice (some ⟨la, oa, none⟩) l.length l.length ∧ t.env 1 = i64 (i : Nat) ∧ t.env 5 = i64 (k : Nat) ∧ t.ds = [] ∧ t.H = H) ?_ ?_ ?_
  · rintro k ⟨env, H1, ds⟩ hk ⟨e0, e1, e5, eds, rfl⟩
    simp only at e0 e1 e5 eds b1
    obtain ⟨j, hj⟩ : ∃ j, j = i + k := ⟨_, rfl⟩
    have hjl : j < l.length := by omega
    have hjN : (j : Int) < l.length := by omega
    have hix := ix22 la oa l.length l.length .i64 (j : Int) (by omega) hjN
    rw [Int.toNat_natCast] at hix
    have hc := hcell k (by omega)
    rw [s3 k hk, ← hj] at hc
    have hwj : IntKind.i64.wrap ((i : Int) + (k : Int)) = (j : Int) := by rw [w64 (by omega)]; omega
    have hw : IntKind.i64.wrap ((k : Int) + 1) = ((k + 1 : Nat) : Int) := by rw [w64 (by omega)]; omega
    simp [e0, e1, e5, hwj, hjl, hjN, hix, hix0, b1, b2, hc, hw, eds]
  · rintro ⟨env, H1, ds⟩ ⟨e0, e1, e5, eds, rfl⟩
    simp only at e0 e1 e5 eds b1
    generalize smN (l.drop i) = n at *
    obtain ⟨j, hj⟩ : ∃ j, j = i + n := ⟨_, rfl⟩
    have hwj : IntKind.i64.wrap ((i : Int) + (n : Int)) = (j : Int) := by rw [w64 (by omega)]; omega
    by_cases hn : j < l.length
    · have hnN : (j : Int) < l.length := by omega
      have hix := ix22 la oa l.length l.length .i64 (j : Int) (by omega) hnN
      rw [Int.toNat_natCast] at hix
      have hc := hcell n (by omega)
      have hne := s4 (by omega)
      rw [← hj] at hc
      generalize (l.drop i).getD n 0 = y at hc hne
      have hneI : ¬ (y : Int) = x0 := by omega
      simp [e0, e1, e5, hwj, hn, hnN, hix, hix0, b1, b2, hc, hne, hneI, eds]
    · have hnN : ¬ (j : Int) < l.length := by omega
      simp [e0, e1, e5, hwj, hn, hnN, eds]
  · simp
/-- ref.rise -/
theorem rrise_run {w : Bool} {sv : Value} {l : List Nat} {O : Option Nat} {i : Nat} (h : Row 39 w H sv (gcells l) O) (hs : Sm l) (hi : i < l.length) (hl : l.length < 1000000) : CallR cx 28 #[sv, i64 (i : Nat)] H (fun v H' => v = i64 (rsN (l.drop i) : Nat) ∧ H' = H) := by
  obtain ⟨ra, rfl, _⟩ := h.isSlice
  simp only [List.length_map] at h ⊢
  have hne : l.drop i ≠ [] := by intro e; have := congrArg List.length e; simp at this; omega
  obtain ⟨s1, s2, s3, s4⟩ := rsN_spec hne
  simp only [List.length_drop] at s2 s4
  obtain ⟨la, oa, c0, rfl, b1, b2⟩ := gcell h hi
  have hcell : ∀ j, i + j < l.length → c0[oa + (i + j)]? = some (u64 ((l.drop i).getD j 0 : Nat)) := by
    intro j hj
    rw [getD_drop]
    obtain ⟨la', oa', cs, e, q1, q2⟩ := gcell h hj
    cases e
    rw [b1] at q1
    cases q1
    exact q2
  refine wk28 (by simp) ?_
  simp [c28]
  refine aw_loop_to (rsN (l.drop i) - 1) (fun k t => t.env 0 = .slice (some ⟨la, oa, none⟩) l.length l.length ∧ t.env 1 = i64 (i : Nat) ∧ t.env 5 = i64 ((k + 1 : Nat) : Int) ∧ t.ds = [] ∧ t.H = H) ?_ ?_ ?_
  · rintro k ⟨env, H1, ds⟩ hk ⟨e0, e1, e5, eds, rfl⟩
    simp only at e0 e1 e5 eds b1
    obtain ⟨n, hn⟩ : ∃ n, n = k + 1 := ⟨_, rfl⟩
    rw [← hn] at e5
    obtain ⟨j, hj⟩ : ∃ j, j = i + n := ⟨_, rfl⟩
    obtain ⟨j0, hj0⟩ : ∃ j0, j0 = i + k := ⟨_, rfl⟩
    have hjl : j < l.length := by omega
    have hjN : (j : Int) < l.length := by omega
    have hkN : (j0 : Int) < l.length := by omega
    have hix := ix22 la oa l.length l.length .i64 (j : Int) (by omega) hjN
    rw [Int.toNat_natCast] at hix
    have hixk := ix22 la oa l.length l.length .i64 (j0 : Int) (by omega) hkN
    rw [Int.toNat_natCast] at hixk
    have hc := hcell n (by omega)
    have hck := hcell k (by omega)
    have hb := (hs.drop i).getD n
    rw [← hj] at hc
    rw [← hj0] at hck
    rw [s3 n (by omega) (by omega), show n - 1 = k by omega] at hc hb
    generalize (l.drop i).getD k 0 = x at hc hck hb
    obtain ⟨y, hy⟩ : ∃ y, y = x + 1 := ⟨_, rfl⟩
    rw [← hy] at hc
    have hy0 : ¬ (y : Int) = 0 := by omega
    have hy0' : ¬ y = 0 := by omega
    have hwx : IntKind.u64.wrap ((y : Int) - 1) = (x : Int) := by rw [show (y : Int) - 1 = (x : Int) by omega, wU' (by omega)]
    have hwj : IntKind.i64.wrap ((i : Int) + (n : Int)) = (j : Int) := by rw [w64 (by omega)]; omega
    have hwm : IntKind.i64.wrap ((j : Int) - 1) = (j0 : Int) := by rw [w64 (by omega)]; omega
    have hw : IntKind.i64.wrap ((n : Int) + 1) = ((k + 1 + 1 : Nat) : Int) := by rw [w64 (by omega)]; omega
    simp [e0, e1, e5, hwj, hjl, hjN, hix, hixk, b1, hck, hc, hwm, hwx, hy0, hy0', hw, eds]
  · rintro ⟨env, H1, ds⟩ ⟨e0, e1, e5, eds, rfl⟩
    simp only at e0 e1 e5 eds b1
    rw [show rsN (l.drop i) - 1 + 1 = rsN (l.drop i) by omega] at e5
    generalize rsN (l.drop i) = n at *
    obtain ⟨j, hj⟩ : ∃ j, j = i + n := ⟨_, rfl⟩
    have hwj : IntKind.i64.wrap ((i : Int) + (n : Int)) = (j : Int) := by rw [w64 (by omega)]; omega
    by_cases hn : j < l.length
    · have hnN : (j : Int) < l.length := by omega
      obtain ⟨k, hk⟩ : ∃ k, k = n - 1 := ⟨_, rfl⟩
      obtain ⟨j0, hj0⟩ : ∃ j0, j0 = i + k := ⟨_, rfl⟩
      have hkN : (j0 : Int) < l.length := by omega
      have hix := ix22 la oa l.length l.length .i64 (j : Int) (by omega) hnN
      rw [Int.toNat_natCast] at hix
      have hixk := ix22 la oa l.length l.length .i64 (j0 : Int) (by omega) hkN
      rw [Int.toNat_natCast] at hixk
      have hc := hcell n (by omega)
      have hck := hcell k (by omega)
      have hne := s4 (by omega)
      have hb := (hs.drop i).getD n
      rw [← hk] at hne
      rw [← hj] at hc
      rw [← hj0] at hck
      generalize (l.drop i).getD n 0 = y at hc hne hb
      generalize (l.drop i).getD k 0 = x at hck hne
      have hwm : IntKind.i64.wrap ((j : Int) - 1) = (j0 : Int) := by rw [w64 (by omega)]; omega
      by_cases hy0 : y = 0
      · subst hy0
        simp [e0, e1, e5, hwj, hn, hnN, hix, hixk, b1, hc, hck, hwm, eds]
      · have hy0I : ¬ (y : Int) = 0 := by omega
        obtain ⟨y1, hy1⟩ : ∃ y1, y1 = y - 1 := ⟨_, rfl⟩
        have hwx : IntKind.u64.wrap ((y : Int) - 1) = (y1 : Int) := by rw [show (y : Int) - 1 = (y1 : Int) by omega, wU' (by omega)]
        have hne' : ¬ y1 = x := by omega
        have hneI : ¬ (y1 : Int) = x := by omega
        simp [e0, e1, e5, hwj, hn, hnN, hix, hixk, b1, hc, hck, hwm, hy0, hy0I, hwx, hne', hneI, eds]
    · have hnN : ¬ (j : Int) < l.length := by omega
      simp [e0, e1, e5, hwj, hn, hnN, eds]
  · simp
end Go.Proofs.YtmeaeafceankkaaDoor.C

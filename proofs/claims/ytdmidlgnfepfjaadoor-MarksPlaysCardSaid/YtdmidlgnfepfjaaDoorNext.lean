/- Next, and a new set, over the small heap. Own text of this session. -/
import Derived.Test.YtdmidlgnfepfjaaDoorPick
set_option linter.unusedVariables false
set_option linter.unusedSimpArgs false
set_option maxRecDepth 4000
set_option maxHeartbeats 4000000
namespace Go.Proofs.YtdmidlgnfepfjaaDoor.C
open Go Go.RowKit Go.Proofs.YtdmidlgnfepfjaaDoorA Go.Proofs.YtdmidlgnfepfjaaDoor.Ones
variable {H : AH}
/-- what Next tells -/
def NextR (ws : List Nat) (i : Nat) (v : Value) : Prop := (∃ j, bitAt ws j = true ∧ i ≤ j ∧ (∀ m, i ≤ m → m < j → bitAt ws m = false) ∧ v = .tuple #[i64 (j : Nat), .bool true]) ∨ ((∀ j, i ≤ j → bitAt ws j = false) ∧ v = .tuple #[i64 0, .bool false])
/-- a word's part from a place on -/
def From (ws : List Nat) (i q y : Nat) : Prop := y < 18446744073709551616 ∧ ∀ j, j < 64 → y.testBit j = ((ws.getD q 0).testBit j && decide (i ≤ 64 * q + j))
theorem mul_bit (x r j : Nat) : (x / 2 ^ r * 2 ^ r).testBit j = (x.testBit j && decide (r ≤ j)) := by
  have := Nat.testBit_two_pow_mul_add (x / 2 ^ r) (i := r) (b := 0) (Nat.two_pow_pos r) j
  rw [Nat.add_zero, Nat.mul_comm] at this
  rw [this]
  by_cases h : j < r
  · have h2 : ¬ r ≤ j := by omega
    rw [if_pos h, Nat.zero_testBit]
    simp [h2]
  · have h2 : r ≤ j := by omega
    rw [if_neg h, Nat.testBit_div_two_pow]
    have e : j - r + r = j ∧ r + (j - r) = j := by omega
    simp [e.1, e.2, h2]
/-- Next -/
theorem next_run {S W w : Nat} {ws : List Nat} (h : IsSet H S W w ws) (hz : ∀ j, w ≤ j → bitAt ws j = false) (hg : HasG gs H) {i0 : Int} {i : Nat} (hi : max 0 i0 = (i : Int)) : CallR cx 12 #[ptr S, i64 i0] H (fun v H' => NextR ws i v ∧ H' = H) := by
  refine wk12 (by simp) ?_
  have hS := h.hS
  have hW := h.hW
  have hwd := h.wide
  have hlen := h.len
  simp [c12, hi]
  refine callV_R cb18 (width_run h) ?_
  rintro _ H1 ⟨rfl, hH⟩
  subst hH
  by_cases hiw : w ≤ i
  · have hiwI : (w : Int) ≤ i := by omega
    simp [hiw, hiwI]
    exact .inr ⟨fun j hj => hz j (by omega), rfl⟩
  have hiwI : ¬ (w : Int) ≤ i := by omega
  obtain ⟨q, hq⟩ : ∃ q, q = i / 64 := ⟨_, rfl⟩
  obtain ⟨r, hr⟩ : ∃ r, r = i % 64 := ⟨_, rfl⟩
  have hiq : i = 64 * q + r := by omega
  have hql : q < ws.length := by omega
  have hsh : ∀ ox oy, aBin Tryd.prog .shr 3 ox oy (i64 (i : Int)) (.int .u64 6) = some (i64 (q : Int)) := fun ox oy => by rw [hq]; exact shr6 i ox oy
  have hm : bits .and .i64 (i : Int) 63 = (r : Int) := by rw [hr]; exact and63 i (by omega)
  have hcv := wU (n := r) (by omega)
  have hsmall : ∀ a, a < ws.length → ws.getD a 0 < 18446744073709551616 := fun a ha => by
    rw [List.getD_eq_getElem?_getD, List.getElem?_eq_getElem ha]; exact h.small _ (List.getElem_mem _)
  have hcell : ∀ a, a < ws.length → (wcells ws)[a]? = some (u64 (ws.getD a 0 : Nat)) := fun a ha => wcell ha
  have hixq := ix47 W 0 ws.length ws.length .i64 (q : Int) (by omega) (by omega)
  rw [Int.toNat_natCast] at hixq
  have hxq := hcell q hql
  have hsq := hsmall q hql
  have hF0 : From ws i q (ws.getD q 0 / 2 ^ r * 2 ^ r) := by
    refine ⟨Nat.lt_of_le_of_lt (Nat.div_mul_le_self _ _) hsq, fun j hj => ?_⟩
    rw [mul_bit]
    congr 2
    apply propext
    omega
  obtain ⟨x, hxx⟩ : ∃ x, x = ws.getD q 0 := ⟨_, rfl⟩
  rw [← hxx] at hxq hsq hF0
  have hs1 := shrW x r (by omega)
  obtain ⟨y, hy⟩ : ∃ y, y = x / 2 ^ r := ⟨_, rfl⟩
  rw [← hy] at hs1 hF0
  have hs2 : ∀ ox oy, aBin Tryd.prog .shl 50 ox oy (u64 (y : Int)) (.int .u64 (r : Int)) = some (u64 ((y * 2 ^ r : Nat) : Int)) := fun ox oy => by
    rw [aBin_shl (P := Tryd.prog) 50 ox oy .u64 .u64 (y : Int) r (by omega)]
    have : min (r : Int).toNat (IntKind.bits .u64) = r := by simp [IntKind.bits]; omega
    rw [this]
    have e : (y : Int) * 2 ^ r = ((y * 2 ^ r : Nat) : Int) := by simp
    rw [e, wU hF0.1]
  obtain ⟨W0, hW0⟩ : ∃ W0, W0 = y * 2 ^ r := ⟨_, rfl⟩
  rw [← hW0] at hs2 hF0
  obtain ⟨cs, hcs⟩ : ∃ cs, cs = wcells ws := ⟨_, rfl⟩
  rw [← hcs] at hW hxq
  simp only [← hcs] at hcell
  simp [hiw, hiwI, hS, hsh, hixq, hW, hxq, hm, hcv, hs1, hs2]
  refine aw_loop_to (ws.length - 1 - q) (fun k t => t.env 0 = ptr S ∧ t.env 7 = i64 ((q + k : Nat) : Int) ∧ t.ds = [] ∧ t.H = H1 ∧ (∃ z, From ws i (q + k) z ∧ t.env 6 = u64 (z : Nat)) ∧ ∀ m, i ≤ m → m < 64 * (q + k) → bitAt ws m = false) ?_ ?_ ?_
  · rintro k ⟨env, H2, ds⟩ hk ⟨e0, e7, eds, hH, ⟨z, hz1, e6⟩, hno⟩
    simp only at e0 e6 e7 eds hH
    subst hH
    obtain ⟨a, ha⟩ : ∃ a, a = q + k := ⟨_, rfl⟩
    rw [← ha] at e7 hz1 hno
    have hal : a < ws.length := by omega
    have hwb := bitAt_word ws a
    obtain ⟨a1, ha1⟩ : ∃ a1, a1 = a + 1 := ⟨_, rfl⟩
    have hw1 : IntKind.i64.wrap ((a : Int) + 1) = (a1 : Int) := by rw [w64 (by omega)]; omega
    by_cases hzn : z = 0
    case neg =>
      obtain ⟨m, hm1, ht⟩ := low_form hzn hz1.1
      have l1 := hz1.2 (lowb z) ht
      rw [low_bit hzn hz1.1] at l1
      simp only [Bool.true_eq, Bool.and_eq_true, decide_eq_true_eq] at l1
      have l2 : ∀ r', r' < lowb z → i ≤ 64 * a + r' → bitAt ws (64 * a + r') = false := fun r' h1 h2 => by
        have h3 := hz1.2 r' (by omega)
        rw [low_none hzn hz1.1 h1] at h3
        rw [hwb r' (by omega)]
        simp [h2] at h3
        exact h3
      have hbit := hwb (lowb z) ht
      rw [l1.1] at hbit
      have htz := tz_run (H := H2) hzn hz1.1 hg
      generalize lowb z = t at ht l1 l2 hbit htz
      have hs6 := shl6 a (by omega)
      obtain ⟨j, hj⟩ : ∃ j, j = 64 * a + t := ⟨_, rfl⟩
      obtain ⟨a6, ha6⟩ : ∃ a6, a6 = 64 * a := ⟨_, rfl⟩
      have hw3 : IntKind.i64.wrap ((a6 : Int) + (t : Int)) = (j : Int) := by rw [w64 (by omega)]; omega
      rw [← hj] at hbit
      rw [← ha6] at hs6
      simp [e0, e6, e7, hzn, hs6]
      refine callV_R cb25 htz ?_
      rintro _ H4 ⟨rfl, hH⟩
      subst hH
      simp [hw3, eds]
      refine .inl ⟨j, hbit, by omega, fun m hm2 hm3 => ?_, rfl⟩
      by_cases h1 : m < 64 * a
      · exact hno m hm2 h1
      · have := l2 (m - 64 * a) (by omega) (by omega)
        rwa [show 64 * a + (m - 64 * a) = m by omega] at this
    have hno1 : ∀ m, i ≤ m → m < 64 * a1 → bitAt ws m = false := fun m h1 h2 => by
      by_cases h3 : m < 64 * a
      · exact hno m h1 h3
      · have h4 := hz1.2 (m - 64 * a) (by omega)
        rw [hzn, Nat.zero_testBit, show 64 * a + (m - 64 * a) = m by omega] at h4
        have h5 := hwb (m - 64 * a) (by omega)
        rw [show 64 * a + (m - 64 * a) = m by omega] at h5
        rw [h5]
        simp [h1] at h4
        exact h4
    subst hzn
    have hne : ¬ (a1 : Int) = ws.length := by omega
    have hneN : ¬ a1 = ws.length := by omega
    have hix := ix47 W 0 ws.length ws.length .i64 (a1 : Int) (by omega) (by omega)
    rw [Int.toNat_natCast] at hix
    have hx1 := hcell a1 (by omega)
    have hF1 : From ws i a1 (ws.getD a1 0) := by
      refine ⟨hsmall a1 (by omega), fun j hj => ?_⟩
      have : i ≤ 64 * a1 + j := by omega
      simp [this]
    obtain ⟨x1, hxx1⟩ : ∃ x, x = ws.getD a1 0 := ⟨_, rfl⟩
    rw [← hxx1] at hx1 hF1
    have hkk : q + (k + 1) = a1 := by omega
    rw [hkk]
    simp [e0, e6, e7, hw1, hS, hne, hneN, hix, hW, hx1, eds]
    exact ⟨⟨x1, hF1, rfl⟩, hno1⟩
  · obtain ⟨k, hk⟩ : ∃ k, k = ws.length - 1 - q := ⟨_, rfl⟩
    rw [← hk]
    rintro ⟨env, H2, ds⟩ ⟨e0, e7, eds, hH, ⟨z, hz1, e6⟩, hno⟩
    simp only at e0 e6 e7 eds hH
    subst hH
    obtain ⟨a, ha⟩ : ∃ a, a = q + k := ⟨_, rfl⟩
    rw [← ha] at e7 hz1 hno
    have hal : a < ws.length := by omega
    have hwb := bitAt_word ws a
    obtain ⟨a1, ha1⟩ : ∃ a1, a1 = a + 1 := ⟨_, rfl⟩
    have hw1 : IntKind.i64.wrap ((a : Int) + 1) = (a1 : Int) := by rw [w64 (by omega)]; omega
    by_cases hzn : z = 0
    case neg =>
      obtain ⟨m, hm1, ht⟩ := low_form hzn hz1.1
      have l1 := hz1.2 (lowb z) ht
      rw [low_bit hzn hz1.1] at l1
      simp only [Bool.true_eq, Bool.and_eq_true, decide_eq_true_eq] at l1
      have l2 : ∀ r', r' < lowb z → i ≤ 64 * a + r' → bitAt ws (64 * a + r') = false := fun r' h1 h2 => by
        have h3 := hz1.2 r' (by omega)
        rw [low_none hzn hz1.1 h1] at h3
        rw [hwb r' (by omega)]
        simp [h2] at h3
        exact h3
      have hbit := hwb (lowb z) ht
      rw [l1.1] at hbit
      have htz := tz_run (H := H2) hzn hz1.1 hg
      generalize lowb z = t at ht l1 l2 hbit htz
      have hs6 := shl6 a (by omega)
      obtain ⟨j, hj⟩ : ∃ j, j = 64 * a + t := ⟨_, rfl⟩
      obtain ⟨a6, ha6⟩ : ∃ a6, a6 = 64 * a := ⟨_, rfl⟩
      have hw3 : IntKind.i64.wrap ((a6 : Int) + (t : Int)) = (j : Int) := by rw [w64 (by omega)]; omega
      rw [← hj] at hbit
      rw [← ha6] at hs6
      simp [e0, e6, e7, hzn, hs6]
      refine callV_R cb25 htz ?_
      rintro _ H4 ⟨rfl, hH⟩
      subst hH
      simp [hw3, eds]
      refine .inl ⟨j, hbit, by omega, fun m hm2 hm3 => ?_, rfl⟩
      by_cases h1 : m < 64 * a
      · exact hno m hm2 h1
      · have := l2 (m - 64 * a) (by omega) (by omega)
        rwa [show 64 * a + (m - 64 * a) = m by omega] at this
    have hno1 : ∀ m, i ≤ m → m < 64 * a1 → bitAt ws m = false := fun m h1 h2 => by
      by_cases h3 : m < 64 * a
      · exact hno m h1 h3
      · have h4 := hz1.2 (m - 64 * a) (by omega)
        rw [hzn, Nat.zero_testBit, show 64 * a + (m - 64 * a) = m by omega] at h4
        have h5 := hwb (m - 64 * a) (by omega)
        rw [show 64 * a + (m - 64 * a) = m by omega] at h5
        rw [h5]
        simp [h1] at h4
        exact h4
    subst hzn
    have hne : (a1 : Int) = ws.length := by omega
    have hneN : a1 = ws.length := by omega
    simp [e0, e6, e7, hw1, hS, hneN, eds]
    refine .inr ⟨fun j hj => ?_, rfl⟩
    cases hb : bitAt ws j with
    | false => rfl
    | true =>
      have h1 := bitAt_in hb
      have h2 := hno1 j hj (by omega)
      rw [hb] at h2
      cases h2
  · simp
    refine ⟨⟨W0, hF0, rfl⟩, fun m h1 h2 => by omega⟩
end Go.Proofs.YtdmidlgnfepfjaaDoor.C

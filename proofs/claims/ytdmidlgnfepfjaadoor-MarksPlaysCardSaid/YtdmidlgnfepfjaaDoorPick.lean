/- Pick and Next, over the small heap. Own text of this session. -/
import Derived.Test.YtdmidlgnfepfjaaDoorTz
set_option linter.unusedVariables false
set_option linter.unusedSimpArgs false
set_option maxRecDepth 4000
set_option maxHeartbeats 4000000
namespace Go.Proofs.YtdmidlgnfepfjaaDoor.C
open Go Go.RowKit Go.Proofs.YtdmidlgnfepfjaaDoorA Go.Proofs.YtdmidlgnfepfjaaDoor.Ones
variable {H : AH}
theorem bitsN_mono (x : Nat) {a b : Nat} (h : a ≤ b) : bitsN x a ≤ bitsN x b := by
  obtain ⟨d, rfl⟩ : ∃ d, b = a + d := ⟨b - a, by omega⟩
  rw [bitsN_add]
  omega
theorem bitsN_hit (x s : Nat) : ∀ t, s < bitsN x t → ∃ j, j < t ∧ x.testBit j = true ∧ bitsN x j = s
  | 0, h => by simp [bitsN] at h
  | t + 1, h => by
    rw [bitsN] at h
    by_cases h1 : s < bitsN x t
    · obtain ⟨j, h2, h3, h4⟩ := bitsN_hit x s t h1
      exact ⟨j, by omega, h3, h4⟩
    · cases hb : x.testBit t with
      | true => rw [hb] at h; simp at h; exact ⟨t, by omega, hb, by omega⟩
      | false => rw [hb] at h; simp at h; omega
/-- a word without its lowest so many set bits -/
def Less (x s y : Nat) : Prop := y < 18446744073709551616 ∧ ∀ j, j < 64 → y.testBit j = (x.testBit j && decide (s ≤ bitsN x j))
theorem less_zero {x : Nat} (h : x < 18446744073709551616) : Less x 0 x := ⟨h, fun j _ => by simp⟩
theorem less_ne {x s y : Nat} (h : Less x s y) (hs : s < bitsN x 64) : y ≠ 0 := by
  obtain ⟨j, h1, h2, h3⟩ := bitsN_hit x s 64 hs
  intro e
  have := h.2 j h1
  rw [e, h2, h3] at this
  simp at this
theorem less_low {x s y : Nat} (h : Less x s y) (hs : s < bitsN x 64) : lowb y < 64 ∧ x.testBit (lowb y) = true ∧ bitsN x (lowb y) = s := by
  have hne := less_ne h hs
  obtain ⟨m, hm, ht⟩ := low_form hne h.1
  have hb := h.2 (lowb y) ht
  rw [low_bit hne h.1] at hb
  simp at hb
  refine ⟨ht, hb.1, ?_⟩
  rcases Nat.lt_or_ge s (bitsN x (lowb y)) with h1 | h1
  · obtain ⟨j, h2, h3, h4⟩ := bitsN_hit x s _ h1
    have h5 := h.2 j (by omega)
    rw [low_none hne h.1 h2, h3, h4] at h5
    simp at h5
  · omega
theorem less_succ {x s y : Nat} (h : Less x s y) (hs : s < bitsN x 64) : Less x (s + 1) (y &&& (y - 1)) := by
  have hne := less_ne h hs
  obtain ⟨h1, h2, h3⟩ := less_low h hs
  refine ⟨Nat.lt_of_le_of_lt Nat.and_le_left h.1, fun j hj => ?_⟩
  rw [clear_bit hne h.1, h.2 j hj]
  generalize lowb y = t at h1 h2 h3
  have hsucc : bitsN x (t + 1) = s + 1 := by rw [bitsN, h2, h3]; rfl
  cases hx : x.testBit j with
  | false => simp
  | true =>
    simp
    rcases Nat.lt_trichotomy j t with h4 | h4 | h4
    · have h5 := bitsN_mono x (show j + 1 ≤ t by omega)
      rw [bitsN, hx] at h5
      simp at h5
      have e1 : ¬ s ≤ bitsN x j := by omega
      have e2 : ¬ s + 1 ≤ bitsN x j := by omega
      simp [e1, e2]
    · subst h4
      have e2 : ¬ s + 1 ≤ bitsN x j := by omega
      simp [e2]
    · have h5 := bitsN_mono x (show t + 1 ≤ j by omega)
      have e1 : s ≤ bitsN x j := by omega
      have e2 : s + 1 ≤ bitsN x j := by omega
      have e3 : ¬ j = t := by omega
      simp [e1, e2, e3]
theorem below_mono (ws : List Nat) {a b : Nat} (h : a ≤ b) : below ws a ≤ below ws b := by
  obtain ⟨d, rfl⟩ : ∃ d, b = a + d := ⟨b - a, by omega⟩
  clear h
  induction d with
  | zero => exact Nat.le_refl _
  | succ d ih => rw [← Nat.add_assoc, below]; omega
theorem below_strict (ws : List Nat) {a b : Nat} (h : a < b) (ha : bitAt ws a = true) : below ws a < below ws b := by
  have := below_mono ws (show a + 1 ≤ b by omega)
  rw [below, ha] at this
  simp at this
  omega
theorem below_inj {ws : List Nat} {a b : Nat} (ha : bitAt ws a = true) (hb : bitAt ws b = true) (h : below ws a = below ws b) : a = b := by
  rcases Nat.lt_trichotomy a b with h1 | h1 | h1
  · have := below_strict ws h1 ha; omega
  · exact h1
  · have := below_strict ws h1 hb; omega
theorem bitAt_in {ws : List Nat} {j : Nat} (h : bitAt ws j = true) : j < 64 * ws.length := by
  rcases Nat.lt_or_ge (j / 64) ws.length with h1 | h1
  · omega
  · rw [bitAt, List.getD_eq_getElem?_getD, List.getElem?_eq_none h1] at h
    simp at h
theorem bitAt_word (ws : List Nat) (q r : Nat) (h : r < 64) : bitAt ws (64 * q + r) = (ws.getD q 0).testBit r := by
  have e1 : (64 * q + r) / 64 = q := by omega
  have e2 : (64 * q + r) % 64 = r := by omega
  rw [bitAt, e1, e2]
theorem wI {n : Int} (h : -9223372036854775808 ≤ n ∧ n ≤ 9223372036854775807) : IntKind.i64.wrap n = n := by simp [IntKind.wrap, IntKind.bits, IntKind.signed]; omega
/-- what Pick tells -/
def PickR (ws : List Nat) (k : Nat) (v : Value) : Prop := (∃ j, bitAt ws j = true ∧ below ws j = k ∧ v = .tuple #[i64 (j : Nat), .bool true]) ∨ ((∀ j, bitAt ws j = true → below ws j ≠ k) ∧ v = .tuple #[i64 0, .bool false])
theorem shl6 (q : Nat) (hq : q < 1000000) (ox oy : Operand) : aBin Tryd.prog .shl 3 ox oy (i64 (q : Int)) (.int .u64 6) = some (i64 ((64 * q : Nat) : Int)) := by
  rw [aBin_shl (P := Tryd.prog) 3 ox oy .i64 .u64 (q : Int) 6 (by decide)]
  have : min (Int.toNat 6) (IntKind.bits .i64) = 6 := by decide
  rw [this, w64 (by omega)]
  congr 2
  omega
/-- Pick -/
theorem pick_run {S W w : Nat} {ws : List Nat} (h : IsSet H S W w ws) (hg : HasG gs H) {k : Nat} (hk : k < 9223372036854775808) : CallR cx 10 #[ptr S, i64 k] H (fun v H' => PickR ws k v ∧ H' = H) := by
  refine wk10 (by simp) ?_
  have hk0 : ¬ (k : Int) < 0 := by omega
  have hS := h.hS
  have hW := h.hW
  have hwd := h.wide
  have hlen := h.len
  simp [c10, hk0, hS]
  refine aw_loop_to ws.length (fun a t => t.env 18 = .slice (some ⟨W, 0, none⟩) ws.length ws.length ∧ t.env 19 = i64 (ws.length : Nat) ∧ t.env 20 = i64 (a : Nat) ∧ t.ds = [] ∧ t.H = H ∧ ∃ r : Nat, t.env 1 = i64 (r : Nat) ∧ k = below ws (64 * a) + r) ?_ ?_ ?_
  · rintro a ⟨env, H1, ds⟩ ha ⟨e18, e19, e20, eds, hH, r, e1, hr⟩
    simp only at e1 e18 e19 e20 eds hH
    subst hH
    have haN : (a : Int) < ws.length := by omega
    have hx := wcell ha
    have hsm : ws.getD a 0 < 18446744073709551616 := by
      rw [List.getD_eq_getElem?_getD, List.getElem?_eq_getElem ha]; exact h.small _ (List.getElem_mem _)
    have hba := below_add ws a
    have hwb := bitAt_word ws a
    have hix := ix47 W 0 ws.length ws.length .i64 (a : Int) (by omega) haN
    rw [Int.toNat_natCast] at hix
    obtain ⟨x, hxx⟩ : ∃ x, x = ws.getD a 0 := ⟨_, rfl⟩
    rw [← hxx] at hx hsm
    simp only [← hxx] at hba hwb
    have hon := ones_run (H := H1) hsm
    obtain ⟨y, hy⟩ : ∃ y, y = bitsN x 64 := ⟨_, rfl⟩
    rw [← hy] at hon
    have hyl : y ≤ 64 := by rw [hy]; exact bitsN_le x 64
    have hw := w64 (n := (a : Int) + 1) (by omega)
    obtain ⟨cs, hcs⟩ : ∃ cs, cs = wcells ws := ⟨_, rfl⟩
    rw [← hcs] at hx
    have hW := hW
    rw [← hcs] at hW
    simp [e18, e19, e20, ha, haN, hix, hW, hx]
    refine callV_R cb24 hon ?_
    rintro _ H2 ⟨rfl, hH⟩
    subst hH
    by_cases hc : y ≤ r
    · have hcI : (y : Int) ≤ r := by omega
      have hw2 : IntKind.i64.wrap ((r : Int) - (y : Int)) = ((r - y : Nat) : Int) := by rw [wI (by omega)]; omega
      simp [e1, e18, e19, e20, hc, hcI, hw, hw2, eds]
      refine ⟨r - y, rfl, ?_⟩
      have := hba 64 (Nat.le_refl _)
      rw [show 64 * a + 64 = 64 * (a + 1) by omega] at this
      rw [this, ← hy]
      omega
    · have hcI : ¬ (y : Int) ≤ r := by omega
      have hri : r < bitsN x 64 := by omega
      -- the lowest ones are cleared
      simp [e1, hc, hcI]
      refine aw_loop_to r (fun s t => t.env 1 = i64 ((r - s : Nat) : Int) ∧ t.env 6 = i64 (a : Nat) ∧ t.ds = [] ∧ t.H = H2 ∧ ∃ z, Less x s z ∧ t.env 7 = u64 (z : Nat)) ?_ ?_ ?_
      · clear e1 e18 e19 e20 eds
        rintro s ⟨env, H3, ds⟩ hs ⟨e1, e6, eds, hH, z, hz, e7⟩
        simp only at e1 e6 e7 eds hH
        subst hH
        have hpos : (0 : Int) < ((r - s : Nat) : Int) := by omega
        have hposN : 0 < r - s := by omega
        have hzn := less_ne hz (by omega)
        have hzs := less_succ hz (by omega)
        have hand := u64_and_nat z (z - 1) hz.1 (by have := hz.1; omega)
        obtain ⟨z1, hz1⟩ : ∃ z1, z1 = z - 1 := ⟨_, rfl⟩
        rw [← hz1] at hand hzs
        have hw1 : IntKind.u64.wrap ((z : Int) - 1) = (z1 : Int) := by rw [show (z : Int) - 1 = (z1 : Int) by omega, wU (by have := hz.1; omega)]
        obtain ⟨d, hd⟩ : ∃ d, d = r - s := ⟨_, rfl⟩
        rw [← hd] at e1 hpos hposN
        have hw2 : IntKind.i64.wrap ((d : Int) - 1) = ((r - (s + 1) : Nat) : Int) := by rw [w64 (by omega)]; omega
        simp [e1, e6, e7, hpos, hposN, hw1, hand, hw2, eds]
        exact ⟨_, hzs, rfl⟩
      · clear e1 e18 e19 e20 eds
        rintro ⟨env, H3, ds⟩ ⟨e1, e6, eds, hH, z, hz, e7⟩
        simp only at e1 e6 e7 eds hH
        subst hH
        rw [Nat.sub_self] at e1
        have hzn := less_ne hz hri
        obtain ⟨l1, l2, l3⟩ := less_low hz hri
        have htz := tz_run (H := H3) hzn hz.1 hg
        have hbit := hwb (lowb z) l1
        rw [l2] at hbit
        have hbel := hba (lowb z) (by omega)
        rw [l3] at hbel
        generalize lowb z = t at l1 htz hbit hbel
        have hs6 := shl6 a (by omega)
        obtain ⟨j, hj⟩ : ∃ j, j = 64 * a + t := ⟨_, rfl⟩
        obtain ⟨a6, ha6⟩ : ∃ a6, a6 = 64 * a := ⟨_, rfl⟩
        have hw3 : IntKind.i64.wrap ((a6 : Int) + (t : Int)) = (j : Int) := by rw [w64 (by omega)]; omega
        rw [← hj] at hbit hbel
        rw [← ha6] at hs6
        simp [e1, e6, e7, hs6]
        refine callV_R cb25 htz ?_
        rintro _ H4 ⟨rfl, hH⟩
        subst hH
        simp [hw3, eds]
        exact .inl ⟨j, hbit, by rw [hbel, ← hr], rfl⟩
      · simp [e1, e20, eds]
        exact ⟨x, less_zero hsm, rfl⟩
  · rintro ⟨env, H1, ds⟩ ⟨e18, e19, e20, eds, hH, r, e1, hr⟩
    simp only at e1 e18 e19 e20 eds hH
    simp [e19, e20, eds, hH]
    refine .inr ⟨fun j hj e => ?_, rfl⟩
    have := below_strict ws (bitAt_in hj) hj
    omega
  · simp [below]
end Go.Proofs.YtdmidlgnfepfjaaDoor.C

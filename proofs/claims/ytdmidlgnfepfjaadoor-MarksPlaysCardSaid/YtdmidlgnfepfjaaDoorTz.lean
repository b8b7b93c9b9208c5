/- The lowest set bit: TrailingZeros64, and clearing it. Own text of this session. -/
import Derived.Test.YtdmidlgnfepfjaaDoorCnt
import Derived.Lib.TrailingZeros
set_option linter.unusedVariables false
set_option linter.unusedSimpArgs false
set_option maxRecDepth 4000
set_option maxHeartbeats 4000000
namespace Go.Proofs.YtdmidlgnfepfjaaDoor.C
open Go Go.RowKit Go.Proofs.YtdmidlgnfepfjaaDoorA Go.Proofs.YtdmidlgnfepfjaaDoor.Ones
variable {H : AH}
/-- the lowest set bit's place -/
def lowb (x : Nat) : Nat := Lib.ctz 64 x
theorem low_form {x : Nat} (h0 : x ≠ 0) (h : x < 18446744073709551616) : ∃ m, x = 2 ^ lowb x * (2 * m + 1) ∧ lowb x < 64 := by
  have := Lib.ctzFrom_spec 64 x (by omega) h
  simpa [lowb, Lib.ctz, h0] using this
theorem bit_of_form {x t m : Nat} (h : x = 2 ^ t * (2 * m + 1)) (j : Nat) : x.testBit j = if j < t then false else (2 * m + 1).testBit (j - t) := by
  have := Nat.testBit_two_pow_mul_add (2 * m + 1) (i := t) (b := 0) (Nat.two_pow_pos t) j
  rw [Nat.add_zero, ← h] at this
  rw [this, Nat.zero_testBit]
theorem low_bit {x : Nat} (h0 : x ≠ 0) (h : x < 18446744073709551616) : x.testBit (lowb x) = true := by
  obtain ⟨m, hm, ht⟩ := low_form h0 h
  rw [bit_of_form hm, if_neg (Nat.lt_irrefl _), Nat.sub_self, Nat.testBit_zero]
  simp
theorem low_none {x : Nat} (h0 : x ≠ 0) (h : x < 18446744073709551616) {j : Nat} (hj : j < lowb x) : x.testBit j = false := by
  obtain ⟨m, hm, ht⟩ := low_form h0 h
  rw [bit_of_form hm, if_pos hj]
theorem clear_bit {x : Nat} (h0 : x ≠ 0) (h : x < 18446744073709551616) (j : Nat) : (x &&& (x - 1)).testBit j = (x.testBit j && decide (j ≠ lowb x)) := by
  obtain ⟨m, hm, ht⟩ := low_form h0 h
  generalize lowb x = t at hm ht
  have hp : 0 < 2 ^ t := Nat.two_pow_pos t
  have h1 : x - 1 = 2 ^ t * (2 * m) + (2 ^ t - 1) := by
    rw [Nat.mul_add, Nat.mul_one] at hm
    omega
  rw [Nat.testBit_and, h1, Nat.testBit_two_pow_mul_add _ (by omega), bit_of_form hm]
  by_cases h2 : j < t
  · simp [h2]
  · rw [if_neg h2, if_neg h2]
    by_cases h3 : j = t
    · subst h3; simp
    · obtain ⟨i, hi⟩ : ∃ i, j - t = i + 1 := ⟨j - t - 1, by omega⟩
      rw [hi, Nat.testBit_succ, Nat.testBit_succ]
      have e1 : (2 * m + 1) / 2 = m := by omega
      have e2 : 2 * m / 2 = m := by omega
      rw [e1, e2]
      simp [h3]
theorem tab_glob (hg : HasG gs H) : H.get 0 = some (.cells (Lib.deBruijn64tab.map fun (n : Nat) => Value.int .u8 (n : Int)) 0 false 1) := by
  have hm : ∃ x ∈ gs, x = (0, Lib.deBruijn64tab.map fun (n : Nat) => Value.int .u8 (n : Int)) := ⟨_, List.mem_cons_self, by kernel_rfl⟩
  obtain ⟨x, hx, rfl⟩ := hm
  exact hg _ hx
theorem ix57 (l o : Nat) (j : Nat) (h : j < 64) : aIndexAddr Tryd.prog 57 (.pointer (some ⟨l, o, none⟩)) (.int .u64 (j : Int)) = some (.pointer (some ⟨l, o + j, none⟩)) := by
  rw [aIndexAddr_array (P := Tryd.prog) un57 sz5 l o .u64 (j : Int) (by omega) (by omega)]
  simp
theorem aUn_neg (k : IntKind) (n : Int) : aUn Tryd.prog .neg (.int k n) = some (.int k (k.wrap (-n))) := by
  rw [← Int.zero_sub]
  cases k <;> rfl
/-- TrailingZeros64 of a number with a set bit -/
theorem tz_run {x : Nat} (h0 : x ≠ 0) (hx : x < 18446744073709551616) (hg : HasG gs H) : CallR cx 25 #[u64 (x : Int)] H (fun v H' => v = i64 ((lowb x : Nat) : Int) ∧ H' = H) := by
  refine wk25 (by simp) ?_
  have hgl := tab_glob hg
  have hlow := Lib.lowest_bit 64 x h0 hx
  have hdb := Lib.deBruijn64_at (lowb x) hlow.2
  obtain ⟨y, hy⟩ : ∃ y, y = 18446744073709551616 - x := ⟨_, rfl⟩
  have h1 : x &&& y = 2 ^ lowb x := by rw [hy]; exact hlow.1
  have hp : 2 ^ lowb x < 18446744073709551616 := Nat.lt_of_lt_of_le (Nat.pow_lt_pow_right (by decide) hlow.2) (by decide)
  have ht : lowb x < 64 := hlow.2
  obtain ⟨p, hpp⟩ : ∃ p, p = 2 ^ lowb x := ⟨_, rfl⟩
  rw [← hpp] at h1 hp hdb
  have hneg : IntKind.u64.wrap (-(x : Int)) = (y : Int) := by
    simp only [IntKind.wrap, IntKind.bits, IntKind.signed]
    simp
    omega
  have hand := u64_and_nat x y hx (by omega)
  rw [h1] at hand
  obtain ⟨q, hq⟩ : ∃ q, q = p * 285870213051353865 % 18446744073709551616 := ⟨_, rfl⟩
  have hmul : IntKind.u64.wrap ((p : Int) * 285870213051353865) = (q : Int) := by
    simp only [IntKind.wrap, IntKind.bits, IntKind.signed]
    simp
    omega
  obtain ⟨ix, hix⟩ : ∃ ix, ix = q / 288230376151711744 := ⟨_, rfl⟩
  rw [← hq, ← hix] at hdb
  have hshr := shrC q 58 58 rfl (by decide)
  rw [show q / 2 ^ 58 = ix by rw [hix]] at hshr
  have hidx := ix57 0 0 ix hdb.1
  have hcell : (Lib.deBruijn64tab.map fun (n : Nat) => Value.int .u8 (n : Int))[0 + ix]? = some (.int .u8 ((lowb x : Nat) : Int)) := by
    have hl : Lib.deBruijn64tab.length = 64 := rfl
    rw [Nat.zero_add, List.getElem?_map, List.getElem?_eq_getElem (by omega)]
    have := hdb.2
    rw [List.getD_eq_getElem?_getD, List.getElem?_eq_getElem (by omega)] at this
    simp only [Option.getD_some] at this
    rw [← this]
    rfl
  generalize (Lib.deBruijn64tab.map fun (n : Nat) => Value.int .u8 (n : Int)) = cs at hgl hcell
  generalize lowb x = t at ht hcell
  have hw := w64 (n := (t : Int)) (by omega)
  rw [Nat.zero_add] at hcell
  clear hy hpp hq hix hdb hlow h1
  simp only [u64] at hshr
  simp [c25, h0, aUn_neg, hneg, hand, hmul, hshr, hidx, hgl, hcell, hw]
end Go.Proofs.YtdmidlgnfepfjaaDoor.C

/- slices.Repeat, and what it stands on. Own text of this session. -/
import Derived.Test.YtmeaeafceankkaaDoorLReads
import Derived.Laws.BitsAllLaws
set_option linter.unusedVariables false
set_option linter.unusedSimpArgs false
set_option maxRecDepth 4000
set_option maxHeartbeats 8000000
namespace Go.Proofs.YtmeaeafceankkaaDoor.C
open Go Go.RowKit Go.Proofs.YtmeaeafceankkaaDoorA Go.Proofs.YtmeaeafceankkaaDoor.Plain
variable {H : AH}
theorem andLow (a : Nat) (h : a < 4294967296) : bits .and .u64 (a : Int) 4294967295 = (a : Int) := by
  have := u64_and_nat a 4294967295 (by omega) (by decide)
  have h2 : a &&& 4294967295 = a := by
    have : (4294967295 : Nat) = 2 ^ 32 - 1 := by decide
    rw [this, Nat.and_two_pow_sub_one_eq_mod]
    omega
  rw [h2] at this
  exact this
theorem wu (n : Nat) (h : n < 18446744073709551616) : IntKind.u64.wrap (n : Int) = (n : Int) := by simp [IntKind.wrap, IntKind.bits, IntKind.signed]; omega
theorem shr32 (n : Nat) (h : n < 4294967296) (ox oy : Operand) : aBin Tryd.prog .shr 39 ox oy (u64 (n : Int)) (.int .u64 32) = some (u64 0) := by
  rw [aBin_shr (P := Tryd.prog) 39 ox oy .u64 .u64 (n : Int) 32 (by decide)]
  have : (n : Int) / 2 ^ min (32 : Int).toNat IntKind.u64.bits = 0 := by
    show (n : Int) / 2 ^ 32 = 0
    omega
  rw [this]
theorem mk22 (n : Nat) (h : n ≤ 1000000) (H : AH) : aMakeSlice Tryd.prog 22 (.int .i64 n) (.int .i64 n) H = some (.slice (some ⟨H.next, 0, none⟩) n n, ⟨H.next + 1, upd H.get H.next (.cells (gcells (List.replicate n 0)) 39 true 1)⟩) := by
  have hi : Tryd.prog.info? 39 = some ((Tryd.prog.info? 39).getD default) := by kernel_rfl
  have hz : zeroOf Tryd.prog 39 = some [.int .u64 0] := by kernel_rfl
  have hs : ((Tryd.prog.info? 39).getD default).size = 1 := by kernel_rfl
  have hb : ((Tryd.prog.info? 39).getD default).bytes = 8 := by kernel_rfl
  simp only [aMakeSlice, un22, hz]
  rw [hi]
  simp only [hs, hb]
  rw [if_pos ⟨by omega, Int.le_refl _, by omega, by omega⟩]
  have : rowZeros [Value.int .u64 0] ((n : Int).toNat * 1) = gcells (List.replicate n 0) := by
    refine List.ext_getElem (by simp [rowZeros, gcells]) ?_
    intro i h1 h2
    simp [rowZeros, Nat.mod_one, gcells]
  rw [this]
  simp
  rfl
/-- bits.Mul64, of small numbers -/
theorem mul64_run {x y : Nat} (hx : x < 65536) (hy : y < 65536) : CallR cx 53 #[u64 (x : Int), u64 (y : Int)] H (fun v H' => v = .tuple #[u64 0, u64 ((x * y : Nat) : Int)] ∧ H' = H) := by
  have hxy : x * y < 4294967296 := by
    have := Nat.mul_le_mul (Nat.le_of_lt hx) (Nat.le_of_lt hy)
    have h1 : x * y ≤ 65535 * 65535 := Nat.mul_le_mul (by omega) (by omega)
    omega
  have a1 := andLow x (by omega)
  have a2 := andLow y (by omega)
  have hw := wu (x * y) (by omega)
  push_cast at hw
  have b1 := shr32 x (by omega)
  have b2 := shr32 y (by omega)
  have b3 := shr32 (x * y) (by omega)
  have b0 := shr32 0 (by omega)
  have a0 := andLow 0 (by omega)
  have w0 := wu 0 (by omega)
  push_cast at b3
  simp only [Int.natCast_zero] at b0 a0 w0
  refine wk53 (by simp) ?_
  simp [c53, a0, a1, a2, b0, b1, b2, b3, w0, hw]
/-- bits.Mul -/
theorem mul_run {x y : Nat} (hx : x < 65536) (hy : y < 65536) : CallR cx 45 #[u64 (x : Int), u64 (y : Int)] H (fun v H' => v = .tuple #[u64 0, u64 ((x * y : Nat) : Int)] ∧ H' = H) := by
  refine wk45 (by simp) ?_
  simp [c45]
  refine callV_R cb53 (mul64_run hx hy) ?_
  rintro _ H2 ⟨rfl, hH⟩
  subst hH
  simp
/-- a row, so many times -/
def rep (k : Nat) (xs : List Nat) : List Nat := (List.replicate k xs).flatten
theorem rep_succ (k : Nat) (xs : List Nat) : rep (k + 1) xs = rep k xs ++ xs := by
  unfold rep
  rw [List.replicate_succ', List.flatten_append]
  simp
theorem rep_succ' (k : Nat) (xs : List Nat) : rep (k + 1) xs = xs ++ rep k xs := by
  unfold rep
  rw [List.replicate_succ, List.flatten_cons]
theorem rep_len (k : Nat) (xs : List Nat) : (rep k xs).length = k * xs.length := by
  induction k with
  | zero => simp [rep]
  | succ k ih => rw [rep_succ, List.length_append, ih, Nat.add_mul]; omega
theorem rep_nil (k : Nat) : rep k [] = [] := List.length_eq_zero_iff.1 (by rw [rep_len]; simp)
theorem rep_add (a b : Nat) (xs : List Nat) : rep (a + b) xs = rep a xs ++ rep b xs := by
  unfold rep
  rw [← List.replicate_append_replicate, List.flatten_append]
/-- what is behind a whole number of rounds begins as the row does -/
theorem rep_shift {k m : Nat} {xs : List Nat} (h : m ≤ k) : (rep k xs).drop (m * xs.length) = rep (k - m) xs := by
  have e : k = m + (k - m) := by omega
  conv => lhs; rw [e, rep_add]
  rw [← rep_len m xs, List.drop_left]
theorem rep_pre {a b : Nat} {xs : List Nat} (h : a ≤ b) : (rep b xs).take (rep a xs).length = rep a xs := by
  have e : b = a + (b - a) := by omega
  rw [e, rep_add, List.take_left]
end Go.Proofs.YtmeaeafceankkaaDoor.C

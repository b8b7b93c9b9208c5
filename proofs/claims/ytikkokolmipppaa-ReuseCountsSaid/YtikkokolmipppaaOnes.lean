/- The count of ones of 64 bits, in plain numbers. Own text of this session. -/
namespace Go.Proofs.Ytikkokolmipppaa.Ones
/-- how many bits below a place are set -/
def bitsN (x : Nat) : Nat → Nat
  | 0 => 0
  | k + 1 => bitsN x k + (if x.testBit k then 1 else 0)
theorem and_split (k : Nat) {a c : Nat} (b d : Nat) (ha : a < 2 ^ k) (hc : c < 2 ^ k) : (a + 2 ^ k * b) &&& (c + 2 ^ k * d) = (a &&& c) + 2 ^ k * (b &&& d) := by
  refine Nat.eq_of_testBit_eq fun j => ?_
  have hac : a &&& c < 2 ^ k := Nat.lt_of_le_of_lt Nat.and_le_left ha
  rw [Nat.testBit_and, Nat.add_comm a, Nat.add_comm c, Nat.add_comm (a &&& c), Nat.testBit_two_pow_mul_add _ ha, Nat.testBit_two_pow_mul_add _ hc, Nat.testBit_two_pow_mul_add _ hac]
  split <;> simp
def mk (m : Nat) : Nat → Nat
  | 0 => 0
  | n + 1 => m + 256 * mk m n
def f1 (n x : Nat) : Nat := (x >>> 1 &&& mk 85 n) + (x &&& mk 85 n)
def f2 (n x : Nat) : Nat := (x >>> 2 &&& mk 51 n) + (x &&& mk 51 n)
def f3 (n x : Nat) : Nat := ((x >>> 4) + x) &&& mk 15 n
theorem b1 : ∀ b, b < 256 → ∀ r, r < 2 → (b / 2 + 128 * r) &&& 85 = b / 2 &&& 85 := by decide +kernel
theorem b2 : ∀ b, b < 256 → ∀ r, r < 4 → (b / 4 + 64 * r) &&& 51 = b / 4 &&& 51 := by decide +kernel
theorem s1 {b : Nat} (hb : b < 256) (r n : Nat) : f1 (n + 1) (b + 256 * r) = f1 1 b + 256 * f1 n r := by
  have e1 := and_split 8 r (mk 85 n) hb (c := 85) (by decide)
  have e2 := and_split 8 (a := b / 2 + 128 * (r % 2)) (r / 2) (mk 85 n) (by omega) (c := 85) (by decide)
  have e3 := b1 b hb (r % 2) (by omega)
  have e4 : (b + 256 * r) >>> 1 = b / 2 + 128 * (r % 2) + 2 ^ 8 * (r / 2) := by rw [Nat.shiftRight_eq_div_pow]; omega
  have e5 : r >>> 1 = r / 2 := by rw [Nat.shiftRight_eq_div_pow]
  have e6 : b >>> 1 = b / 2 := by rw [Nat.shiftRight_eq_div_pow]
  simp only [f1, mk]
  rw [e4, e5, e6]
  rw [show (256 : Nat) = 2 ^ 8 from rfl, e1, e2, e3]
  simp only [Nat.mul_zero, Nat.add_zero]
  omega
theorem s2 {b : Nat} (hb : b < 256) (r n : Nat) : f2 (n + 1) (b + 256 * r) = f2 1 b + 256 * f2 n r := by
  have e1 := and_split 8 r (mk 51 n) hb (c := 51) (by decide)
  have e2 := and_split 8 (a := b / 4 + 64 * (r % 4)) (r / 4) (mk 51 n) (by omega) (c := 51) (by decide)
  have e3 := b2 b hb (r % 4) (by omega)
  have e4 : (b + 256 * r) >>> 2 = b / 4 + 64 * (r % 4) + 2 ^ 8 * (r / 4) := by rw [Nat.shiftRight_eq_div_pow]; omega
  have e5 : r >>> 2 = r / 4 := by rw [Nat.shiftRight_eq_div_pow]
  have e6 : b >>> 2 = b / 4 := by rw [Nat.shiftRight_eq_div_pow]
  simp only [f2, mk]
  rw [e4, e5, e6]
  rw [show (256 : Nat) = 2 ^ 8 from rfl, e1, e2, e3]
  simp only [Nat.mul_zero, Nat.add_zero]
  omega
/-- a byte whose halves are at most 4 -/
def Small (b : Nat) : Prop := b % 16 ≤ 4 ∧ b / 16 ≤ 4
theorem b3 : ∀ b, b < 69 → b % 16 ≤ 4 → ∀ r, r < 5 → (b / 16 + 16 * r + b) &&& 15 = (b / 16 + b) &&& 15 := by decide +kernel
theorem s3 {b : Nat} (hb : Small b) (r n : Nat) (hr : r % 16 ≤ 4) : f3 (n + 1) (b + 256 * r) = f3 1 b + 256 * f3 n r := by
  obtain ⟨h1, h2⟩ := hb
  have hb' : b < 69 := by omega
  have e2 := and_split 8 (a := b / 16 + 16 * (r % 16) + b) (r / 16 + r) (mk 15 n) (by omega) (c := 15) (by decide)
  have e3 := b3 b hb' h1 (r % 16) (by omega)
  have e4 : (b + 256 * r) >>> 4 + (b + 256 * r) = b / 16 + 16 * (r % 16) + b + 2 ^ 8 * (r / 16 + r) := by rw [Nat.shiftRight_eq_div_pow]; omega
  have e5 : r >>> 4 = r / 16 := by rw [Nat.shiftRight_eq_div_pow]
  have e6 : b >>> 4 = b / 16 := by rw [Nat.shiftRight_eq_div_pow]
  simp only [f3, mk]
  rw [e4, e5, e6]
  rw [show (256 : Nat) = 2 ^ 8 from rfl, e2, e3]
def g (n x : Nat) : Nat := f3 n (f2 n (f1 n x))
theorem byte_ok : ∀ b, b < 256 → f1 1 b < 256 ∧ f2 1 (f1 1 b) % 16 ≤ 4 ∧ f2 1 (f1 1 b) / 16 ≤ 4 ∧ f3 1 (f2 1 (f1 1 b)) = bitsN b 8 := by decide +kernel
theorem low4 : ∀ (n x : Nat), f2 n (f1 n x) % 16 ≤ 4
  | 0, x => by simp [f2, mk]
  | n + 1, x => by
    have h : x = x % 256 + 256 * (x / 256) := by omega
    obtain ⟨h1, h2, h3, h4⟩ := byte_ok (x % 256) (by omega)
    rw [h, s1 (by omega), s2 h1]
    omega
theorem g_byte {b : Nat} (hb : b < 256) (r n : Nat) : g (n + 1) (b + 256 * r) = bitsN b 8 + 256 * g n r := by
  obtain ⟨h1, h2, h3, h4⟩ := byte_ok b hb
  unfold g
  rw [s1 hb, s2 h1, s3 ⟨h2, h3⟩ _ _ (low4 _ _), h4]
theorem bitsN_add (x k : Nat) : ∀ m, bitsN x (k + m) = bitsN x k + bitsN (x / 2 ^ k) m
  | 0 => rfl
  | m + 1 => by
    rw [← Nat.add_assoc, bitsN, bitsN_add x k m, bitsN]
    have : (x / 2 ^ k).testBit m = x.testBit (k + m) := by rw [Nat.testBit_div_two_pow, Nat.add_comm]
    rw [this]
    omega
theorem bitsN_mod (x : Nat) {k j : Nat} (h : j ≤ k) : bitsN (x % 2 ^ k) j = bitsN x j := by
  induction j with
  | zero => rfl
  | succ j ih =>
    rw [bitsN, bitsN, ih (by omega), Nat.testBit_mod_two_pow]
    simp [show j < k by omega]
theorem bitsN_le (x : Nat) : ∀ k, bitsN x k ≤ k
  | 0 => Nat.le_refl 0
  | k + 1 => by have := bitsN_le x k; rw [bitsN]; split <;> omega
theorem g_succ (x n : Nat) : g (n + 1) x = bitsN x 8 + 256 * g n (x / 256) := by
  conv => lhs; rw [show x = x % 256 + 256 * (x / 256) by omega]
  rw [g_byte (by omega), show (256 : Nat) = 2 ^ 8 from rfl, bitsN_mod x (Nat.le_refl 8)]
theorem mk85 : mk 85 8 = 6148914691236517205 := by decide
theorem mk45 : mk 51 8 = 3689348814741910323 := by decide
theorem mk15 : mk 15 8 = 1085102592571150095 := by decide
theorem sums {y0 y1 y2 y3 y4 y5 y6 y7 c0 c1 c2 c3 c4 c5 c6 c7 : Nat} (e0 : y0 = c0 + 256 * y1) (e1 : y1 = c1 + 256 * y2) (e2 : y2 = c2 + 256 * y3) (e3 : y3 = c3 + 256 * y4) (e4 : y4 = c4 + 256 * y5) (e5 : y5 = c5 + 256 * y6) (e6 : y6 = c6 + 256 * y7) (e7 : y7 = c7)
    (l0 : c0 ≤ 8) (l1 : c1 ≤ 8) (l2 : c2 ≤ 8) (l3 : c3 ≤ 8) (l4 : c4 ≤ 8) (l5 : c5 ≤ 8) (l6 : c6 ≤ 8) (l7 : c7 ≤ 8) :
    y0 < 649037107316853507 ∧ ((y0 + y0 / 256) + (y0 + y0 / 256) / 65536 + ((y0 + y0 / 256) + (y0 + y0 / 256) / 65536) / 4294967296) % 128 = c0 + c1 + c2 + c3 + c4 + c5 + c6 + c7 := by
  have k7 : y7 ≤ 8 := by omega
  have k6 : y6 ≤ 2056 := by omega
  have k5 : y5 ≤ 526344 := by omega
  have k4 : y4 ≤ 134744072 := by omega
  have k3 : y3 ≤ 34494482440 := by omega
  have k2 : y2 ≤ 8830587504648 := by omega
  have k1 : y1 ≤ 2260630401189896 := by omega
  have h1 : y0 / 256 = y1 := by omega
  rw [h1]
  have h2 : (y0 + y1) / 65536 = y2 + y3 := by
    clear e4 e5 e6 e7 k1 k2 k3 k4 k5 k6 k7 h1
    omega
  rw [h2]
  obtain ⟨a0, ha0⟩ : ∃ a, a = c0 + 256 * c1 + 65536 * c2 + 16777216 * c3 := ⟨_, rfl⟩
  obtain ⟨a1, ha1⟩ : ∃ a, a = c1 + 256 * c2 + 65536 * c3 + 16777216 * c4 := ⟨_, rfl⟩
  obtain ⟨a2, ha2⟩ : ∃ a, a = c2 + 256 * c3 + 65536 * c4 + 16777216 * c5 := ⟨_, rfl⟩
  obtain ⟨a3, ha3⟩ : ∃ a, a = c3 + 256 * c4 + 65536 * c5 + 16777216 * c6 := ⟨_, rfl⟩
  have b0 : y0 = a0 + 4294967296 * y4 := by omega
  have b1 : y1 = a1 + 4294967296 * y5 := by omega
  have b2 : y2 = a2 + 4294967296 * y6 := by omega
  have b3 : y3 = a3 + 4294967296 * y7 := by omega
  have m0 : a0 ≤ 134744072 := by omega
  have m1 : a1 ≤ 134744072 := by omega
  have m2 : a2 ≤ 134744072 := by omega
  have m3 : a3 ≤ 134744072 := by omega
  have h3 : (y0 + y1 + (y2 + y3)) / 4294967296 = y4 + y5 + y6 + y7 := by
    clear e0 e1 e2 e3 e4 e5 e6 e7 k1 k2 k3 k4 k5 k6 k7 h1 h2 ha0 ha1 ha2 ha3
    omega
  rw [h3]
  refine ⟨by omega, ?_⟩
  have h4 : (y0 + y1 + (y2 + y3) + (y4 + y5 + y6 + y7)) = c0 + c1 + c2 + c3 + c4 + c5 + c6 + c7 + 256 * (y1 + y2 + y3 + y4 + y5 + y6 + y7) := by
    clear k1 k2 k3 k4 k5 k6 k7 h1 h2 h3 ha0 ha1 ha2 ha3 b0 b1 b2 b3
    omega
  rw [h4]
  clear e0 e1 e2 e3 e4 e5 e6 e7 k1 k2 k3 k4 k5 k6 k7 h1 h2 h3 h4 ha0 ha1 ha2 ha3 b0 b1 b2 b3
  omega
/-- the count of ones of 64 bits: what Go's text reckons -/
theorem ones64 (x : Nat) : g 8 x < 649037107316853507 ∧ ((g 8 x + g 8 x / 256) + (g 8 x + g 8 x / 256) / 65536 + ((g 8 x + g 8 x / 256) + (g 8 x + g 8 x / 256) / 65536) / 4294967296) % 128 = bitsN x 64 := by
  have z : ∀ x, g 0 x = 0 := fun x => by simp [g, f3, mk]
  have e7 : g 1 (x / 256 / 256 / 256 / 256 / 256 / 256 / 256) = bitsN (x / 256 / 256 / 256 / 256 / 256 / 256 / 256) 8 := by rw [g_succ, z]; rfl
  have h := sums (g_succ x 7) (g_succ (x / 256) 6) (g_succ (x / 256 / 256) 5) (g_succ (x / 256 / 256 / 256) 4) (g_succ (x / 256 / 256 / 256 / 256) 3) (g_succ (x / 256 / 256 / 256 / 256 / 256) 2) (g_succ (x / 256 / 256 / 256 / 256 / 256 / 256) 1) e7
    (bitsN_le _ 8) (bitsN_le _ 8) (bitsN_le _ 8) (bitsN_le _ 8) (bitsN_le _ 8) (bitsN_le _ 8) (bitsN_le _ 8) (bitsN_le _ 8)
  refine ⟨h.1, h.2.trans ?_⟩
  have t0 := bitsN_add x 8 56
  have t1 := bitsN_add (x / 256) 8 48
  have t2 := bitsN_add (x / 256 / 256) 8 40
  have t3 := bitsN_add (x / 256 / 256 / 256) 8 32
  have t4 := bitsN_add (x / 256 / 256 / 256 / 256) 8 24
  have t5 := bitsN_add (x / 256 / 256 / 256 / 256 / 256) 8 16
  have t6 := bitsN_add (x / 256 / 256 / 256 / 256 / 256 / 256) 8 8
  rw [show (2 : Nat) ^ 8 = 256 from rfl] at t0 t1 t2 t3 t4 t5 t6
  simp only [Nat.reduceAdd] at t0 t1 t2 t3 t4 t5 t6
  rw [t0, t1, t2, t3, t4, t5, t6]
  simp only [Nat.add_assoc]
end Go.Proofs.Ytikkokolmipppaa.Ones

/- Counting a set's numbers, over the small heap: OnesCount64, Rank, Count. Own text of this session. -/
import Derived.Test.YtikkokolmipppaaSet
import Derived.Test.YtikkokolmipppaaOnes
set_option linter.unusedVariables false
set_option linter.unusedSimpArgs false
set_option maxRecDepth 4000
set_option maxHeartbeats 4000000
namespace Go.Proofs.Ytikkokolmipppaa.C
open Go Go.RowKit Go.Proofs.YtikkokolmipppaaA Go.Proofs.Ytikkokolmipppaa.Ones
variable {H : AH}
theorem andM (a m : Nat) (M : Int) (hM : M = (m : Int)) (ha : a < 18446744073709551616) (hm : m < 18446744073709551616) : bits .and .u64 (a : Int) M = ((a &&& m : Nat) : Int) := by
  subst hM; exact u64_and_nat a m ha hm
theorem shrC (x k : Nat) (K : Int) (hK : K = (k : Int)) (hk : k < 64) (ox oy : Operand) : aBin Try.prog .shr 28 ox oy (u64 (x : Int)) (.int .u64 K) = some (u64 ((x / 2 ^ k : Nat) : Int)) := by
  subst hK; exact shrW x k hk ox oy
theorem addU (a b c : Nat) (h : a + b = c) (hc : c < 18446744073709551616) : IntKind.u64.wrap ((a : Int) + (b : Int)) = (c : Int) := by
  rw [show (a : Int) + (b : Int) = (c : Int) by omega, wU hc]
theorem and127 (i : Nat) (h : i < 9000000000000000000) : bits .and .i64 (i : Int) 127 = ((i % 128 : Nat) : Int) := by
  show IntKind.i64.wrap ((BitVec.ofInt 64 (i : Int) &&& BitVec.ofInt 64 ((127 : Nat) : Int)).toNat : Int) = _
  rw [BitVec.toNat_and, BitVec.ofInt_natCast, BitVec.ofInt_natCast, BitVec.toNat_ofNat, BitVec.toNat_ofNat, Nat.mod_eq_of_lt (by omega), Nat.mod_eq_of_lt (by omega)]
  have : i &&& 127 = i % 128 := Nat.and_two_pow_sub_one_eq_mod i 7
  rw [this, w64 (by omega)]
theorem and_le (a m : Nat) : a &&& m ≤ m := Nat.and_le_right
/-- OnesCount64 -/
theorem ones_run {x : Nat} (hx : x < 18446744073709551616) : CallR cx 25 #[u64 (x : Int)] H (fun v H' => v = i64 ((bitsN x 64 : Nat) : Int) ∧ H' = H) := by
  refine wk25 (by simp) ?_
  obtain ⟨hy, hfin⟩ := ones64 x
  obtain ⟨a0, ha0⟩ : ∃ a, a = x / 2 ^ 1 := ⟨_, rfl⟩
  obtain ⟨a1, ha1⟩ : ∃ a, a = a0 &&& 6148914691236517205 := ⟨_, rfl⟩
  obtain ⟨a2, ha2⟩ : ∃ a, a = x &&& 6148914691236517205 := ⟨_, rfl⟩
  obtain ⟨x1, hx1⟩ : ∃ a, a = f1 8 x := ⟨_, rfl⟩
  have l1 : a1 ≤ 6148914691236517205 := by rw [ha1]; exact and_le _ _
  have l2 : a2 ≤ 6148914691236517205 := by rw [ha2]; exact and_le _ _
  have s1 : a1 + a2 = x1 := by rw [hx1, f1, mk85, Nat.shiftRight_eq_div_pow, ← ha0, ← ha1, ← ha2]
  have h4 := shrC x 1 1 rfl (by decide)
  rw [← ha0] at h4
  have h5 := andM a0 6148914691236517205 6148914691236517205 (by decide) (by have : a0 ≤ x := by rw [ha0]; exact Nat.div_le_self _ _
                                                                             omega) (by decide)
  rw [← ha1] at h5
  have h7 := andM x 6148914691236517205 6148914691236517205 (by decide) hx (by decide)
  rw [← ha2] at h7
  have h8 := addU a1 a2 x1 s1 (by omega)
  obtain ⟨b0, hb0⟩ : ∃ a, a = x1 / 2 ^ 2 := ⟨_, rfl⟩
  obtain ⟨b1, hb1⟩ : ∃ a, a = b0 &&& 3689348814741910323 := ⟨_, rfl⟩
  obtain ⟨b2, hb2⟩ : ∃ a, a = x1 &&& 3689348814741910323 := ⟨_, rfl⟩
  obtain ⟨x2, hx2⟩ : ∃ a, a = f2 8 x1 := ⟨_, rfl⟩
  have m1 : b1 ≤ 3689348814741910323 := by rw [hb1]; exact and_le _ _
  have m2 : b2 ≤ 3689348814741910323 := by rw [hb2]; exact and_le _ _
  have s2 : b1 + b2 = x2 := by rw [hx2, f2, mk45, Nat.shiftRight_eq_div_pow, ← hb0, ← hb1, ← hb2]
  have h10 := shrC x1 2 2 rfl (by decide)
  rw [← hb0] at h10
  have h11 := andM b0 3689348814741910323 3689348814741910323 (by decide) (by have : b0 ≤ x1 := by rw [hb0]; exact Nat.div_le_self _ _
                                                                              omega) (by decide)
  rw [← hb1] at h11
  have h13 := andM x1 3689348814741910323 3689348814741910323 (by decide) (by omega) (by decide)
  rw [← hb2] at h13
  have h14 := addU b1 b2 x2 s2 (by omega)
  obtain ⟨d0, hd0⟩ : ∃ a, a = x2 / 2 ^ 4 := ⟨_, rfl⟩
  obtain ⟨d1, hd1⟩ : ∃ a, a = d0 + x2 := ⟨_, rfl⟩
  obtain ⟨y, hyd⟩ : ∃ a, a = g 8 x := ⟨_, rfl⟩
  have s3 : d1 &&& 1085102592571150095 = y := by rw [hyd, g, ← hx1, ← hx2, f3, mk15, Nat.shiftRight_eq_div_pow, ← hd0, ← hd1]
  have h16 := shrC x2 4 4 rfl (by decide)
  rw [← hd0] at h16
  have hd0' : d0 ≤ x2 / 16 := by rw [hd0]; exact Nat.le_refl _
  have h18 := addU d0 x2 d1 hd1.symm (by omega)
  have h19 := andM d1 1085102592571150095 1085102592571150095 (by decide) (by omega) (by decide)
  rw [s3] at h19
  rw [← hyd] at hy hfin
  obtain ⟨e0, he0⟩ : ∃ a, a = y / 256 := ⟨_, rfl⟩
  obtain ⟨y1, hy1⟩ : ∃ a, a = y + e0 := ⟨_, rfl⟩
  obtain ⟨e1, he1⟩ : ∃ a, a = y1 / 65536 := ⟨_, rfl⟩
  obtain ⟨y2, hy2⟩ : ∃ a, a = y1 + e1 := ⟨_, rfl⟩
  obtain ⟨e2, he2⟩ : ∃ a, a = y2 / 4294967296 := ⟨_, rfl⟩
  obtain ⟨y3, hy3⟩ : ∃ a, a = y2 + e2 := ⟨_, rfl⟩
  rw [← he0, ← hy1, ← he1, ← hy2, ← he2, ← hy3] at hfin
  have h22 := shrC y 8 8 rfl (by decide)
  rw [show y / 2 ^ 8 = e0 by rw [he0]] at h22
  have h23 := addU y e0 y1 hy1.symm (by omega)
  have h26 := shrC y1 16 16 rfl (by decide)
  rw [show y1 / 2 ^ 16 = e1 by rw [he1]] at h26
  have h27 := addU y1 e1 y2 hy2.symm (by omega)
  have h30 := shrC y2 32 32 rfl (by decide)
  rw [show y2 / 2 ^ 32 = e2 by rw [he2]] at h30
  have h31 := addU y2 e2 y3 hy3.symm (by omega)
  have h33 := w64 (n := (y3 : Int)) (by omega)
  have h34 := and127 y3 (by omega)
  rw [hfin] at h34
  clear ha0 ha1 ha2 hx1 hb0 hb1 hb2 hx2 hd0 hd1 hyd he0 hy1 he1 hy2 he2 hy3 hfin s1 s2 s3
  generalize bitsN x 64 = r at h34
  simp only [u64] at h4 h10 h16 h22 h26 h30
  simp [c25, h4, h5, h7, h8, h10, h11, h13, h14, h16, h18, h19, h22, h23, h26, h27, h30, h31, h33, h34]
/-- how many of a set's numbers are below a number -/
def below (ws : List Nat) : Nat → Nat
  | 0 => 0
  | k + 1 => below ws k + (if bitAt ws k then 1 else 0)
theorem below_le (ws : List Nat) : ∀ k, below ws k ≤ k
  | 0 => Nat.le_refl 0
  | k + 1 => by have := below_le ws k; rw [below]; split <;> omega
theorem below_add (ws : List Nat) (q : Nat) : ∀ r, r ≤ 64 → below ws (64 * q + r) = below ws (64 * q) + bitsN (ws.getD q 0) r
  | 0, _ => rfl
  | r + 1, h => by
    rw [← Nat.add_assoc, below, below_add ws q r (by omega), bitsN]
    have e1 : (64 * q + r) / 64 = q := by omega
    have e2 : (64 * q + r) % 64 = r := by omega
    rw [bitAt, e1, e2]
    omega
theorem bitsN_zero : ∀ k, bitsN 0 k = 0
  | 0 => rfl
  | k + 1 => by rw [bitsN, bitsN_zero k]; simp
theorem bitsN_part (x r : Nat) (h : r ≤ 64) : bitsN (x % 2 ^ r) 64 = bitsN x r := by
  have h1 := bitsN_add (x % 2 ^ r) r (64 - r)
  rw [show r + (64 - r) = 64 by omega] at h1
  have hp : 0 < 2 ^ r := Nat.two_pow_pos r
  rw [h1, bitsN_mod x (Nat.le_refl r), Nat.div_eq_of_lt (Nat.mod_lt _ hp), bitsN_zero, Nat.add_zero]
/-- Rank -/
theorem rank_run {S W w : Nat} {ws : List Nat} (h : IsSet H S W w ws) {i : Int} {c : Nat} (hc : max 0 (min i (w : Int)) = (c : Int)) : CallR cx 19 #[ptr S, i64 i] H (fun v H' => v = i64 ((below ws c : Nat) : Int) ∧ H' = H) := by
  refine wk19 (by simp) ?_
  have hwd := h.wide
  have hlen := h.len
  have hcw : c ≤ w := by omega
  have hS := h.hS
  have hW := h.hW
  obtain ⟨q, hq⟩ : ∃ q, q = c / 64 := ⟨_, rfl⟩
  obtain ⟨r, hr⟩ : ∃ r, r = c % 64 := ⟨_, rfl⟩
  have hcq : c = 64 * q + r := by omega
  have hsh : ∀ ox oy, aBin Try.prog .shr 3 ox oy (i64 (c : Int)) (.int .u64 6) = some (i64 (q : Int)) := fun ox oy => by rw [hq]; exact shr6 c ox oy
  unfold c19
  refine aw_cut (fun t => t.env 0 = ptr S ∧ t.env 1 = i64 i ∧ t.ds = [] ∧ t.H = H) (by simp) ?_
  rintro ⟨env, H', ds⟩ ⟨e0, e1, eds, hH⟩
  simp only at e0 e1 eds hH
  subst hH
  refine aw_cut (fun t => t.env 0 = ptr S ∧ t.env 1 = i64 c ∧ t.ds = [] ∧ t.H = H') ?_ ?_
  · simp [e0, e1]
    refine callV_R cb24 (width_run h) ?_
    rintro _ H1 ⟨rfl, hH⟩
    subst hH
    simp [e0, e1, hc, eds]
  clear e0 e1 eds
  rintro ⟨env, H, ds⟩ ⟨e0, e1, eds, hH⟩
  simp only at e0 e1 eds hH
  subst hH
  refine aw_cut (fun t => t.env 0 = ptr S ∧ t.env 1 = i64 c ∧ t.env 5 = i64 0 ∧ t.ds = [] ∧ t.H = H) (by simp [e0, e1, eds]) ?_
  clear e0 e1 eds
  rintro ⟨env, H1, ds⟩ ⟨e0, e1, e5, eds, hH⟩
  simp only at e0 e1 e5 eds hH
  subst hH
  refine aw_cut (fun t => t.env 0 = ptr S ∧ t.env 1 = i64 c ∧ t.env 5 = i64 ((below ws (64 * q) : Nat) : Int) ∧ t.ds = [] ∧ t.H = H1) ?_ ?_
  · simp
    refine aw_loop_to q (fun k t => t.env 0 = ptr S ∧ t.env 1 = i64 c ∧ t.env 5 = i64 ((below ws (64 * k) : Nat) : Int) ∧ t.env 6 = i64 (k : Nat) ∧ t.ds = [] ∧ t.H = H1) ?_ ?_ ?_
    · clear e0 e1 e5 eds
      rintro k ⟨env, H2, ds⟩ hk ⟨e0, e1, e5, e6, eds, hH⟩
      simp only at e0 e1 e5 e6 eds hH
      subst hH
      have hkq : (k : Int) < q := by omega
      have hkl : k < ws.length := by omega
      have hx := wcell hkl
      have hsm : ws.getD k 0 < 18446744073709551616 := by
        rw [List.getD_eq_getElem?_getD, List.getElem?_eq_getElem hkl]; exact h.small _ (List.getElem_mem _)
      have hbl := below_le ws (64 * k)
      have hba := below_add ws k 64 (Nat.le_refl _)
      rw [show 64 * k + 64 = 64 * (k + 1) by omega] at hba
      have hix := ix22 W 0 ws.length ws.length .i64 (k : Int) (by omega) (by omega)
      rw [Int.toNat_natCast] at hix
      obtain ⟨x, hxx⟩ : ∃ x, x = ws.getD k 0 := ⟨_, rfl⟩
      rw [← hxx] at hx hsm hba
      have hbx := bitsN_le x 64
      have hon := ones_run (H := H2) hsm
      generalize bitsN x 64 = y at hba hbx hon
      generalize hB : below ws (64 * k) = B at e5 hba hbl
      generalize hB1 : below ws (64 * (k + 1)) = B1 at hba
      have hw := w64 (n := (k : Int) + 1) (by omega)
      have hw2 : IntKind.i64.wrap ((B : Int) + (y : Int)) = (B1 : Int) := by rw [w64 (by omega)]; omega
      simp [e0, e1, e5, e6, hsh, hk, hkq, hS, hix, hW, hx]
      refine callV_R cb25 hon ?_
      rintro _ H3 ⟨rfl, hH⟩
      subst hH
      simp [e0, e1, e5, e6, hw, hw2, hB1, eds]
    · clear e0 e1 e5 eds
      rintro ⟨env, H2, ds⟩ ⟨e0, e1, e5, e6, eds, hH⟩
      simp only at e0 e1 e5 e6 eds hH
      simp [e0, e1, e5, e6, hsh, eds, hH]
    · simp [e0, e1, e5, eds, below]
  clear e0 e1 e5 eds
  rintro ⟨env, H2, ds⟩ ⟨e0, e1, e5, eds, hH⟩
  simp only at e0 e1 e5 eds hH
  subst hH
  have hm : bits .and .i64 (c : Int) 63 = (r : Int) := by rw [hr]; exact and63 c (by omega)
  have hcv := wU (n := r) (by omega)
  have hfin := below_add ws q r (by omega)
  rw [← hcq] at hfin
  by_cases h0 : r = 0
  · rw [h0] at hfin
    have e : below ws c = below ws (64 * q) := by rw [hfin]; rfl
    rw [e]
    generalize below ws (64 * q) = B at e5
    have hz : IntKind.u64.wrap 0 = 0 := by decide
    simp [e0, e1, e5, hm, hcv, h0, hz, eds]
  · have hr0 : 0 < r := by omega
    have hr0I : (0 : Int) < r := by omega
    have hql : q < ws.length := by omega
    have hx := wcell hql
    have hsm : ws.getD q 0 < 18446744073709551616 := by
      rw [List.getD_eq_getElem?_getD, List.getElem?_eq_getElem hql]; exact h.small _ (List.getElem_mem _)
    have hbl := below_le ws (64 * q)
    have hix := ix22 W 0 ws.length ws.length .i64 (q : Int) (by omega) (by omega)
    rw [Int.toNat_natCast] at hix
    obtain ⟨x, hxx⟩ : ∃ x, x = ws.getD q 0 := ⟨_, rfl⟩
    rw [← hxx] at hx hsm hfin
    have hbx := bitsN_le x r
    have hsl := shlW r (by omega)
    have hp : 2 ^ r < 18446744073709551616 := Nat.lt_of_lt_of_le (Nat.pow_lt_pow_right (by decide) (by omega : r < 64)) (by decide)
    have hp0 : 0 < 2 ^ r := Nat.two_pow_pos r
    have hpart := bitsN_part x r (by omega)
    have hand : x &&& (2 ^ r - 1) = x % 2 ^ r := Nat.and_two_pow_sub_one_eq_mod x r
    have hml : x % 2 ^ r < 18446744073709551616 := Nat.lt_of_le_of_lt (Nat.mod_le _ _) hsm
    obtain ⟨p, hpp⟩ : ∃ p, p = 2 ^ r := ⟨_, rfl⟩
    rw [← hpp] at hsl hp hp0 hand hpart hml
    obtain ⟨p1, hp1⟩ : ∃ p1, p1 = p - 1 := ⟨_, rfl⟩
    rw [← hp1] at hand
    have hw1 : IntKind.u64.wrap ((p : Int) - 1) = (p1 : Int) := by rw [show (p : Int) - 1 = (p1 : Int) by omega, wU (by omega)]
    have ha := u64_and_nat x p1 hsm (by omega)
    rw [hand] at ha
    have hon := ones_run (H := H2) hml
    rw [hpart] at hon
    obtain ⟨z, hz⟩ : ∃ z, z = x % p := ⟨_, rfl⟩
    rw [← hz] at ha hon
    clear hpart hand hml hpp hz
    generalize bitsN x r = y at hfin hbx hon
    generalize below ws (64 * q) = B at e5 hfin hbl
    generalize below ws c = B1 at hfin
    have hw2 : IntKind.i64.wrap ((B : Int) + (y : Int)) = (B1 : Int) := by rw [w64 (by omega)]; omega
    simp [e0, e1, e5, hsh, hm, hcv, hr0, hr0I, hS, hix, hW, hx, hsl, hw1, ha]
    refine callV_R cb25 hon ?_
    rintro _ H3 ⟨rfl, hH⟩
    subst hH
    simp [e0, e1, e5, hw2, eds]
end Go.Proofs.Ytikkokolmipppaa.C

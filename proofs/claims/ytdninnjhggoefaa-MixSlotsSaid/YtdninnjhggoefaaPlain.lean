/- The plain law of the layer mix: stirring by shifts and products is undone, slots and bytes are as the reference says; numbers of 64 bits throughout. -/
import Derived.Test.YtdninnjhggoefaaOwn
namespace Go.Proofs.Ytdninnjhggoefaa.Plain
open Go.RowKit Go.Proofs.Ytdninnjhggoefaa.Own Go.Proofs.YtdninnjhggoefaaW.PrintWords Go.Proofs.YtdninnjhggoefaaW.PrintLast Go.Proofs.YtdninnjhggoefaaW.PrintMore

abbrev V := BitVec 64
/-- a word's number -/
def I (v : V) : Int := (v.toNat : Int)

theorem wrap_eq (n : Int) : IntKind.u64.wrap n = n % 18446744073709551616 := by simp [IntKind.wrap, IntKind.bits, IntKind.signed]
theorem I_lt (v : V) : 0 ≤ I v ∧ I v < 18446744073709551616 := by
  unfold I
  have := v.isLt
  omega
theorem wrap_I (v : V) : IntKind.u64.wrap (I v) = I v := by
  rw [wrap_eq]
  have := I_lt v
  omega
theorem I_of (a : Int) (h : (Lit.int .u64 a).wf = true) : ∃ v : V, a = I v := by
  simp [Lit.wf, IntKind.min, IntKind.max, IntKind.signed, IntKind.bits] at h
  refine ⟨BitVec.ofNat 64 a.toNat, ?_⟩
  unfold I
  rw [BitVec.toNat_ofNat, Nat.mod_eq_of_lt (by omega)]
  omega
theorem I_inj {u v : V} (h : I u = I v) : u = v := by
  unfold I at h
  exact BitVec.eq_of_toNat_eq (by omega)
theorem I_eq (u v : V) : (I u = I v) ↔ u = v := ⟨I_inj, fun h => by rw [h]⟩

theorem wrap_mul (v : V) (c : Nat) : IntKind.u64.wrap (I v * (c : Int)) = I (v * BitVec.ofNat 64 c) := by
  rw [wrap_eq]
  unfold I
  rw [BitVec.toNat_mul, BitVec.toNat_ofNat, Nat.mul_mod_mod]
  omega
theorem wrap_mul' (v d : V) (c : Int) (h : c = I d) : IntKind.u64.wrap (I v * c) = I (v * d) := by
  subst h
  have := wrap_mul v d.toNat
  rw [BitVec.ofNat_toNat, BitVec.setWidth_eq] at this
  exact this
theorem wrap_add (v : V) (c : Nat) : IntKind.u64.wrap (I v + (c : Int)) = I (v + BitVec.ofNat 64 c) := by
  rw [wrap_eq]
  unfold I
  rw [BitVec.toNat_add, BitVec.toNat_ofNat, Nat.add_mod_mod]
  omega
theorem shr_I (v : V) (n : Nat) (hn : n ≤ 64) : shr .u64 (I v) (n : Int) = I (v >>> n) := by
  unfold shr I
  rw [BitVec.toNat_ushiftRight, Nat.shiftRight_eq_div_pow]
  simp only [IntKind.bits, Int.toNat_natCast, Nat.min_eq_left hn]
  rw [Int.natCast_ediv, Int.natCast_pow]; rfl
theorem xor_I (u v : V) : Go.bits .xor .u64 (I u) (I v) = I (u ^^^ v) := by
  unfold Go.bits I
  simp only [IntKind.bits, BitVec.ofInt_natCast, BitVec.ofNat_toNat, BitVec.setWidth_eq]
  exact wrap_I _
theorem or_I (u v : V) : Go.bits .or .u64 (I u) (I v) = I (u ||| v) := by
  unfold Go.bits I
  simp only [IntKind.bits, BitVec.ofInt_natCast, BitVec.ofNat_toNat, BitVec.setWidth_eq]
  exact wrap_I _
theorem and_I (u v : V) : Go.bits .and .u64 (I u) (I v) = I (u &&& v) := by
  unfold Go.bits I
  simp only [IntKind.bits, BitVec.ofInt_natCast, BitVec.ofNat_toNat, BitVec.setWidth_eq]
  exact wrap_I _

/-- one shift mixed in -/
def sh (v : V) (n : Nat) : V := v ^^^ (v >>> n)
theorem shift_f (v : V) (n : Nat) (hn : n ≤ 64) : mix_shift.f (I v) (n : Int) = some (I (sh v n)) := by
  unfold mix_shift.f
  rw [if_pos (by omega), shr_I v n hn, xor_I]; rfl

theorem or_sub_and (u v : V) : (u ||| v) - (u &&& v) = u ^^^ v := by
  have h : (u ^^^ v) &&& (u &&& v) = 0#64 := by
    apply BitVec.eq_of_getLsbD_eq
    intro i hi
    simp only [BitVec.getLsbD_and, BitVec.getLsbD_xor, BitVec.getLsbD_zero]
    cases u.getLsbD i <;> cases v.getLsbD i <;> rfl
  have h2 : (u ^^^ v) ||| (u &&& v) = u ||| v := by
    apply BitVec.eq_of_getLsbD_eq
    intro i hi
    simp only [BitVec.getLsbD_and, BitVec.getLsbD_xor, BitVec.getLsbD_or]
    cases u.getLsbD i <;> cases v.getLsbD i <;> rfl
  have h3 : (u ^^^ v) + (u &&& v) = u ||| v := by
    rw [BitVec.add_eq_or_of_and_eq_zero _ _ h, h2]
  rw [← h3, BitVec.add_sub_cancel]

theorem div_I (v : V) (n : Nat) : IntKind.u64.wrap (Int.tdiv (I v) ((2 ^ n : Nat) : Int)) = I (v >>> n) := by
  have h : Int.tdiv (I v) ((2 ^ n : Nat) : Int) = I (v >>> n) := by
    unfold I
    rw [BitVec.toNat_ushiftRight, Nat.shiftRight_eq_div_pow]
    rfl
  rw [h, wrap_I]
theorem sub_I (u v : V) : IntKind.u64.wrap (I u - I v) = I (u - v) := by
  rw [wrap_eq]
  unfold I
  rw [BitVec.toNat_sub]
  have := u.isLt
  have := v.isLt
  omega
theorem half_f (v : V) (n : Nat) (hn : ((2 ^ n : Nat) : Int) ≠ 0) : hutchref01_half.f (I v) ((2 ^ n : Nat) : Int) = some (I (sh v n)) := by
  unfold hutchref01_half.f
  rw [if_neg hn, div_I, or_I, and_I, sub_I, or_sub_and]; rfl

/-! stirring and its undoing -/
def c1 : V := BitVec.ofNat 64 13787848793156543929
def c2 : V := BitVec.ofNat 64 10723151780598845931
def b1 : V := BitVec.ofNat 64 10871156337175269513
def b2 : V := BitVec.ofNat 64 3573116690164977347
def mixV (v : V) : V := sh (sh (sh v 30 * c1) 27 * c2) 31
theorem s30 (v : V) : mix_shift.f (I v) 30 = some (I (sh v 30)) := shift_f v 30 (by decide)
theorem s27 (v : V) : mix_shift.f (I v) 27 = some (I (sh v 27)) := shift_f v 27 (by decide)
theorem s31 (v : V) : mix_shift.f (I v) 31 = some (I (sh v 31)) := shift_f v 31 (by decide)
theorem h30 (v : V) : hutchref01_half.f (I v) 1073741824 = some (I (sh v 30)) := half_f v 30 (by decide)
theorem h27 (v : V) : hutchref01_half.f (I v) 134217728 = some (I (sh v 27)) := half_f v 27 (by decide)
theorem h31 (v : V) : hutchref01_half.f (I v) 2147483648 = some (I (sh v 31)) := half_f v 31 (by decide)
theorem m1 (v : V) : IntKind.u64.wrap (I v * 13787848793156543929) = I (v * c1) := wrap_mul' v c1 _ (by decide +kernel)
theorem m2 (v : V) : IntKind.u64.wrap (I v * 10723151780598845931) = I (v * c2) := wrap_mul' v c2 _ (by decide +kernel)
theorem n1 (v : V) : IntKind.u64.wrap (I v * 10871156337175269513) = I (v * b1) := wrap_mul' v b1 _ (by decide +kernel)
theorem n2 (v : V) : IntKind.u64.wrap (I v * 3573116690164977347) = I (v * b2) := wrap_mul' v b2 _ (by decide +kernel)
theorem mix_f (v : V) : mix_Mix.f (I v) = some (I (mixV v)) := by
  unfold mix_Mix.f mixV
  rw [s30, Option.bind_some, m1, s27, Option.bind_some, m2, s31, Option.bind_some]
theorem rmix_f (v : V) : hutchref01_Mix.f (I v) = some (I (mixV v)) := by
  unfold hutchref01_Mix.f mixV
  rw [h30, Option.bind_some, m1, h27, Option.bind_some, m2, h31, Option.bind_some]

theorem shr_shr (v : V) (a b : Nat) : (v >>> a) >>> b = v >>> (a + b) := (BitVec.shiftRight_add v a b).symm
theorem shr_xor (u v : V) (n : Nat) : (u ^^^ v) >>> n = (u >>> n) ^^^ (v >>> n) := BitVec.ushiftRight_xor_distrib u v n
theorem shr_big (v : V) (n : Nat) (h : 64 ≤ n) : v >>> n = 0#64 := by
  apply BitVec.eq_of_toNat_eq
  rw [BitVec.toNat_ushiftRight, Nat.shiftRight_eq_div_pow]
  have := v.isLt
  have h2 : 2 ^ 64 ≤ 2 ^ n := Nat.pow_le_pow_right (by decide) h
  simp only [BitVec.toNat_ofNat, Nat.zero_mod]
  exact Nat.div_eq_of_lt (by omega)
/-- what undoes a shift of at least 22 bits, by rounds -/
def un (v : V) (n : Nat) : V := v ^^^ (v >>> n) ^^^ (v >>> (2 * n))
theorem un_sh (v : V) (n : Nat) (h : 22 ≤ n) : un (sh v n) n = v := by
  unfold un sh
  simp only [shr_xor, shr_shr]
  rw [shr_big v (n + 2 * n) (by omega), show n + n = 2 * n by omega]
  apply BitVec.eq_of_getLsbD_eq
  intro i hi
  simp only [BitVec.getLsbD_xor, BitVec.getLsbD_zero]
  cases v.getLsbD i <;> cases (v >>> n).getLsbD i <;> cases (v >>> (2 * n)).getLsbD i <;> rfl
theorem sh_un (v : V) (n : Nat) (h : 22 ≤ n) : sh (un v n) n = v := by
  unfold un sh
  simp only [shr_xor, shr_shr]
  rw [shr_big v (2 * n + n) (by omega), show n + n = 2 * n by omega]
  apply BitVec.eq_of_getLsbD_eq
  intro i hi
  simp only [BitVec.getLsbD_xor, BitVec.getLsbD_zero]
  cases v.getLsbD i <;> cases (v >>> n).getLsbD i <;> cases (v >>> (2 * n)).getLsbD i <;> rfl

/-- one round of the undoing -/
theorem unshift_step (k : Nat) (v y : V) (n d : Nat) (hn : n ≤ 64) (hd : d < 64) (hs : n + d < 1000) :
    mix_unshift.l0 (k + 1) (I v) (n : Int) (I y) (d : Int) = mix_unshift.l0 k (I v) (n : Int) (I (v ^^^ (y >>> n))) ((d + n : Nat) : Int) := by
  simp only [mix_unshift.l0]
  rw [if_pos (by omega), if_pos (by omega), shr_I y n hn, xor_I, wrap_eq, Int.emod_eq_of_lt (by omega) (by omega)]
  congr 1
theorem unshift_end (k : Nat) (v y : V) (n d : Nat) (hd : 64 ≤ d) : mix_unshift.l0 (k + 1) (I v) (n : Int) (I y) (d : Int) = some (I y) := by
  simp only [mix_unshift.l0]
  rw [if_neg (by omega)]
theorem two_is (v : V) (n : Nat) : v ^^^ ((v ^^^ (v >>> n)) >>> n) = un v n := by
  unfold un
  rw [shr_xor, shr_shr, show n + n = 2 * n by omega, BitVec.xor_assoc]
theorem unshift_f (k : Nat) (v : V) (n : Nat) (h : n = 31 ∨ n = 27 ∨ n = 30) : mix_unshift.f (k + 4) (I v) (n : Int) = some (I (un v n)) := by
  unfold mix_unshift.f
  rw [unshift_step (k + 3) v v n n (by omega) (by omega) (by omega), unshift_step (k + 2) v _ n (n + n) (by omega) (by omega) (by omega), two_is]
  exact unshift_end _ _ _ _ _ (by omega)

def backV (v : V) : V := un (un (un v 31 * b2) 27 * b1) 30
theorem u31 (k : Nat) (v : V) : mix_unshift.f (k + 4) (I v) 31 = some (I (un v 31)) := unshift_f k v 31 (by omega)
theorem u27 (k : Nat) (v : V) : mix_unshift.f (k + 4) (I v) 27 = some (I (un v 27)) := unshift_f k v 27 (by omega)
theorem u30 (k : Nat) (v : V) : mix_unshift.f (k + 4) (I v) 30 = some (I (un v 30)) := unshift_f k v 30 (by omega)
theorem back_f (k : Nat) (v : V) : mix_Back.f (k + 4) (I v) = some (I (backV v)) := by
  unfold mix_Back.f backV
  rw [u31, Option.bind_some, n2, u27, Option.bind_some, n1, u30, Option.bind_some]
theorem c1b1 : c1 * b1 = 1#64 := by decide +kernel
theorem c2b2 : c2 * b2 = 1#64 := by decide +kernel
theorem back_mix (v : V) : backV (mixV v) = v := by
  unfold backV mixV
  rw [un_sh _ 31 (by decide), BitVec.mul_assoc, c2b2, BitVec.mul_one, un_sh _ 27 (by decide), BitVec.mul_assoc, c1b1, BitVec.mul_one, un_sh _ 30 (by decide)]
theorem mix_back (v : V) : mixV (backV v) = v := by
  unfold backV mixV
  rw [sh_un _ 30 (by decide), BitVec.mul_assoc, BitVec.mul_comm b1 c1, c1b1, BitVec.mul_one, sh_un _ 27 (by decide), BitVec.mul_assoc, BitVec.mul_comm b2 c2, c2b2, BitVec.mul_one, sh_un _ 31 (by decide)]
theorem mix_inj {u v : V} (h : mixV u = mixV v) : u = v := by rw [← back_mix u, h, back_mix]

/-! the document's examples -/
theorem I7 : I 7#64 = 7 := by decide +kernel
theorem I0 : I 0#64 = 0 := by decide +kernel
theorem mix0 : mix_Mix.f 0 = some 0 := by
  rw [← I0, mix_f, show mixV 0#64 = 0#64 by decide +kernel]
theorem mix7 : mix_Mix.f 7 = some (I (mixV 7#64)) := by rw [← I7, mix_f]
theorem mix7_ne : ¬ I (mixV 7#64) = 7 := by decide +kernel
theorem slot7 : mix_Slot.f 7 0 = some 0 := by
  unfold mix_Slot.f
  rw [if_pos (by decide)]
theorem bytes0 (k : Nat) : mix_Bytes.f (k + 4) [] = some 11400714819323198485 := by
  unfold mix_Bytes.f mix_Bytes.l0
  rw [if_neg (by decide)]
theorem alive_f (k : Nat) : hutchlaw01_alive.f (k + 4) = some true := by
  have hb : mix_Back.f (k + 4) (I (mixV 7#64)) = some 7 := by rw [back_f, back_mix, I7]
  unfold hutchlaw01_alive.f
  rw [mix0, Option.bind_some, if_pos rfl, mix7, Option.bind_some, hb, Option.bind_some, if_pos rfl, Option.bind_some, if_neg mix7_ne, slot7, Option.bind_some, if_pos rfl, bytes0, Option.bind_some, beq_self_eq_true]

theorem MixStirs : hutchlaw01_MixStirs.Pure := by
  intro a ha
  obtain ⟨v, rfl⟩ := I_of a ha
  refine ⟨4, ?_⟩
  unfold hutchlaw01_MixStirs.f
  rw [mix_f, rmix_f, Option.bind_some, Option.bind_some, if_pos rfl, alive_f 0, Option.bind_some]

theorem MixBack : hutchlaw01_MixBack.Pure := by
  intro a b ha hb
  obtain ⟨u, rfl⟩ := I_of a ha
  obtain ⟨v, rfl⟩ := I_of b hb
  refine ⟨4, ?_⟩
  have e : ((I (mixV u) == I (mixV v)) == (I u == I v)) = true := by
    by_cases h : u = v
    · subst h; rw [beq_self_eq_true, beq_self_eq_true]; rfl
    · have h1 : ¬ I (mixV u) = I (mixV v) := fun e => h (mix_inj (I_inj e))
      have h2 : ¬ I u = I v := fun e => h (I_inj e)
      rw [beq_eq_false_iff_ne.mpr h1, beq_eq_false_iff_ne.mpr h2]; rfl
  unfold hutchlaw01_MixBack.f
  rw [mix_f, Option.bind_some, back_f 0, back_mix, Option.bind_some, if_pos rfl, back_f 0, Option.bind_some, mix_f, mix_back, Option.bind_some, if_pos rfl, Option.bind_some, mix_f, Option.bind_some, if_pos e, alive_f 0, Option.bind_some]

/-! slots -/
theorem wrap64_small (n : Int) (h0 : 0 ≤ n) (h : n < 9223372036854775808) : wrap64 n = n := by unfold wrap64; omega
theorem slot_f (v : V) (b : Nat) (h1 : 1 ≤ b) (h2 : b ≤ 30) : mix_Slot.f (I v) (b : Int) = some (I (mixV v >>> (64 - b))) := by
  unfold mix_Slot.f
  rw [if_neg (by omega), if_neg (by omega), mix_f, Option.bind_some]
  have e : IntKind.u64.wrap (wrap64 (64 - (b : Int))) = ((64 - b : Nat) : Int) := by
    rw [wrap64_small _ (by omega) (by omega), wrap_eq]
    omega
  rw [e, if_pos (by omega), shr_I _ _ (by omega), wrap64_small _ (I_lt _).1 ?_]
  have : I (mixV v >>> (64 - b)) < 2 ^ 30 := by
    unfold I
    rw [BitVec.toNat_ushiftRight, Nat.shiftRight_eq_div_pow]
    have hv := (mixV v).isLt
    have hb : (mixV v).toNat / 2 ^ (64 - b) < 2 ^ b := by
      rw [Nat.div_lt_iff_lt_mul (Nat.two_pow_pos _), ← Nat.pow_add, show b + (64 - b) = 64 by omega]
      exact hv
    have hb2 : 2 ^ b ≤ 2 ^ 30 := Nat.pow_le_pow_right (by decide) h2
    have : (mixV v).toNat / 2 ^ (64 - b) < 2 ^ 30 := Nat.lt_of_lt_of_le hb hb2
    exact_mod_cast this
  omega
theorem slot_lt (v : V) (b : Nat) (h2 : b ≤ 30) : I (mixV v >>> (64 - b)) < ((2 ^ b : Nat) : Int) := by
  unfold I
  rw [BitVec.toNat_ushiftRight, Nat.shiftRight_eq_div_pow]
  have hv := (mixV v).isLt
  have hb : (mixV v).toNat / 2 ^ (64 - b) < 2 ^ b := by
    rw [Nat.div_lt_iff_lt_mul (Nat.two_pow_pos _), ← Nat.pow_add, show b + (64 - b) = 64 by omega]
    exact hv
  exact_mod_cast hb
theorem rslot_l0 (d : Nat) : ∀ (k : Nat) (v : V) (i : Nat), i ≤ 64 → 64 - i = d → d < k → I (v >>> d) < 9223372036854775808 → hutchref01_Slot.l0 k (I v) (i : Int) = some (I (v >>> d)) := by
  induction d with
  | zero =>
    intro k v i hi hd hk hb
    obtain ⟨k, rfl⟩ : ∃ m, k = m + 1 := ⟨k - 1, by omega⟩
    simp only [hutchref01_Slot.l0]
    rw [if_neg (by omega)]
    have e : v >>> 0 = v := by simp
    rw [e] at hb ⊢
    rw [wrap64_small _ (I_lt _).1 hb]
  | succ d ih =>
    intro k v i hi hd hk hb
    obtain ⟨k, rfl⟩ : ∃ m, k = m + 1 := ⟨k - 1, by omega⟩
    simp only [hutchref01_Slot.l0]
    rw [if_pos (by omega), show (2 : Int) = ((2 ^ 1 : Nat) : Int) from rfl, div_I, wrap64_small _ (by omega) (by omega)]
    have e : (v >>> 1) >>> d = v >>> (d + 1) := by rw [shr_shr, Nat.add_comm]
    have := ih k (v >>> 1) (i + 1) (by omega) (by omega) (by omega) (by rw [e]; exact hb)
    rw [e] at this
    exact this
theorem rslot_f (k : Nat) (v : V) (b : Nat) (h1 : 1 ≤ b) (h2 : b ≤ 30) : hutchref01_Slot.f (k + 100) (I v) (b : Int) = some (I (mixV v >>> (64 - b))) := by
  unfold hutchref01_Slot.f
  rw [if_neg (by omega), decide_eq_false (by omega : ¬ (b : Int) > 30)]
  simp only [hutchref01_Slot.j0]
  rw [if_neg (by decide), rmix_f, Option.bind_some]
  have hl := slot_lt v b h2
  have : ((2 ^ b : Nat) : Int) ≤ 2 ^ 30 := by exact_mod_cast Nat.pow_le_pow_right (by decide) h2
  exact rslot_l0 (64 - b) _ _ b (by omega) rfl (by omega) (by omega)


theorem slot_out (v : Int) (b : Int) (h : b < 1 ∨ 30 < b) : mix_Slot.f v b = some 0 := by
  unfold mix_Slot.f
  by_cases h1 : b < 1
  · rw [if_pos h1]
  · rw [if_neg h1, if_pos (by omega)]
theorem shl_one (b : Nat) (h2 : b ≤ 30) : shl .i64 1 (b : Int) = ((2 ^ b : Nat) : Int) := by
  unfold shl
  have hm : min (b : Int).toNat IntKind.i64.bits = b := by
    rw [Int.toNat_natCast]
    exact Nat.min_eq_left (Nat.le_trans h2 (by decide))
  rw [hm, Int.one_mul]
  have h3 : 2 ^ b ≤ 2 ^ 30 := Nat.pow_le_pow_right (by decide) h2
  have h4 : ((2 : Int) ^ b) = ((2 ^ b : Nat) : Int) := by rw [Int.natCast_pow]; rfl
  have h5 : 0 < 2 ^ b := Nat.two_pow_pos b
  rw [h4, IntKind.wrap_i64]
  generalize 2 ^ b = q at h3 h5 ⊢
  omega
theorem j0_true (k : Nat) (v b : Int) : hutchlaw01_MixSlots.j0 (k + 4 + 1) v b 0 true = some true := by
  simp only [hutchlaw01_MixSlots.j0]
  rw [if_pos trivial, if_pos trivial, alive_f k, Option.bind_some]
theorem j0_false (k : Nat) (v : V) (n : Nat) (h1 : 1 ≤ n) (h2 : n ≤ 30) : hutchlaw01_MixSlots.j0 (k + 100 + 1) (I v) (n : Int) (I (mixV v >>> (64 - n))) false = some true := by
  simp only [hutchlaw01_MixSlots.j0]
  have hn : IntKind.u64.wrap (n : Int) = (n : Int) := by rw [wrap_eq]; omega
  rw [if_neg (by decide), rslot_f k v n h1 h2, Option.bind_some, if_pos rfl, if_pos (I_lt _).1, hn, if_pos (by omega), shl_one n h2, if_pos (slot_lt v n h2), alive_f (k + 96), Option.bind_some]
theorem MixSlots : hutchlaw01_MixSlots.Pure := by
  intro a b ha hb
  obtain ⟨v, rfl⟩ := I_of a ha
  by_cases h : b < 1 ∨ 30 < b
  · refine ⟨5, ?_⟩
    unfold hutchlaw01_MixSlots.f
    rw [slot_out _ _ h, Option.bind_some]
    have hj : hutchlaw01_MixSlots.j0 5 (I v) b 0 true = some true := j0_true 0 _ _
    by_cases h1 : b < 1
    · rw [if_pos h1, hj]
    · rw [if_neg h1, decide_eq_true (by omega : b > 30), hj]
  · obtain ⟨n, rfl⟩ : ∃ n : Nat, b = (n : Int) := ⟨b.toNat, by omega⟩
    have h1 : 1 ≤ n := by omega
    have h2 : n ≤ 30 := by omega
    refine ⟨101, ?_⟩
    unfold hutchlaw01_MixSlots.f
    rw [slot_f v n h1 h2, Option.bind_some, if_neg (by omega), decide_eq_false (by omega : ¬ (n : Int) > 30)]
    exact j0_false 0 v n h1 h2

/-! bytes -/
def stepV (s : V) (c : Int) : V := mixV (s + BitVec.ofNat 64 c.toNat)
theorem wrap_u8add (s : V) (c : Int) (h : (Lit.int .u8 c).wf = true) : IntKind.u64.wrap (I s + IntKind.u64.wrap c) = I (s + BitVec.ofNat 64 c.toNat) := by
  simp [Lit.wf, IntKind.min, IntKind.max, IntKind.signed, IntKind.bits] at h
  have e : IntKind.u64.wrap c = ((c.toNat : Nat) : Int) := by rw [wrap_eq]; omega
  rw [e, wrap_add]
theorem wrap64_up (n : Nat) (h : n < 1000000) : wrap64 ((n : Int) + 1) = ((n + 1 : Nat) : Int) := by
  rw [wrap64_small _ (by omega) (by omega)]; rfl
theorem rd_at (l : List Int) (i : Nat) (h : i < l.length) : rd l (i : Int) = l[i] := by
  unfold rd
  rw [Int.toNat_natCast, List.getD_eq_getElem?_getD, List.getElem?_eq_getElem h, Option.getD_some]
theorem drop_at (l : List Int) (i : Nat) (h : i < l.length) : l.drop i = l[i] :: l.drop (i + 1) := List.drop_eq_getElem_cons h
theorem bytes_l0 (l : List Int) (hw : ∀ x ∈ l, (Lit.int .u8 x).wf = true) (hl : l.length ≤ 3000) (d : Nat) :
    ∀ (k : Nat) (i : Nat) (s : V), i ≤ l.length → l.length - i = d → d < k → mix_Bytes.l0 k (I s) l (l.length : Int) (i : Int) = some (I ((l.drop i).foldl stepV s)) := by
  induction d with
  | zero =>
    intro k i s hi hd hk
    obtain ⟨k, rfl⟩ : ∃ m, k = m + 1 := ⟨k - 1, by omega⟩
    unfold mix_Bytes.l0
    rw [if_neg (by omega), List.drop_eq_nil_of_le (by omega), List.foldl_nil]
  | succ d ih =>
    intro k i s hi hd hk
    obtain ⟨k, rfl⟩ : ∃ m, k = m + 1 := ⟨k - 1, by omega⟩
    have hlt : i < l.length := by omega
    unfold mix_Bytes.l0
    rw [if_pos (by omega), if_pos (by omega), if_pos (by omega), rd_at l i hlt, wrap_u8add s _ (hw _ (List.getElem_mem hlt)), mix_f, Option.bind_some, wrap64_up i (by omega),
      ih k (i + 1) _ (by omega) (by omega) (by omega), drop_at l i hlt, List.foldl_cons]
    rfl
theorem rbytes_l0 (l : List Int) (hw : ∀ x ∈ l, (Lit.int .u8 x).wf = true) (hl : l.length ≤ 3000) (d : Nat) :
    ∀ (k : Nat) (i : Nat) (s : V), i ≤ l.length → l.length - i = d → d < k → hutchref01_Bytes.l0 k l (I s) (i : Int) = some (I ((l.drop i).foldl stepV s)) := by
  induction d with
  | zero =>
    intro k i s hi hd hk
    obtain ⟨k, rfl⟩ : ∃ m, k = m + 1 := ⟨k - 1, by omega⟩
    unfold hutchref01_Bytes.l0
    rw [if_neg (by omega), List.drop_eq_nil_of_le (by omega), List.foldl_nil]
  | succ d ih =>
    intro k i s hi hd hk
    obtain ⟨k, rfl⟩ : ∃ m, k = m + 1 := ⟨k - 1, by omega⟩
    have hlt : i < l.length := by omega
    unfold hutchref01_Bytes.l0
    rw [if_pos (by omega), if_pos (by omega), rd_at l i hlt, wrap_u8add s _ (hw _ (List.getElem_mem hlt)), rmix_f, Option.bind_some, wrap64_up i (by omega),
      ih k (i + 1) _ (by omega) (by omega) (by omega), drop_at l i hlt, List.foldl_cons]
    rfl
def seedV : V := BitVec.ofNat 64 11400714819323198485
theorem I_seed : (11400714819323198485 : Int) = I seedV := by decide +kernel
theorem bytes_f (l : List Int) (hw : ∀ x ∈ l, (Lit.int .u8 x).wf = true) (hl : l.length ≤ 3000) : mix_Bytes.f 3001 l = some (I (l.foldl stepV seedV)) := by
  unfold mix_Bytes.f
  rw [I_seed]
  exact bytes_l0 l hw hl l.length 3001 0 seedV (by omega) (by omega) (by omega)
theorem rbytes_f (l : List Int) (hw : ∀ x ∈ l, (Lit.int .u8 x).wf = true) (hl : l.length ≤ 3000) : hutchref01_Bytes.f 3001 l = some (I (l.foldl stepV seedV)) := by
  unfold hutchref01_Bytes.f
  rw [I_seed]
  exact rbytes_l0 l hw hl l.length 3001 0 seedV (by omega) (by omega) (by omega)
theorem MixBytes : hutchlaw01_MixBytes.Pure := by
  intro l c _ _ hw hc
  refine ⟨3001, ?_⟩
  unfold hutchlaw01_MixBytes.f
  by_cases h : (l.length : Int) > 2000
  · rw [if_pos h, alive_f 2997, Option.bind_some]
  · have hl : l.length ≤ 2000 := by omega
    have hw2 : ∀ x ∈ l ++ [c], (Lit.int .u8 x).wf = true := by
      intro x hx
      rcases List.mem_append.1 hx with h1 | h1
      · exact hw x h1
      · rw [List.mem_singleton.1 h1]; exact hc
    have hl2 : (l ++ [c]).length ≤ 3000 := by rw [List.length_append, List.length_singleton]; omega
    have hz : ([] : List Int).length + l.length < 140737488355328 := by rw [List.length_nil]; omega
    have hz2 : ([] ++ l : List Int).length < 140737488355328 := by rw [List.nil_append]; omega
    rw [if_neg h, bytes_f l hw (by omega), Option.bind_some, Option.bind_some, if_pos hz, Option.bind_some, if_pos hz2, rbytes_f l hw (by omega), Option.bind_some, if_pos rfl,
      List.nil_append, bytes_f _ hw2 hl2, Option.bind_some, wrap_u8add _ _ hc, rmix_f, Option.bind_some, List.foldl_append, List.foldl_cons, List.foldl_nil, show stepV (List.foldl stepV seedV l) c = mixV (List.foldl stepV seedV l + BitVec.ofNat 64 c.toNat) from rfl, if_pos rfl, alive_f 2997, Option.bind_some]

end Go.Proofs.Ytdninnjhggoefaa.Plain

/- What the document's functions of digits do with numbers, and numbers below 0. Own text of this session. -/
import Derived.Test.YtmeaeafceankkaaDoorNum
set_option linter.unusedVariables false
set_option linter.unusedSimpArgs false
set_option maxRecDepth 4000
set_option maxHeartbeats 4000000
namespace Go.Proofs.YtmeaeafceankkaaDoor.C
open Go Go.RowKit Go.Proofs.YtmeaeafceankkaaDoorA Go.Proofs.YtmeaeafceankkaaDoor.Plain
variable {H : AH}
/-- what reading tells -/
def Told (l : List UInt8) (v : Value) : Prop := (∃ n, Is l n ∧ v = .tuple #[.int .u64 n, .bool true]) ∨ ((∀ n, ¬ Is l n) ∧ v = .tuple #[.int .u64 0, .bool false])
/-- ref.Read -/
theorem rread_run {l : List UInt8} : CallR cx 30 #[.string (str l)] H (fun v H' => Fresh H H' ∧ Told l v) := by
  refine wk30 (by simp) ?_
  by_cases h20 : 20 < (l.length : Int)
  · simp [c30, h20, Told, Fresh.refl]
    intro n hn
    have := is_len hn
    omega
  simp [c30, h20]
  refine aw_loop_to l.length (fun k s => s.env 0 = .string (str l) ∧ s.ds = [] ∧ s.H = H ∧ s.env 5 = i64 k ∧ s.env 4 = .int .u64 ((val (l.take k) % 18446744073709551616 : Nat) : Int)) ?_ ?_ ?_
  · rintro k ⟨env, H2, ds⟩ hk ⟨e0, eds, rfl, e5, e4⟩
    simp only at e0 eds e5 e4
    have hkN : (k : Int) < l.length := by omega
    have hix := idx l k hk
    have hw : IntKind.i64.wrap ((k : Int) + 1) = (k : Int) + 1 := wrap_small (by omega)
    have hvt := val_take hk
    have hb8 := UInt8.toNat_lt l[k]
    by_cases hlo : ((l[k].toNat : Nat) : Int) < 48
    · simp [e0, e5, e4, hkN, hk, hix, hlo, Go.undef, eds, Told, Fresh.refl]
      intro n hn
      have := dec_isD n l[k] (by rw [← hn.2]; simp)
      unfold isD at this; omega
    by_cases hhi : 57 < ((l[k].toNat : Nat) : Int)
    · simp [e0, e5, e4, hkN, hk, hix, hlo, hhi, Go.undef, eds, Told, Fresh.refl]
      intro n hn
      have := dec_isD n l[k] (by rw [← hn.2]; simp)
      unfold isD at this; omega
    have hw8 : IntKind.u8.wrap ((l[k].toNat : Int) - 48) = ((l[k].toNat - 48 : Nat) : Int) := by rw [wrap8_small (by omega)]; omega
    have hw6 : IntKind.u64.wrap ((l[k].toNat - 48 : Nat) : Int) = ((l[k].toNat - 48 : Nat) : Int) := wrapU_small (by omega)
    have hm2 : IntKind.u64.wrap (IntKind.u64.wrap (((val (l.take k) % 18446744073709551616 : Nat) : Int) * 10) + ((l[k].toNat - 48 : Nat) : Int)) = ((val (l.take (k + 1)) % 18446744073709551616 : Nat) : Int) := by
      rw [wrapU, wrapU, hvt]; omega
    simp [e0, e5, e4, hkN, hk, hix, hlo, hhi, hw8, hw6, Go.undef, eds, hm2, hw, -Int.natCast_emod]
  · rintro ⟨env, H2, ds⟩ ⟨e0, eds, rfl, e5, e4⟩
    simp only at e0 eds e5 e4
    rw [List.take_length] at e4
    simp [e0, e5, e4, eds, -Int.natCast_emod]
    refine callV_R cb26 (rprint_run (Nat.mod_lt _ (by omega))) ?_
    rintro _ H3 ⟨rfl, hf⟩
    have hne := fun ox oy => aBin_strneL (P := Tryd.prog) (t := 9) ox oy un9 (dec (val l % 18446744073709551616)) l
    by_cases he : dec (val l % 18446744073709551616) = l
    · simp [e0, e4, hne, he, eds, hf, -Int.natCast_emod]
      exact .inl ⟨_, ⟨Nat.mod_lt _ (by omega), he.symm⟩, rfl⟩
    · simp [e0, e4, hne, he, eds, hf, -Int.natCast_emod]
      refine .inr ⟨?_, rfl⟩
      intro n hn
      have h1 := is_val hn
      have h2 := hn.1
      apply he
      rw [h1, Nat.mod_eq_of_lt h2]
      exact hn.2.symm
  · simp [val]
/-- the text of a number that may be below 0 -/
def sdec (i : Int) : List UInt8 := if i < 0 then 45 :: dec (-i).toNat else dec i.toNat
def I64 (i : Int) : Prop := -9223372036854775808 ≤ i ∧ i ≤ 9223372036854775807
theorem wrapI (n : Int) (h : I64 n) : IntKind.i64.wrap n = n := by unfold I64 at h; simp [IntKind.wrap, IntKind.bits, IntKind.signed]; omega
theorem str45 : (⟨#[45]⟩ : ByteArray) = str [45] := rfl
theorem aUn_neg (k : IntKind) (n : Int) : aUn Tryd.prog .neg (.int k n) = some (.int k (k.wrap (-n))) := by
  rw [← Int.zero_sub]
  cases k <;> rfl
/-- digits.Int -/
theorem int_run {i : Int} (hi : I64 i) : CallR cx 39 #[i64 i] H (fun v H' => v = .string (str (sdec i)) ∧ Fresh H H') := by
  unfold I64 at hi
  refine wk39 (by simp) ?_
  by_cases h0 : i < 0
  · obtain ⟨m, hm⟩ : ∃ m : Nat, (-i).toNat = m := ⟨_, rfl⟩
    have hn : IntKind.u64.wrap (-IntKind.u64.wrap i) = (m : Int) := by rw [wrapU, wrapU]; omega
    have hadd := fun ox oy => aBin_stradd (P := Tryd.prog) (t := 9) ox oy un9 [45] (dec m) (by have := dec_len (k := 20) (by omega) (show m < 10 ^ 20 by omega); simp; omega)
    simp [c39, h0, hn, aUn_neg, str45]
    refine callV_R cb46 (decimal_run (n := m) (by omega)) ?_
    rintro _ H1 ⟨rfl, hf⟩
    simp [hadd, sdec, h0, hf, hm]
  · obtain ⟨m, hm⟩ : ∃ m : Nat, i.toNat = m := ⟨_, rfl⟩
    have hn : IntKind.u64.wrap i = (m : Int) := by rw [wrapU]; omega
    simp [c39, h0, hn]
    refine callV_R cb46 (decimal_run (n := m) (by omega)) ?_
    rintro _ H1 ⟨rfl, hf⟩
    simp [sdec, h0, hf, hm]
/-- ref.Int -/
theorem rint_run {i : Int} (hi : I64 i) : CallR cx 27 #[i64 i] H (fun v H' => v = .string (str (sdec i)) ∧ Fresh H H') := by
  unfold I64 at hi
  refine wk27 (by simp) ?_
  by_cases h0 : 0 ≤ i
  · obtain ⟨m, hm⟩ : ∃ m : Nat, i.toNat = m := ⟨_, rfl⟩
    have hn : IntKind.u64.wrap i = (m : Int) := by rw [wrapU]; omega
    have h0' : ¬ i < 0 := by omega
    simp [c27, h0, hn]
    refine callV_R cb26 (rprint_run (n := m) (by omega)) ?_
    rintro _ H1 ⟨rfl, hf⟩
    simp [sdec, h0', hf, hm]
  · have hw1 : IntKind.i64.wrap (i + 1) = i + 1 := wrapI _ (by unfold I64; omega)
    have hw2 : IntKind.i64.wrap (-(i + 1)) = -(i + 1) := wrapI _ (by unfold I64; omega)
    have hw3 : IntKind.i64.wrap (-1 + -i) = -1 + -i := wrapI _ (by unfold I64; omega)
    obtain ⟨m, hm⟩ : ∃ m : Nat, (-i).toNat = m := ⟨_, rfl⟩
    have hn : IntKind.u64.wrap (IntKind.u64.wrap (-(i + 1)) + 1) = (m : Int) := by rw [wrapU, wrapU]; omega
    have h0' : i < 0 := by omega
    have hadd := fun ox oy => aBin_stradd (P := Tryd.prog) (t := 9) ox oy un9 [45] (dec m) (by have := dec_len (k := 20) (by omega) (show m < 10 ^ 20 by omega); simp; omega)
    simp only [c27]
    generalize hj : -(i + 1) = j at *
    simp [h0, hw1, hn, aUn_neg, str45, hj, hw2]
    refine callV_R cb26 (rprint_run (n := m) (by omega)) ?_
    rintro _ H1 ⟨rfl, hf⟩
    simp [hadd, sdec, h0', hf, hm]
/-- a whole number of the machine's, whose text it is -/
def IsI (l : List UInt8) (i : Int) : Prop := I64 i ∧ l = sdec i
def ToldI (l : List UInt8) (v : Value) : Prop := (∃ i, IsI l i ∧ v = .tuple #[i64 i, .bool true]) ∨ ((∀ i, ¬ IsI l i) ∧ v = .tuple #[i64 0, .bool false])
theorem dec_no45 (n : Nat) : (dec n).head? ≠ some 45 := by
  intro h
  cases hd : dec n with
  | nil => exact dec_ne n hd
  | cons b r =>
    have := dec_isD n b (by rw [hd]; simp)
    rw [hd] at h
    simp at h
    subst h
    unfold isD at this
    simp at this
theorem isI_neg {l : List UInt8} {i : Int} (h : IsI l i) (hl : l.head? = some 45) : i < 0 ∧ Is l.tail (-i).toNat := by
  obtain ⟨h1, rfl⟩ := h
  unfold sdec at hl ⊢
  split
  · rename_i h0
    exact ⟨h0, by unfold I64 at h1; omega, rfl⟩
  · rename_i h0
    rw [if_neg h0] at hl
    exact absurd hl (dec_no45 _)
theorem isI_pos {l : List UInt8} {i : Int} (h : IsI l i) (hl : l.head? ≠ some 45) : 0 ≤ i ∧ Is l i.toNat := by
  obtain ⟨h1, rfl⟩ := h
  unfold sdec at hl ⊢
  split
  · rename_i h0
    rw [if_pos h0] at hl
    simp at hl
  · rename_i h0
    exact ⟨by omega, by unfold I64 at h1; omega, rfl⟩
theorem is_neg {l : List UInt8} {n : Nat} (h : Is l.tail n) (hl : l.head? = some 45) (hn : 0 < n) (hb : n ≤ 9223372036854775808) : IsI l (-(n : Int)) := by
  refine ⟨by unfold I64; omega, ?_⟩
  unfold sdec
  rw [if_pos (by omega), show (-(-(n : Int))).toNat = n by omega, ← h.2]
  cases l with
  | nil => simp at hl
  | cons b r => simp at hl; subst hl; rfl
theorem is_pos {l : List UInt8} {n : Nat} (h : Is l n) (hb : n < 9223372036854775808) : IsI l (n : Int) := by
  refine ⟨by unfold I64; omega, ?_⟩
  unfold sdec
  rw [if_neg (by omega), show ((n : Int)).toNat = n by omega, ← h.2]
end Go.Proofs.YtmeaeafceankkaaDoor.C

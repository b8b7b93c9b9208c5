/- What the document's functions of digits do with numbers, and numbers below 0. Own text of this session. -/
import Derived.Test.YtlbgincmndakmaaDoorNum
set_option linter.unusedVariables false
set_option linter.unusedSimpArgs false
set_option maxRecDepth 4000
set_option maxHeartbeats 4000000
namespace Go.Proofs.YtlbgincmndakmaaDoor.C
open Go Go.RowKit Go.Proofs.YtlbgincmndakmaaDoorA Go.Proofs.YtlbgincmndakmaaDoor.Plain
variable {H : AH}
/-- what reading tells -/
def Told (l : List UInt8) (v : Value) : Prop := (∃ n, Is l n ∧ v = .tuple #[.int .u64 n, .bool true]) ∨ ((∀ n, ¬ Is l n) ∧ v = .tuple #[.int .u64 0, .bool false])
/-- ref.Read -/
theorem rread_run {l : List UInt8} : CallR cx 58 #[.string (str l)] H (fun v H' => Fresh H H' ∧ Told l v) := by
  refine wk58 (by simp) ?_
  by_cases h20 : 20 < (l.length : Int)
  · simp [c58, h20, Told, Fresh.refl]
    intro n hn
    have := is_len hn
    omega
  simp [c58, h20]
  refine aw_loop_to l.length (fun k s => s.env 0 = .string (str l) ∧ s.ds = [] ∧ s.H = H ∧ s.env 5 = i64 k ∧ s.env 4 = .int .u64 ((val (l.take k) % 18446744073709551616 : Nat) : Int)) ?_ ?_ ?_
  · rintro k ⟨env, H2, ds⟩ hk ⟨e0, eds, rfl, e5, e4⟩
    simp only at e0 eds e5 e4
    have hkN : (k : Int) < l.length := by omega
    have hix := idx l k hk
    have hw : IntKind.i64.wrap ((k : Int) + 1) = (k : Int) + 1 := wrap_small (by omega)
    have hvt := val_take hk
    have hb8 := UInt8.toNat_lt l[k]
    by_cases hlo : ((l[k].toNat : Nat) : Int) < 48
    · simp [e0, e5, e4, hkN, hk, hix, hlo, Go.undef, eds, Told, Fresh.refl]
      intro n hn
      have := dec_isD n l[k] (by rw [← hn.2]; simp)
      unfold isD at this; omega
    by_cases hhi : 57 < ((l[k].toNat : Nat) : Int)
    · simp [e0, e5, e4, hkN, hk, hix, hlo, hhi, Go.undef, eds, Told, Fresh.refl]
      intro n hn
      have := dec_isD n l[k] (by rw [← hn.2]; simp)
      unfold isD at this; omega
    have hw8 : IntKind.u8.wrap ((l[k].toNat : Int) - 48) = ((l[k].toNat - 48 : Nat) : Int) := by rw [wrap8_small (by omega)]; omega
    have hw6 : IntKind.u64.wrap ((l[k].toNat - 48 : Nat) : Int) = ((l[k].toNat - 48 : Nat) : Int) := wrapU_small (by omega)
    have hm2 : IntKind.u64.wrap (IntKind.u64.wrap (((val (l.take k) % 18446744073709551616 : Nat) : Int) * 10) + ((l[k].toNat - 48 : Nat) : Int)) = ((val (l.take (k + 1)) % 18446744073709551616 : Nat) : Int) := by
      rw [wrapU, wrapU, hvt]; omega
    simp [e0, e5, e4, hkN, hk, hix, hlo, hhi, hw8, hw6, Go.undef, eds, hm2, hw, -Int.natCast_emod]
  · rintro ⟨env, H2, ds⟩ ⟨e0, eds, rfl, e5, e4⟩
    simp only at e0 eds e5 e4
    rw [List.take_length] at e4
    simp [e0, e5, e4, eds, -Int.natCast_emod]
    refine callV_R cb32 (rprint_run (Nat.mod_lt _ (by omega))) ?_
    rintro _ H3 ⟨rfl, hf⟩
    have hne := fun ox oy => aBin_strneL (P := Tryd.prog) (t := 9) ox oy un9 (dec (val l % 18446744073709551616)) l
    by_cases he : dec (val l % 18446744073709551616) = l
    · simp [e0, e4, hne, he, eds, hf, -Int.natCast_emod]
      exact .inl ⟨_, ⟨Nat.mod_lt _ (by omega), he.symm⟩, rfl⟩
    · simp [e0, e4, hne, he, eds, hf, -Int.natCast_emod]
      refine .inr ⟨?_, rfl⟩
      intro n hn
      have h1 := is_val hn
      have h2 := hn.1
      apply he
      rw [h1, Nat.mod_eq_of_lt h2]
      exact hn.2.symm
  · simp [val]
/-- the text of a number that may be below 0 -/
def sdec (i : Int) : List UInt8 := if i < 0 then 45 :: dec (-i).toNat else dec i.toNat
def I64 (i : Int) : Prop := -9223372036854775808 ≤ i ∧ i ≤ 9223372036854775807
theorem wrapI (n : Int) (h : I64 n) : IntKind.i64.wrap n = n := by unfold I64 at h; simp [IntKind.wrap, IntKind.bits, IntKind.signed]; omega
theorem str45 : (⟨#[45]⟩ : ByteArray) = str [45] := rfl
theorem aUn_neg (k : IntKind) (n : Int) : aUn Tryd.prog .neg (.int k n) = some (.int k (k.wrap (-n))) := by
  rw [← Int.zero_sub]
  cases k <;> rfl
/-- digits.Int -/
theorem int_run {i : Int} (hi : I64 i) : CallR cx 49 #[i64 i] H (fun v H' => v = .string (str (sdec i)) ∧ Fresh H H') := by
  unfold I64 at hi
  refine wk49 (by simp) ?_
  by_cases h0 : i < 0
  · obtain ⟨m, hm⟩ : ∃ m : Nat, (-i).toNat = m := ⟨_, rfl⟩
    have hn : IntKind.u64.wrap (-IntKind.u64.wrap i) = (m : Int) := by rw [wrapU, wrapU]; omega
    have hadd := fun ox oy => aBin_stradd (P := Tryd.prog) (t := 9) ox oy un9 [45] (dec m) (by have := dec_len (k := 20) (by omega) (show m < 10 ^ 20 by omega); simp; omega)
    simp [c49, h0, hn, aUn_neg, str45]
    refine callV_R cb47 (decimal_run (n := m) (by omega)) ?_
    rintro _ H1 ⟨rfl, hf⟩
    simp [hadd, sdec, h0, hf, hm]
  · obtain ⟨m, hm⟩ : ∃ m : Nat, i.toNat = m := ⟨_, rfl⟩
    have hn : IntKind.u64.wrap i = (m : Int) := by rw [wrapU]; omega
    simp [c49, h0, hn]
    refine callV_R cb47 (decimal_run (n := m) (by omega)) ?_
    rintro _ H1 ⟨rfl, hf⟩
    simp [sdec, h0, hf, hm]
/-- ref.Int -/
theorem rint_run {i : Int} (hi : I64 i) : CallR cx 57 #[i64 i] H (fun v H' => v = .string (str (sdec i)) ∧ Fresh H H') := by
  unfold I64 at hi
  refine wk57 (by simp) ?_
  by_cases h0 : 0 ≤ i
  · obtain ⟨m, hm⟩ : ∃ m : Nat, i.toNat = m := ⟨_, rfl⟩
    have hn : IntKind.u64.wrap i = (m : Int) := by rw [wrapU]; omega
    have h0' : ¬ i < 0 := by omega
    simp [c57, h0, hn]
    refine callV_R cb32 (rprint_run (n := m) (by omega)) ?_
    rintro _ H1 ⟨rfl, hf⟩
    simp [sdec, h0', hf, hm]
  · have hw1 : IntKind.i64.wrap (i + 1) = i + 1 := wrapI _ (by unfold I64; omega)
    have hw2 : IntKind.i64.wrap (-(i + 1)) = -(i + 1) := wrapI _ (by unfold I64; omega)
    have hw3 : IntKind.i64.wrap (-1 + -i) = -1 + -i := wrapI _ (by unfold I64; omega)
    obtain ⟨m, hm⟩ : ∃ m : Nat, (-i).toNat = m := ⟨_, rfl⟩
    have hn : IntKind.u64.wrap (IntKind.u64.wrap (-(i + 1)) + 1) = (m : Int) := by rw [wrapU, wrapU]; omega
    have h0' : i < 0 := by omega
    have hadd := fun ox oy => aBin_stradd (P := Tryd.prog) (t := 9) ox oy un9 [45] (dec m) (by have := dec_len (k := 20) (by omega) (show m < 10 ^ 20 by omega); simp; omega)
    simp only [c57]
    generalize hj : -(i + 1) = j at *
    simp [h0, hw1, hn, aUn_neg, str45, hj, hw2]
    refine callV_R cb32 (rprint_run (n := m) (by omega)) ?_
    rintro _ H1 ⟨rfl, hf⟩
    simp [hadd, sdec, h0', hf, hm]
/-- strings.HasPrefix of one byte -/
theorem hasPrefix_run {l : List UInt8} : CallR cx 83 #[.string (str l), .string (str [45])] H (fun v H' => v = .bool (decide (l.head? = some 45)) ∧ H' = H) := by
  refine wk83 (by simp) ?_
  cases l with
  | nil => simp [c83]
  | cons b r =>
    have h1 : (1 : Int) ≤ ((b :: r).length : Nat) := by simp; omega
    have hs := aSlice_str (P := Tryd.prog) (t := 9) un9 (b :: r) (lo := none) (hi := some (i64 1)) (a := 0) (b := 1) (H := H) (by simp [bnd]; omega) (by simp [bnd]) (by omega) (by simp)
    have heq := fun ox oy => aBin_streqL (P := Tryd.prog) (t := 9) ox oy un9 [b] [45]
    simp at hs h1
    simp [c83, h1, hs, heq]
theorem cut1_run {l : List UInt8} : CallR cx 74 #[.string (str l), .string (str [45])] H (fun v H' => v = .tuple #[.string (str (if l.head? = some 45 then l.drop 1 else l)), .bool (decide (l.head? = some 45))] ∧ H' = H) := by
  refine wk74 (by simp) ?_
  simp [c74]
  refine callV_R cb83 hasPrefix_run ?_
  rintro _ H1 ⟨rfl, rfl⟩
  by_cases h : l.head? = some 45
  · cases l with
    | nil => simp at h
    | cons b r =>
      have hs := aSlice_str (P := Tryd.prog) (t := 9) un9 (b :: r) (lo := some (i64 1)) (hi := none) (a := 1) (b := r.length + 1) (H := H1) (by simp [bnd]) (by simp [bnd]; omega) (by omega) (by simp)
      simp at hs h
      subst h
      simp [hs]
  · simp [h]
theorem cut_run {l : List UInt8} : CallR cx 66 #[.string (str l), .string (str [45])] H (fun v H' => v = .tuple #[.string (str (if l.head? = some 45 then l.drop 1 else l)), .bool (decide (l.head? = some 45))] ∧ H' = H) := by
  refine wk66 (by simp) ?_
  simp [c66]
  refine callV_R cb74 cut1_run ?_
  rintro _ H1 ⟨rfl, rfl⟩
  simp
/-- a whole number of the machine's, whose text it is -/
def IsI (l : List UInt8) (i : Int) : Prop := I64 i ∧ l = sdec i
def ToldI (l : List UInt8) (v : Value) : Prop := (∃ i, IsI l i ∧ v = .tuple #[i64 i, .bool true]) ∨ ((∀ i, ¬ IsI l i) ∧ v = .tuple #[i64 0, .bool false])
theorem dec_no45 (n : Nat) : (dec n).head? ≠ some 45 := by
  intro h
  cases hd : dec n with
  | nil => exact dec_ne n hd
  | cons b r =>
    have := dec_isD n b (by rw [hd]; simp)
    rw [hd] at h
    simp at h
    subst h
    unfold isD at this
    simp at this
theorem isI_neg {l : List UInt8} {i : Int} (h : IsI l i) (hl : l.head? = some 45) : i < 0 ∧ Is l.tail (-i).toNat := by
  obtain ⟨h1, rfl⟩ := h
  unfold sdec at hl ⊢
  split
  · rename_i h0
    exact ⟨h0, by unfold I64 at h1; omega, rfl⟩
  · rename_i h0
    rw [if_neg h0] at hl
    exact absurd hl (dec_no45 _)
theorem isI_pos {l : List UInt8} {i : Int} (h : IsI l i) (hl : l.head? ≠ some 45) : 0 ≤ i ∧ Is l i.toNat := by
  obtain ⟨h1, rfl⟩ := h
  unfold sdec at hl ⊢
  split
  · rename_i h0
    rw [if_pos h0] at hl
    simp at hl
  · rename_i h0
    exact ⟨by omega, by unfold I64 at h1; omega, rfl⟩
theorem is_neg {l : List UInt8} {n : Nat} (h : Is l.tail n) (hl : l.head? = some 45) (hn : 0 < n) (hb : n ≤ 9223372036854775808) : IsI l (-(n : Int)) := by
  refine ⟨by unfold I64; omega, ?_⟩
  unfold sdec
  rw [if_pos (by omega), show (-(-(n : Int))).toNat = n by omega, ← h.2]
  cases l with
  | nil => simp at hl
  | cons b r => simp at hl; subst hl; rfl
theorem is_pos {l : List UInt8} {n : Nat} (h : Is l n) (hb : n < 9223372036854775808) : IsI l (n : Int) := by
  refine ⟨by unfold I64; omega, ?_⟩
  unfold sdec
  rw [if_neg (by omega), show ((n : Int)).toNat = n by omega, ← h.2]
/-- digits.ReadInt -/
theorem readInt_run {l : List UInt8} : CallR cx 53 #[.string (str l)] H (fun v H' => H' = H ∧ ToldI l v) := by
  refine wk53 (by simp) ?_
  simp [c53, str45]
  refine callV_R cb66 cut_run ?_
  rintro _ H1 ⟨rfl, rfl⟩
  simp
  refine callV_R cb30 read_run ?_
  rintro v H1 ⟨rfl, hv⟩
  by_cases hl : l.head? = some 45
  · simp only [hl, if_true] at hv
    rcases hv with ⟨n, hn, rfl⟩ | ⟨hno, rfl⟩
    · by_cases h0 : n = 0
      · subst h0
        simp [hl, Go.undef]
        refine .inr ⟨fun i hi => ?_, rfl⟩
        obtain ⟨h1, h2⟩ := isI_neg hi hl
        have := h2.uniq hn
        omega
      · have h0i : ¬ (n : Int) = 0 := by omega
        by_cases hb : (n : Int) ≤ 9223372036854775808
        · have hw : IntKind.i64.wrap (IntKind.u64.wrap (-(n : Int))) = -(n : Int) := by
            rw [wrapU]; simp [IntKind.wrap, IntKind.bits, IntKind.signed]; omega
          simp [hl, h0, h0i, hb, aUn_neg, hw, Go.undef]
          exact .inl ⟨_, is_neg hn hl (by omega) (by omega), rfl⟩
        · simp [hl, h0, h0i, hb, Go.undef]
          refine .inr ⟨fun i hi => ?_, rfl⟩
          obtain ⟨h1, h2⟩ := isI_neg hi hl
          have := h2.uniq hn
          have := hi.1
          unfold I64 at this
          omega
    · simp [hl, Go.undef]
      refine .inr ⟨fun i hi => ?_, rfl⟩
      exact hno _ (isI_neg hi hl).2
  · simp only [hl, if_false] at hv
    rcases hv with ⟨n, hn, rfl⟩ | ⟨hno, rfl⟩
    · by_cases hb : (n : Int) < 9223372036854775808
      · have hw : IntKind.i64.wrap (n : Int) = (n : Int) := wrapI _ (by unfold I64; omega)
        simp [hl, hb, hw, Go.undef]
        exact .inl ⟨_, is_pos hn (by omega), rfl⟩
      · simp [hl, hb, Go.undef]
        refine .inr ⟨fun i hi => ?_, rfl⟩
        obtain ⟨h1, h2⟩ := isI_pos hi hl
        have := h2.uniq hn
        have := hi.1
        unfold I64 at this
        omega
    · simp [hl, Go.undef]
      refine .inr ⟨fun i hi => ?_, rfl⟩
      exact hno _ (isI_pos hi hl).2
/-- ref.ReadInt -/
theorem rreadInt_run {l : List UInt8} : CallR cx 61 #[.string (str l)] H (fun v H' => Fresh H H' ∧ ToldI l v) := by
  refine wk61 (by simp) ?_
  by_cases hl : l.head? = some 45
  · obtain ⟨r, rfl⟩ : ∃ r, l = 45 :: r := by
      cases l with
      | nil => simp at hl
      | cons b r => simp at hl; subst hl; exact ⟨r, rfl⟩
    have hs := aSlice_str (P := Tryd.prog) (t := 9) un9 (45 :: r) (lo := some (i64 1)) (hi := none) (a := 1) (b := r.length + 1) (H := H) (by simp [bnd]) (by simp [bnd]; omega) (by omega) (by simp)
    have hix := idx (45 :: r) 0 (by simp)
    simp at hs hix
    simp [c61, hix, hs]
    refine callV_R cb58 rread_run ?_
    rintro v H1 ⟨hf, hv⟩
    have hno : (∀ n, ¬ Is r n) → ToldI (45 :: r) (.tuple #[i64 0, .bool false]) := fun h => .inr ⟨fun i hi => h _ (isI_neg hi hl).2, rfl⟩
    rcases hv with ⟨n, hn, rfl⟩ | ⟨hnn, rfl⟩
    · by_cases h0 : n = 0
      · subst h0
        simp [Go.undef, hf]
        refine .inr ⟨fun i hi => ?_, rfl⟩
        obtain ⟨h1, h2⟩ := isI_neg hi hl
        have := h2.uniq hn
        omega
      · have h0i : ¬ (n : Int) = 0 := by omega
        by_cases hb : (9223372036854775808 : Int) < n
        · simp [h0, h0i, hb, hf, Go.undef]
          refine .inr ⟨fun i hi => ?_, rfl⟩
          obtain ⟨h1, h2⟩ := isI_neg hi hl
          have := h2.uniq hn
          have := hi.1
          unfold I64 at this
          omega
        · have hw1 : IntKind.u64.wrap ((n : Int) - 1) = (n : Int) - 1 := wrapU_small (by omega)
          have hw2 : IntKind.i64.wrap ((n : Int) - 1) = (n : Int) - 1 := wrapI _ (by unfold I64; omega)
          have hw3 : IntKind.i64.wrap (-((n : Int) - 1)) = 1 - (n : Int) := by rw [wrapI _ (by unfold I64; omega)]; omega
          have hw3' : IntKind.i64.wrap (1 - (n : Int)) = 1 - (n : Int) := wrapI _ (by unfold I64; omega)
          have hw4 : IntKind.i64.wrap (1 - (n : Int) - 1) = -(n : Int) := by rw [wrapI _ (by unfold I64; omega)]; omega
          simp [h0, h0i, hb, hf, Go.undef, hw1, hw2, hw3, hw3', hw4, aUn_neg]
          exact .inl ⟨_, is_neg (l := 45 :: r) hn hl (by omega) (by omega), rfl⟩
    · simp [Go.undef, hf]
      exact hno hnn
  · have hgo : aw cx 50 none c61 (fun e s => (e = .normal ∨ e = .ret) ∧ ∃ H', takeMarks s.ds s.H = some H' ∧ ∃ v, (aResults Tryd.prog [.tmp 2, .tmp 3] s.env H').map tupleOf = some v ∧ Fresh H H' ∧ ToldI l v) ⟨envOf #[.string (str l)], H, []⟩ := by
      unfold c61
      refine aw_cut (fun s => s.env 0 = .string (str l) ∧ s.ds = [] ∧ s.H = H) (by simp) ?_
      rintro ⟨env, H1, ds⟩ ⟨e0, eds, rfl⟩
      simp only at e0 eds
      refine aw_cut (fun s => s.env 0 = .string (str l) ∧ s.ds = [] ∧ s.H = H1) ?_ ?_
      · cases l with
        | nil => simp [e0, eds, Go.undef]
        | cons b r =>
          have hix := idx (b :: r) 0 (by simp)
          have hb45 : ¬ ((b.toNat : Nat) : Int) = 45 := by
            intro h
            have : b = 45 := UInt8.toNat_inj.1 (by show b.toNat = 45; omega)
            subst this
            simp at hl
          simp at hix
          simp [e0, eds, hix, hb45, Go.undef]
      rintro ⟨env, H1, ds⟩ ⟨e0, eds, rfl⟩
      simp only at e0 eds
      simp [e0, eds]
      refine callV_R cb58 rread_run ?_
      rintro v H2 ⟨hf, hv⟩
      rcases hv with ⟨n, hn, rfl⟩ | ⟨hnn, rfl⟩
      · by_cases hb : (9223372036854775807 : Int) < n
        · simp [e0, eds, hb, hf, Go.undef]
          refine .inr ⟨fun i hi => ?_, rfl⟩
          obtain ⟨h1, h2⟩ := isI_pos hi hl
          have := h2.uniq hn
          have := hi.1
          unfold I64 at this
          omega
        · have hw : IntKind.i64.wrap (n : Int) = (n : Int) := wrapI _ (by unfold I64; omega)
          simp [e0, eds, hb, hf, hw, Go.undef]
          exact .inl ⟨_, is_pos hn (by omega), rfl⟩
      · simp [e0, eds, hf, Go.undef]
        exact .inr ⟨fun i hi => hnn _ (isI_pos hi hl).2, rfl⟩
    exact hgo
end Go.Proofs.YtlbgincmndakmaaDoor.C

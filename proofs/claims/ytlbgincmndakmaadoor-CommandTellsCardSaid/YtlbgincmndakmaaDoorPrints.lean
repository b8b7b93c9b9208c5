/- config.Print and the document's, over the small heap. Own text of this session. -/
import Derived.Test.YtlbgincmndakmaaDoorReads
set_option linter.unusedVariables false
set_option linter.unusedSimpArgs false
set_option maxRecDepth 4000
set_option maxHeartbeats 4000000
namespace Go.Proofs.YtlbgincmndakmaaDoor.C
open Go Go.RowKit Go.Proofs.YtlbgincmndakmaaDoorA Go.Proofs.YtlbgincmndakmaaDoor.Plain
variable {H : AH} {p c q g : Int}
/-- a policy's name, its bytes -/
def nameL (p : Int) : List UInt8 := (nameOf p).data.toList
theorem nameOf_str (p : Int) : nameOf p = str (nameL p) := str_eta _
theorem name_len (p : Int) : (nameL p).length ≤ 6 := by
  unfold nameL nameOf
  repeat' split
  all_goals decide
theorem name_plain (p : Int) : (32 : UInt8) ∉ nameL p := by
  unfold nameL nameOf
  repeat' split
  all_goals decide
theorem sdec_len {i : Int} (h : I64 i) : (sdec i).length ≤ 21 := by
  unfold I64 at h
  unfold sdec
  split
  · have := dec_len (k := 20) (n := (-i).toNat) (by omega) (by omega)
    simp; omega
  · have := dec_len (k := 20) (n := i.toNat) (by omega) (by omega)
    omega
theorem dec_plain (n : Nat) : (32 : UInt8) ∉ dec n := fun h => by
  have := dec_isD n _ h
  simp [isD] at this
theorem sdec_plain (i : Int) : (32 : UInt8) ∉ sdec i := by
  unfold sdec
  split
  · intro h
    rcases List.mem_cons.1 h with h | h
    · cases h
    · exact dec_plain _ h
  · exact dec_plain _
/-- the text of a config -/
def textOf (p c q g : Int) : List UInt8 := Lib.join [nameL p, sdec c, sdec q, sdec g] [32]
theorem may_i64 (h : May p c q g) : I64 c ∧ I64 q ∧ I64 g := by unfold May at h; unfold I64; omega
theorem build4 (a b c d : Value) (ha : isCell a = true) (hb : isCell b = true) (hc : isCell c = true) (hd : isCell d = true) (H : AH) : aBuildSlice Tryd.prog 54 4 [(0, a), (1, b), (2, c), (3, d)] H = some (.slice (some ⟨H.next, 0, none⟩) 4 4, ⟨H.next + 1, upd H.get H.next (.cells [a, b, c, d] 9 true 1)⟩) :=
  aBuildSliceN un54 sz9 (z := .string ⟨#[]⟩) (by kernel_rfl) [a, b, c, d] (by simp [ha, hb, hc, hd]) (by simp) H
theorem text_eq (p c q g : Int) : textOf p c q g = nameL p ++ ([32] ++ (sdec c ++ ([32] ++ (sdec q ++ ([32] ++ sdec g))))) := by
  unfold textOf
  rw [join_cons2, join_cons2, join_cons2, Lib.join_one]
theorem text_len (h : May p c q g) : (textOf p c q g).length ≤ 72 := by
  obtain ⟨h1, h2, h3⟩ := may_i64 h
  rw [text_eq]
  have := name_len p; have := sdec_len h1; have := sdec_len h2; have := sdec_len h3
  simp; omega
/-- config.Print -/
theorem cprint_run (hg : HasG gs H) (hn : nG ≤ H.next) : CallR cx 23 #[cfg p c q g] H (fun v H' => Fresh H H' ∧ v = .tuple #[.string (str (if May p c q g then textOf p c q g else [])), i64 (if May p c q g then 0 else 2)]) := by
  refine wk23 (by simp) ?_
  unfold c23
  refine aw_cut (fun t => t.env 1 = ptr H.next ∧ t.ds = [] ∧ t.H = H.new (cfgB p c q g)) (by simp [AH.new]) ?_
  rintro ⟨env, H1, ds⟩ ⟨e1, eds, hH⟩
  simp only at e1 eds hH
  subst hH
  by_cases hm : May p c q g
  case neg =>
    simp [e1]
    refine callV_R cb46 check_run ?_
    rintro _ _ ⟨rfl, rfl⟩
    simp [hm, eds]
    exact fresh1.trans fresh1
  have hg1 : HasG gs (H.new (cfgB p c q g)) := hg.fresh gs_lt hn fresh1
  refine aw_cut (fun t => t.env 1 = ptr H.next ∧ t.ds = [] ∧ t.H.get H.next = some (cfgB p c q g) ∧ Fresh H t.H ∧ H.next < t.H.next) ?_ ?_
  · simp [e1]
    refine callV_R cb46 check_run ?_
    rintro _ _ ⟨rfl, rfl⟩
    simp [hm, e1, eds]
    exact ⟨fresh1.trans fresh1, by omega⟩
  clear e1 eds
  rintro ⟨env, H1, ds⟩ ⟨e1, eds, hr, hf, hlt⟩
  simp only at e1 eds hr hf hlt
  obtain ⟨i1, i2, i3⟩ := may_i64 hm
  have hg1 := hg.fresh gs_lt hn hf
  simp [e1, hr]
  refine callV_R cbc48 (name_run hg1) ?_
  rintro _ H2 ⟨rfl, f2⟩
  have r2 : H2.get H.next = some (cfgB p c q g) := by rw [f2.get hlt, hr]
  have l2 := Nat.lt_of_lt_of_le hlt f2.1
  simp [e1, r2]
  refine callV_R cb49 (int_run i1) ?_
  rintro _ H3 ⟨rfl, f3⟩
  have r3 : H3.get H.next = some (cfgB p c q g) := by rw [f3.get l2, r2]
  have l3 := Nat.lt_of_lt_of_le l2 f3.1
  simp [e1, r3]
  refine callV_R cb49 (int_run i2) ?_
  rintro _ H4 ⟨rfl, f4⟩
  have r4 : H4.get H.next = some (cfgB p c q g) := by rw [f4.get l3, r3]
  have l4 := Nat.lt_of_lt_of_le l3 f4.1
  simp [e1, r4]
  refine callV_R cb49 (int_run i3) ?_
  rintro _ H5 ⟨rfl, f5⟩
  have r5 : H5.get H.next = some (cfgB p c q g) := by rw [f5.get l4, r4]
  have hb := build4 (.string (str (nameL p))) (.string (str (sdec c))) (.string (str (sdec q))) (.string (str (sdec g))) rfl rfl rfl rfl H5
  rw [nameOf_str]
  simp [hb]
  have hrow : Row 9 true ⟨H5.next + 1, upd H5.get H5.next (.cells [.string (str (nameL p)), .string (str (sdec c)), .string (str (sdec q)), .string (str (sdec g))] 9 true 1)⟩ (.slice (some ⟨H5.next, 0, none⟩) 4 4) (strs [nameL p, sdec c, sdec q, sdec g]) (some H5.next) := ⟨0, strs [nameL p, sdec c, sdec q, sdec g], rfl, by simp [strs], rfl, by simp, by simp⟩
  have htl := text_len hm
  refine callV_R cb24 (join_row hrow (by simp) (by unfold textOf at htl; omega)) ?_
  rintro _ H6 ⟨rfl, hH6⟩
  have hffin : Fresh H H6 := by rw [hH6]; exact fresh_new (hf.trans (f2.trans (f3.trans (f4.trans f5))))
  have n2 : H2.next ≤ H3.next := f3.1
  have n3 : H3.next ≤ H4.next := f4.1
  have n4 : H4.next ≤ H5.next := f5.1
  simp [hm, eds, r2, r3, r4, r5, hr]
  exact ⟨hffin, rfl⟩
/-- ref.Print -/
theorem crprint_run (hm : May p c q g) : CallR cx 34 #[cfg p c q g] H (fun v H' => Fresh H H' ∧ v = .string (str (textOf p c q g))) := by
  refine wk34 (by simp) ?_
  unfold c34
  refine aw_cut (fun t => t.env 1 = ptr H.next ∧ t.ds = [] ∧ t.H = H.new (cfgB p c q g)) (by simp [AH.new]) ?_
  rintro ⟨env, H1, ds⟩ ⟨e1, eds, hH⟩
  simp only at e1 eds hH
  have hr : H1.get H.next = some (cfgB p c q g) := by rw [hH]; simp
  have hf : Fresh H H1 := by rw [hH]; exact fresh1
  have hlt : H.next < H1.next := by rw [hH]; simp
  clear hH
  obtain ⟨i1, i2, i3⟩ := may_i64 hm
  have l0 := name_len p; have l1 := sdec_len i1; have l2' := sdec_len i2; have l3' := sdec_len i3
  simp [e1, hr]
  refine callV_R cb56 rname_run ?_
  rintro _ H2 ⟨rfl, hH⟩
  subst hH
  rw [nameOf_str]
  obtain ⟨t1, ht1⟩ : ∃ t, t = nameL p ++ [32] := ⟨_, rfl⟩
  obtain ⟨t2, ht2⟩ : ∃ t, t = t1 ++ sdec c := ⟨_, rfl⟩
  obtain ⟨t3, ht3⟩ : ∃ t, t = t2 ++ [32] := ⟨_, rfl⟩
  obtain ⟨t4, ht4⟩ : ∃ t, t = t3 ++ sdec q := ⟨_, rfl⟩
  obtain ⟨t5, ht5⟩ : ∃ t, t = t4 ++ [32] := ⟨_, rfl⟩
  obtain ⟨t6, ht6⟩ : ∃ t, t = t5 ++ sdec g := ⟨_, rfl⟩
  have n1 : t1.length ≤ 7 := by rw [ht1]; simp; omega
  have n2 : t2.length ≤ 28 := by rw [ht2]; simp; omega
  have n3 : t3.length ≤ 29 := by rw [ht3]; simp; omega
  have n4 : t4.length ≤ 50 := by rw [ht4]; simp; omega
  have n5 : t5.length ≤ 51 := by rw [ht5]; simp; omega
  have a1 := addW (nameL p) [32] (by simp; omega)
  have a2 := addW t1 (sdec c) (by omega)
  have a3 := addW t2 [32] (by simp; omega)
  have a4 := addW t3 (sdec q) (by omega)
  have a5 := addW t4 [32] (by simp; omega)
  have a6 := addW t5 (sdec g) (by omega)
  rw [← ht1] at a1; rw [← ht2] at a2; rw [← ht3] at a3; rw [← ht4] at a4; rw [← ht5] at a5; rw [← ht6] at a6
  simp only [← blank] at a1 a3 a5
  simp [e1, hr, a1]
  refine callV_R cb57 (rint_run i1) ?_
  rintro _ H3 ⟨rfl, f3⟩
  have r3 : H3.get H.next = some (cfgB p c q g) := by rw [f3.get hlt, hr]
  have l3 := Nat.lt_of_lt_of_le hlt f3.1
  simp [e1, r3, a2, a3]
  refine callV_R cb57 (rint_run i2) ?_
  rintro _ H4 ⟨rfl, f4⟩
  have r4 : H4.get H.next = some (cfgB p c q g) := by rw [f4.get l3, r3]
  have l4 := Nat.lt_of_lt_of_le l3 f4.1
  simp [e1, r4, a4, a5]
  refine callV_R cb57 (rint_run i3) ?_
  rintro _ H5 ⟨rfl, f5⟩
  have r5 : H5.get H.next = some (cfgB p c q g) := by rw [f5.get l4, r4]
  simp [a6, r3, r4, r5, hr, eds]
  exact ⟨hf.trans (f3.trans (f4.trans f5)), by rw [text_eq, ht6, ht5, ht4, ht3, ht2, ht1]; simp⟩
end Go.Proofs.YtlbgincmndakmaaDoor.C

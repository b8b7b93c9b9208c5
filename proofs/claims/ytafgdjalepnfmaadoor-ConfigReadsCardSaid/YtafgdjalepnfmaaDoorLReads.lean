/- ConfigReads over the small heap. Own text of this session. -/
import Derived.Test.YtafgdjalepnfmaaDoorPrints
set_option linter.unusedVariables false
set_option linter.unusedSimpArgs false
set_option maxRecDepth 4000
set_option maxHeartbeats 4000000
namespace Go.Proofs.YtafgdjalepnfmaaDoor.C
open Go Go.RowKit Go.Proofs.YtafgdjalepnfmaaDoorA Go.Proofs.YtafgdjalepnfmaaDoor.Plain
variable {H : AH} {p c q g : Int}
theorem eq24 (p c q g p' c' q' g' : Int) (ox oy : Operand) : aBin Tryd.prog .eql 24 ox oy (cfg p c q g) (cfg p' c' q' g') = some (.bool (eqL [i64 p, i64 c, i64 q, i64 g] [i64 p', i64 c', i64 q', i64 g'])) :=
  (aBin_struct (P := Tryd.prog) (t := 24) (Ds := [.int .i64, .int .i64, .int .i64, .int .i64]) (by kernel_rfl) [i64 p, i64 c, i64 q, i64 g] [i64 p', i64 c', i64 q', i64 g'] rfl rfl ox oy).1
theorem ne24 (p c q g p' c' q' g' : Int) (ox oy : Operand) : aBin Tryd.prog .neq 24 ox oy (cfg p c q g) (cfg p' c' q' g') = some (.bool (!eqL [i64 p, i64 c, i64 q, i64 g] [i64 p', i64 c', i64 q', i64 g'])) :=
  (aBin_struct (P := Tryd.prog) (t := 24) (Ds := [.int .i64, .int .i64, .int .i64, .int .i64]) (by kernel_rfl) [i64 p, i64 c, i64 q, i64 g] [i64 p', i64 c', i64 q', i64 g'] rfl rfl ox oy).2
theorem eqLr (p c q g : Int) : eqL [i64 p, i64 c, i64 q, i64 g] [i64 p, i64 c, i64 q, i64 g] = true := by simp
theorem neW (a b : List UInt8) (ox oy : Operand) : aBin Tryd.prog .neq 9 ox oy (.string (str a)) (.string (str b)) = some (.bool (decide (a ≠ b))) := aBin_strneL ox oy un9 a b
theorem eqW (a b : List UInt8) (ox oy : Operand) : aBin Tryd.prog .eql 9 ox oy (.string (str a)) (.string (str b)) = some (.bool (decide (a = b))) := aBin_streqL ox oy un9 a b
theorem pol_name {s : ByteArray} (h : polOf s ≠ 0) : nameOf (polOf s) = s := by
  unfold polOf at h ⊢
  by_cases h1 : nameOf 1 = s
  · rw [if_pos h1]; exact h1
  rw [if_neg h1] at h ⊢
  by_cases h2 : nameOf 2 = s
  · rw [if_pos h2]; exact h2
  rw [if_neg h2] at h ⊢
  by_cases h3 : nameOf 3 = s
  · rw [if_pos h3]; exact h3
  rw [if_neg h3] at h ⊢
  by_cases h4 : nameOf 4 = s
  · rw [if_pos h4]; exact h4
  rw [if_neg h4] at h
  exact absurd rfl h
theorem name_pol (h : 1 ≤ p ∧ p ≤ 4) : polOf (nameOf p) = p := by
  have : p = 1 ∨ p = 2 ∨ p = 3 ∨ p = 4 := by omega
  rcases this with rfl | rfl | rfl | rfl <;> decide
/-- what was read without an error is told as it was -/
theorem out_text {s : List UInt8} (h : (outOf s).2.2.2.2 = 0) : May (outOf s).1 (outOf s).2.1 (outOf s).2.2.1 (outOf s).2.2.2.1 ∧ textOf (outOf s).1 (outOf s).2.1 (outOf s).2.2.1 (outOf s).2.2.2.1 = s := by
  by_cases h4 : (splitL 32 s).length = 4
  case neg => rw [out_len h4] at h; cases h
  obtain ⟨w0, w1, w2, w3, hw⟩ := four h4
  have hout : outOf s = if polOf (str w0) ≠ 0 ∧ okI w1 = true ∧ okI w2 = true ∧ okI w3 = true then
      (if May (polOf (str w0)) (rdI w1) (rdI w2) (rdI w3) then (polOf (str w0), rdI w1, rdI w2, rdI w3, 0) else (0, 0, 0, 0, 2)) else (0, 0, 0, 0, 7) := by
    unfold outOf; rw [hw]
  by_cases hok : polOf (str w0) ≠ 0 ∧ okI w1 = true ∧ okI w2 = true ∧ okI w3 = true
  case neg => rw [hout, if_neg hok] at h; cases h
  rw [if_pos hok] at hout
  by_cases hm : May (polOf (str w0)) (rdI w1) (rdI w2) (rdI w3)
  case neg => rw [hout, if_neg hm] at h; cases h
  rw [if_pos hm] at hout
  rw [hout]
  refine ⟨hm, ?_⟩
  obtain ⟨h0, h1, h2, h3⟩ := hok
  have e0 : nameL (polOf (str w0)) = w0 := by unfold nameL; rw [pol_name h0]
  show textOf (polOf (str w0)) (rdI w1) (rdI w2) (rdI w3) = s
  unfold textOf
  rw [e0, ← (okI_is h1).2, ← (okI_is h2).2, ← (okI_is h3).2, ← hw, join_splitL]
/-- and what is told is read back -/
theorem text_out (hm : May p c q g) : outOf (textOf p c q g) = (p, c, q, g, 0) := by
  obtain ⟨i1, i2, i3⟩ := may_i64 hm
  have hs : splitL 32 (textOf p c q g) = [nameL p, sdec c, sdec q, sdec g] := by
    unfold textOf
    refine splitL_join (by simp) ?_
    intro x hx
    simp only [List.mem_cons, List.not_mem_nil, or_false] at hx
    rcases hx with rfl | rfl | rfl | rfl
    · exact name_plain p
    · exact sdec_plain c
    · exact sdec_plain q
    · exact sdec_plain g
  have hp : polOf (str (nameL p)) = p := by rw [← nameOf_str]; exact name_pol hm.1
  obtain ⟨k1, k2⟩ := isI_rd (l := sdec c) ⟨i1, rfl⟩
  obtain ⟨k3, k4⟩ := isI_rd (l := sdec q) ⟨i2, rfl⟩
  obtain ⟨k5, k6⟩ := isI_rd (l := sdec g) ⟨i3, rfl⟩
  have hp0 : p ≠ 0 := by have := hm.1; omega
  unfold outOf
  rw [hs]
  simp [hp, k1, k2, k3, k4, k5, k6, hp0, hm]
theorem configReads_run {t : ByteArray} (hg : HasG gs H) (hn : nG ≤ H.next) (_ : IntKind.i64.has p) (_ : IntKind.i64.has c) (_ : IntKind.i64.has q) (_ : IntKind.i64.has g) : CallR cx 5 #[cfg p c q g, .string t] H (fun v _ => v = .bool true) := by
  rw [str_eta t]
  generalize t.data.toList = s
  refine wk5 (by simp) ?_
  unfold c5
  refine aw_cut (fun t => t.env 1 = .string (str s) ∧ t.env 2 = ptr H.next ∧ t.ds = [] ∧ t.H = H.new (cfgB p c q g)) (by simp [AH.new]) ?_
  rintro ⟨env, H1, ds⟩ ⟨e1, e2, eds, hH⟩
  simp only at e1 e2 eds hH
  have hr : H1.get H.next = some (cfgB p c q g) := by rw [hH]; simp
  have hf : Fresh H H1 := by rw [hH]; exact fresh1
  have hlt : H.next < H1.next := by rw [hH]; simp
  have hg1 := hg.fresh gs_lt hn hf
  have hn1 : nG ≤ H1.next := Nat.le_trans hn hf.1
  clear hH
  by_cases hsl : 200 < (s.length : Int)
  · simp [e1, hsl]
    refine callV_R cba (alive_run hg1) ?_
    rintro _ _ ⟨rfl, _⟩
    simp [eds]
  refine aw_cut (fun t => t.env 1 = .string (str s) ∧ t.env 2 = ptr H.next ∧ t.ds = [] ∧ t.H = H1) (by simp [e1, e2, eds, hsl]) ?_
  clear e1 e2 eds
  rintro ⟨env, H2, ds⟩ ⟨e1, e2, eds, hH⟩
  simp only at e1 e2 eds hH
  subst hH
  obtain ⟨x, hx⟩ : ∃ x, x = outOf s := ⟨_, rfl⟩
  obtain ⟨a, b, d, f, e⟩ := x
  -- Parse
  refine aw_cut (fun t => t.env 1 = .string (str s) ∧ t.env 2 = ptr H.next ∧ t.env 5 = ptr (t.H.next - 1) ∧ t.env 6 = i64 e ∧ t.ds = [] ∧ t.H.get (t.H.next - 1) = some (cfgB a b d f) ∧ H2.next < t.H.next ∧ Fresh H2 t.H) ?_ ?_
  · simp [e1]
    refine callV_R cb15 (parse_run hg1 hn1 (by omega)) ?_
    rintro _ H3 ⟨f3, rfl⟩
    rw [← hx]
    simp [e1, e2, eds, alloc24]
    exact ⟨by have := f3.1; omega, fresh_upd (fresh_new f3) f3.1⟩
  clear e1 e2 eds
  rintro ⟨env, H3, ds⟩ ⟨e1, e2, e5, e6, eds, ha, hl3, f3⟩
  simp only at e1 e2 e5 e6 eds ha hl3 f3
  have hA : H3.next - 1 < H3.next := by omega
  have hAr : H2.next ≤ H3.next - 1 := by omega
  generalize H3.next - 1 = A at e5 ha hA hAr
  have hg3 := hg1.fresh gs_lt hn1 f3
  have hn3 : nG ≤ H3.next := by omega
  have r3 : H3.get H.next = some (cfgB p c q g) := by rw [f3.get hlt, hr]
  -- ref.Parse
  refine aw_cut (fun t => t.env 1 = .string (str s) ∧ t.env 2 = ptr H.next ∧ t.env 5 = ptr A ∧ t.env 6 = i64 e ∧ t.env 8 = i64 e ∧ t.ds = [] ∧ t.H.get A = some (cfgB a b d f) ∧ (∃ B, t.env 7 = ptr B ∧ t.H.get B = some (cfgB a b d f)) ∧ Fresh H3 t.H) ?_ ?_
  · simp [e1]
    refine callV_R cb16 (rparse_run (by omega)) ?_
    rintro _ H4 ⟨f4, rfl⟩
    rw [← hx]
    have hne : ¬ A = H4.next := by have := f4.1; omega
    simp [e1, e2, e5, e6, eds, alloc24, hne, f4.get hA, ha]
    exact fresh_upd (fresh_new f4) f4.1
  clear e1 e2 e5 e6 eds
  rintro ⟨env, H4, ds⟩ ⟨e1, e2, e5, e6, e8, eds, ha4, ⟨B, e7, hb4⟩, f4⟩
  simp only at e1 e2 e5 e6 e7 e8 eds ha4 hb4 f4
  have hg4 := hg3.fresh gs_lt hn3 f4
  have hn4 : nG ≤ H4.next := Nat.le_trans hn3 f4.1
  have r4 : H4.get H.next = some (cfgB p c q g) := by rw [f4.get (by omega), r3]
  refine aw_cut (fun t => t.env 1 = .string (str s) ∧ t.env 2 = ptr H.next ∧ t.env 5 = ptr A ∧ t.env 6 = i64 e ∧ t.ds = [] ∧ t.H = H4) ?_ ?_
  · simp [e1, e2, e5, e6, e7, e8, eds, ha4, hb4, ne24, eqLr, -eqL_cons]
  clear e1 e2 e5 e6 e7 e8 eds
  rintro ⟨env, H5, ds⟩ ⟨e1, e2, e5, e6, eds, hH⟩
  simp only at e1 e2 e5 e6 eds hH
  subst hH
  -- what was read is told again
  refine aw_cut (fun t => t.env 2 = ptr H.next ∧ t.ds = [] ∧ Fresh H5 t.H) ?_ ?_
  · by_cases he : e = 0
    · have ho := out_text (s := s) (by rw [← hx]; exact he)
      rw [← hx] at ho
      obtain ⟨hm, htx⟩ := ho
      simp only at hm htx
      simp [e5, e6, he, ha4]
      refine callV_R cb17 (cprint_run hg4 hn4) ?_
      rintro _ H6 ⟨f6, rfl⟩
      rw [if_pos hm, if_pos hm, htx]
      simp [e1, e2, eds, neW, f6]
    · simp [e6, he, e2, eds, Fresh.refl]
  clear e1 e2 e5 e6 eds
  rintro ⟨env, H6, ds⟩ ⟨e2, eds, f6⟩
  simp only at e2 eds f6
  have hg6 := hg4.fresh gs_lt hn4 f6
  have hn6 : nG ≤ H6.next := Nat.le_trans hn4 f6.1
  have hl5 : H.next < H5.next := by have := f4.1; omega
  have r6 : H6.get H.next = some (cfgB p c q g) := by rw [f6.get hl5, r4]
  refine aw_cut (fun t => t.env 2 = ptr H.next ∧ t.env 11 = .string (str (if May p c q g then textOf p c q g else [])) ∧ t.env 12 = i64 (if May p c q g then 0 else 2) ∧ t.ds = [] ∧ Fresh H6 t.H) ?_ ?_
  · simp [e2, r6]
    refine callV_R cb17 (cprint_run hg6 hn6) ?_
    rintro _ H7 ⟨f7, rfl⟩
    simp [e2, eds, f7]
  clear e2 eds
  rintro ⟨env, H7, ds⟩ ⟨e2, e11, e12, eds, f7⟩
  simp only at e2 e11 e12 eds f7
  have hg7 := hg6.fresh gs_lt hn6 f7
  have hn7 : nG ≤ H7.next := Nat.le_trans hn6 f7.1
  have hl6 : H.next < H6.next := Nat.lt_of_lt_of_le hl5 f6.1
  have r7 : H7.get H.next = some (cfgB p c q g) := by rw [f7.get hl6, r6]
  have hl7 : H.next < H7.next := Nat.lt_of_lt_of_le hl6 f7.1
  by_cases hm : May p c q g
  case neg =>
    rw [if_neg hm] at e11 e12
    simp [e2, r7]
    refine callV_R cb9 may_run ?_
    rintro _ H8 ⟨rfl, hH⟩
    have hg8 : HasG gs H8 := by rw [hH]; exact hg7.fresh gs_lt hn7 fresh1
    simp [hm, e11, e12, noText, eqW]
    refine callV_R cba (alive_run hg8) ?_
    rintro _ _ ⟨rfl, _⟩
    simp [eds]
  rw [if_pos hm] at e11 e12
  refine aw_cut (fun t => t.env 2 = ptr H.next ∧ t.env 11 = .string (str (textOf p c q g)) ∧ t.env 12 = i64 0 ∧ t.ds = [] ∧ Fresh H7 t.H) ?_ ?_
  · simp [e2, r7]
    refine callV_R cb9 may_run ?_
    rintro _ H8 ⟨rfl, hH⟩
    have f8 : Fresh H7 H8 := by rw [hH]; exact fresh1
    simp [hm, e2, e11, e12, eds, f8]
  clear e2 e11 e12 eds
  rintro ⟨env, H8, ds⟩ ⟨e2, e11, e12, eds, f8⟩
  simp only at e2 e11 e12 eds f8
  have hg8 := hg7.fresh gs_lt hn7 f8
  have hn8 : nG ≤ H8.next := Nat.le_trans hn7 f8.1
  have r8 : H8.get H.next = some (cfgB p c q g) := by rw [f8.get hl7, r7]
  have hl8 : H.next < H8.next := Nat.lt_of_lt_of_le hl7 f8.1
  refine aw_cut (fun t => t.env 2 = ptr H.next ∧ t.env 11 = .string (str (textOf p c q g)) ∧ t.env 12 = i64 0 ∧ t.env 14 = i64 0 ∧ t.ds = [] ∧ (∃ C, t.env 13 = ptr C ∧ t.H.get C = some (cfgB p c q g) ∧ C < t.H.next) ∧ Fresh H8 t.H) ?_ ?_
  · simp [e11]
    refine callV_R cb15 (parse_run hg8 hn8 (by have := text_len hm; omega)) ?_
    rintro _ H9 ⟨f9, rfl⟩
    rw [text_out hm]
    simp [e2, e11, e12, eds, alloc24]
    exact fresh_upd (fresh_new f9) f9.1
  clear e2 e11 e12 eds
  rintro ⟨env, H9, ds⟩ ⟨e2, e11, e12, e14, eds, ⟨C, e13, hc9, hlC⟩, f9⟩
  simp only at e2 e11 e12 e13 e14 eds hc9 hlC f9
  have hg9 := hg8.fresh gs_lt hn8 f9
  have hn9 : nG ≤ H9.next := Nat.le_trans hn8 f9.1
  have r9 : H9.get H.next = some (cfgB p c q g) := by rw [f9.get hl8, r8]
  have hl9 : H.next < H9.next := Nat.lt_of_lt_of_le hl8 f9.1
  simp [e2, e11, r9]
  refine callV_R cb18 (crprint_run hm) ?_
  rintro _ H10 ⟨f10, rfl⟩
  have hg10 := hg9.fresh gs_lt hn9 f10
  simp [e2, e11, e12, e13, e14, eqW, f10.get hl9, f10.get hlC, r9, hc9, eq24, eqLr, -eqL_cons]
  refine callV_R cba (alive_run hg10) ?_
  rintro _ _ ⟨rfl, _⟩
  simp [eds]
end Go.Proofs.YtafgdjalepnfmaaDoor.C

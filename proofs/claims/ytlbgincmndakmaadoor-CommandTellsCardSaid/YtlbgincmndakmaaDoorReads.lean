/- config.Parse and the document's, over the small heap. Own text of this session. -/
import Derived.Test.YtlbgincmndakmaaDoorA20
import Derived.Test.YtlbgincmndakmaaDoorChecks
import Derived.Test.YtlbgincmndakmaaDoorNum2
import Derived.Test.YtlbgincmndakmaaDoorWords
set_option linter.unusedVariables false
set_option linter.unusedSimpArgs false
set_option maxRecDepth 4000
set_option maxHeartbeats 4000000
namespace Go.Proofs.YtlbgincmndakmaaDoor.C
open Go Go.RowKit Go.Proofs.YtlbgincmndakmaaDoorA Go.Proofs.YtlbgincmndakmaaDoor.Plain
variable {H : AH}
theorem sdec_inj {i j : Int} (h : sdec i = sdec j) : i = j := by
  unfold sdec at h
  by_cases hi : i < 0 <;> by_cases hj : j < 0
  · rw [if_pos hi, if_pos hj] at h
    have := dec_inj (List.cons.inj h).2
    omega
  · rw [if_pos hi, if_neg hj] at h
    exact absurd (by rw [← h]; rfl) (dec_no45 j.toNat)
  · rw [if_neg hi, if_pos hj] at h
    exact absurd (by rw [h]; rfl) (dec_no45 i.toNat)
  · rw [if_neg hi, if_neg hj] at h
    have := dec_inj h
    omega
open Classical in
noncomputable def rdI (l : List UInt8) : Int := if h : ∃ i, IsI l i then h.choose else 0
open Classical in
noncomputable def okI (l : List UInt8) : Bool := decide (∃ i, IsI l i)
theorem okI_is {l : List UInt8} (h : okI l = true) : IsI l (rdI l) := by
  have h1 : ∃ i, IsI l i := by simpa [okI] using h
  unfold rdI
  rw [dif_pos h1]
  exact h1.choose_spec
theorem isI_rd {l : List UInt8} {i : Int} (h : IsI l i) : okI l = true ∧ rdI l = i := by
  have h1 : okI l = true := by simp only [okI, decide_eq_true_eq]; exact ⟨i, h⟩
  exact ⟨h1, sdec_inj ((okI_is h1).2.symm.trans h.2)⟩
theorem told_fun {l : List UInt8} {v : Value} (h : ToldI l v) : v = .tuple #[i64 (rdI l), .bool (okI l)] := by
  rcases h with ⟨i, hi, rfl⟩ | ⟨hn, rfl⟩
  · obtain ⟨h1, h2⟩ := isI_rd hi
    rw [h1, h2]
  · have h1 : ¬ ∃ i, IsI l i := fun ⟨i, h⟩ => hn i h
    have h2 : okI l = false := by simp only [okI, decide_eq_false_iff_not]; exact h1
    have h3 : rdI l = 0 := by unfold rdI; rw [dif_neg h1]
    rw [h2, h3]
/-- what a text is read as: the config, and the error's number -/
noncomputable def outOf (s : List UInt8) : Int × Int × Int × Int × Int := match splitL 32 s with
  | [w0, w1, w2, w3] => if polOf (str w0) ≠ 0 ∧ okI w1 = true ∧ okI w2 = true ∧ okI w3 = true then
      (if May (polOf (str w0)) (rdI w1) (rdI w2) (rdI w3) then (polOf (str w0), rdI w1, rdI w2, rdI w3, 0) else (0, 0, 0, 0, 2)) else (0, 0, 0, 0, 7)
  | _ => (0, 0, 0, 0, 7)
abbrev outV (x : Int × Int × Int × Int × Int) : Value := .tuple #[cfg x.1 x.2.1 x.2.2.1 x.2.2.2.1, i64 x.2.2.2.2]
theorem out_len {s : List UInt8} (h : (splitL 32 s).length ≠ 4) : outOf s = (0, 0, 0, 0, 7) := by
  unfold outOf
  split
  · rename_i e; rw [e] at h; simp at h
  · rfl
theorem four {l : List (List UInt8)} (h : l.length = 4) : ∃ w0 w1 w2 w3, l = [w0, w1, w2, w3] := by match l, h with | [a, b, c, d], _ => exact ⟨a, b, c, d, rfl⟩
theorem row_at4 {own : Bool} {H : AH} {sv : Value} {w0 w1 w2 w3 : List UInt8} {l : Nat} (h : Row 9 own H sv (strs [w0, w1, w2, w3]) (some l)) :
    ∃ o cs, sv = sl l o 4 ∧ H.get l = some (.cells cs 9 own 1) ∧ cs[o]? = some (.string (str w0)) ∧ cs[o + 1]? = some (.string (str w1)) ∧ cs[o + 2]? = some (.string (str w2)) ∧ cs[o + 3]? = some (.string (str w3)) ∧ o + 4 ≤ cs.length := by
  obtain ⟨o, cs, h1, h2, h3, h4, h5⟩ := h
  have at_ := fun i (hi : i < (strs [w0, w1, w2, w3]).length) => row_at h3 hi
  exact ⟨o, cs, h1, h2, at_ 0 (by simp), at_ 1 (by simp), at_ 2 (by simp), at_ 3 (by simp), by simpa using h4⟩
theorem ix54' (l o n c : Nat) (j : Nat) (h : j < n) : aIndexAddr Tryd.prog 54 (.slice (some ⟨l, o, none⟩) n c) (.int .i64 (j : Int)) = some (.pointer (some ⟨l, o + j, none⟩)) := by
  rw [ix54 l o n c .i64 j (by omega) (by omega)]
  simp
theorem alloc27 (H : AH) : aAlloc Tryd.prog 27 H = some (ptr H.next, ⟨H.next + 1, upd H.get H.next (cfgB 0 0 0 0)⟩) := by kernel_rfl
theorem fresh_upd {H H' : AH} {b : ABlk} {l : Nat} (h : Fresh H H') (hl : H.next ≤ l) : Fresh H ⟨H'.next, upd H'.get l b⟩ := ⟨h.1, fun x hx _ => by
  have : ¬ x = l := by omega
  simp only [upd_get, this, if_false]
  exact h.get hx⟩
theorem fresh_new {H H' : AH} {b : ABlk} (h : Fresh H H') : Fresh H ⟨H'.next + 1, upd H'.get H'.next b⟩ := h.trans Fresh.ofNew
/-- ref.Parse -/
theorem rparse_run {s : List UInt8} (hs : s.length < 1000000) : CallR cx 38 #[.string (str s)] H (fun v H' => Fresh H H' ∧ v = outV (outOf s)) := by
  refine wk38 (by simp) ?_
  unfold c38
  -- the words
  refine aw_cut (fun t => t.env 0 = .string (str s) ∧ t.env 2 = ptr H.next ∧ t.ds = [] ∧ t.H.get H.next = some (cfgB 0 0 0 0) ∧ H.next < t.H.next ∧ Fresh H t.H) ?_ ?_
  · simp [alloc27, Fresh.ofNew]
  rintro ⟨env, H1, ds⟩ ⟨e0, e2, eds, hr, hlt, hf⟩
  simp only at e0 e2 eds hr hlt hf
  refine aw_cut (fun t => t.env 2 = ptr H.next ∧ t.ds = [] ∧ t.H.get H.next = some (cfgB 0 0 0 0) ∧ H.next < t.H.next ∧ Fresh H t.H ∧ ∃ O, Row 9 true t.H (t.env 4) (strs (splitL 32 s)) O) ?_ ?_
  · simp [e0]
    refine callV_R cb35 (rwords_run hs) ?_
    rintro v H2 ⟨hf2, O, hrow, _⟩
    simp [e2, eds, hf2.get hlt, hr, hf.trans hf2]
    exact ⟨Nat.lt_of_lt_of_le hlt hf2.1, O, hrow⟩
  clear e0 e2 eds hr hlt hf
  rintro ⟨env, H1, ds⟩ ⟨e2, eds, hr, hlt, hf, O, hrow⟩
  simp only at e2 eds hr hlt hf hrow
  generalize e4 : env 4 = wv at hrow
  by_cases h4 : (splitL 32 s).length = 4
  case neg =>
    have hout := out_len h4
    obtain ⟨a, rfl, _⟩ := hrow.isSlice
    simp only [strs_length] at e4
    have h4' : ¬ ((splitL 32 s).length : Int) = 4 := by omega
    simp [e4, h4', e2, hr, eds, hout]
    exact fresh_upd hf (Nat.le_refl _)
  obtain ⟨w0, w1, w2, w3, hw⟩ := four h4
  rw [hw] at hrow
  cases O with
  | none => exact absurd hrow.2 (by simp [strs])
  | some lw =>
  obtain ⟨o, cs, rfl, g0, gw0, gw1, gw2, gw3, _⟩ := row_at4 hrow
  have hlw : lw < H1.next := hrow.low
  have i0 := ix54' lw o 4 4 0 (by omega)
  have i1 := ix54' lw o 4 4 1 (by omega)
  have i2 := ix54' lw o 4 4 2 (by omega)
  have i3 := ix54' lw o 4 4 3 (by omega)
  simp only [Int.natCast_zero, Int.cast_ofNat_Int, Nat.add_zero] at i0 i1 i2 i3
  have hne : lw ≠ H.next := fun e => by rw [e, hr] at g0; cases g0
  have hout : outOf s = if polOf (str w0) ≠ 0 ∧ okI w1 = true ∧ okI w2 = true ∧ okI w3 = true then
      (if May (polOf (str w0)) (rdI w1) (rdI w2) (rdI w3) then (polOf (str w0), rdI w1, rdI w2, rdI w3, 0) else (0, 0, 0, 0, 2)) else (0, 0, 0, 0, 7) := by
    unfold outOf; rw [hw]
  have bad : ∀ {H' : AH}, Fresh H1 H' → Fresh H ⟨H'.next, upd H'.get H.next (cfgB 0 0 0 0)⟩ := fun h => fresh_upd (hf.trans h) (Nat.le_refl _)
  by_cases hp : polOf (str w0) = 0
  · have hout' : outOf s = (0, 0, 0, 0, 7) := by rw [hout, if_neg (by simp [hp])]
    simp [e4, i0, g0, gw0]
    refine callV_R cb60 rpolicy_run ?_
    rintro _ H2 ⟨rfl, rfl⟩
    simp [hp, e2, hr, eds, hout']
    exact bad Fresh.refl
  refine aw_cut (fun t => t.env 2 = ptr H.next ∧ t.env 4 = sl lw o 4 ∧ t.ds = [] ∧ t.H = H1) ?_ ?_
  · simp [e4, i0, g0, gw0]
    refine callV_R cb60 rpolicy_run ?_
    rintro _ H2 ⟨rfl, rfl⟩
    simp [hp, e2, e4, eds]
  clear e2 e4 eds
  rintro ⟨env, H1', ds⟩ ⟨e2, e4, eds, hH⟩
  simp only at e2 e4 eds hH
  obtain rfl : H1 = H1' := hH.symm
  -- three numbers
  refine aw_cut (fun t => t.env 2 = ptr H.next ∧ t.env 4 = sl lw o 4 ∧ t.env 5 = i64 (rdI w1) ∧ t.env 6 = .bool (okI w1) ∧ t.ds = [] ∧ Fresh H1 t.H) ?_ ?_
  · simp [e4, i1, g0, gw1]
    refine callV_R cb61 rreadInt_run ?_
    rintro v H2 ⟨hf2, hv⟩
    obtain rfl := told_fun hv
    simp [e2, e4, eds, hf2]
  clear e2 e4 eds
  rintro ⟨env, H2, ds⟩ ⟨e2, e4, e5, e6, eds, hf2⟩
  simp only at e2 e4 e5 e6 eds hf2
  refine aw_cut (fun t => t.env 2 = ptr H.next ∧ t.env 4 = sl lw o 4 ∧ t.env 5 = i64 (rdI w1) ∧ t.env 6 = .bool (okI w1) ∧ t.env 7 = i64 (rdI w2) ∧ t.env 8 = .bool (okI w2) ∧ t.ds = [] ∧ Fresh H1 t.H) ?_ ?_
  · simp [e4, i2, hf2.get hlw, g0, gw2]
    refine callV_R cb61 rreadInt_run ?_
    rintro v H3 ⟨hf3, hv⟩
    obtain rfl := told_fun hv
    simp [e2, e4, e5, e6, eds, hf2.trans hf3]
  clear e2 e4 e5 e6 eds hf2
  rintro ⟨env, H2, ds⟩ ⟨e2, e4, e5, e6, e7, e8, eds, hf2⟩
  simp only at e2 e4 e5 e6 e7 e8 eds hf2
  refine aw_cut (fun t => t.env 2 = ptr H.next ∧ t.env 4 = sl lw o 4 ∧ t.env 5 = i64 (rdI w1) ∧ t.env 6 = .bool (okI w1) ∧ t.env 7 = i64 (rdI w2) ∧ t.env 8 = .bool (okI w2) ∧ t.env 9 = i64 (rdI w3) ∧ t.env 10 = .bool (okI w3) ∧ t.ds = [] ∧ Fresh H1 t.H) ?_ ?_
  · simp [e4, i3, hf2.get hlw, g0, gw3]
    refine callV_R cb61 rreadInt_run ?_
    rintro v H3 ⟨hf3, hv⟩
    obtain rfl := told_fun hv
    simp [e2, e4, e5, e6, e7, e8, eds, hf2.trans hf3]
  clear e2 e4 e5 e6 e7 e8 eds hf2
  rintro ⟨env, H2, ds⟩ ⟨e2, e4, e5, e6, e7, e8, e9, e10, eds, hf2⟩
  simp only at e2 e4 e5 e6 e7 e8 e9 e10 eds hf2
  have hr2 : H2.get H.next = some (cfgB 0 0 0 0) := by rw [hf2.get hlt, hr]
  by_cases hok : okI w1 = true ∧ okI w2 = true ∧ okI w3 = true
  case neg =>
    have hout' : outOf s = (0, 0, 0, 0, 7) := by rw [hout, if_neg (fun h => hok h.2)]
    refine aw_mono _ (Q := fun e s1 => e = .ret ∧ s1.env 2 = ptr H.next ∧ s1.env 3 = i64 7 ∧ s1.ds = [] ∧ s1.H = ⟨H2.next, upd H2.get H.next (cfgB 0 0 0 0)⟩) ?_ ?_
    · rintro e s1 ⟨rfl, h2, h3, hd, hH⟩
      simp [h2, h3, hd, hH, hout', bad hf2]
    · cases h1 : okI w1 with
      | false => simp [e2, e6, h1, eds, hr2]
      | true => cases h2 : okI w2 with
        | false => simp [e2, e6, e8, h1, h2, eds, hr2]
        | true => cases h3 : okI w3 with
          | false => simp [e2, e6, e8, e10, h1, h2, h3, eds, hr2]
          | true => exact absurd ⟨h1, h2, h3⟩ hok
  obtain ⟨h1, h2, h3⟩ := hok
  rw [if_pos ⟨hp, h1, h2, h3⟩] at hout
  refine aw_cut (fun t => t.env 2 = ptr H.next ∧ t.env 4 = sl lw o 4 ∧ t.env 5 = i64 (rdI w1) ∧ t.env 7 = i64 (rdI w2) ∧ t.env 9 = i64 (rdI w3) ∧ t.ds = [] ∧ t.H = H2) (by simp [e2, e4, e5, e6, e7, e8, e9, e10, h1, h2, h3, eds]) ?_
  clear e2 e4 e5 e6 e7 e8 e9 e10 eds
  rintro ⟨env, H3, ds⟩ ⟨e2, e4, e5, e7, e9, eds, hH⟩
  simp only at e2 e4 e5 e7 e9 eds hH
  subst hH
  have hlt2 : H.next < H3.next := Nat.lt_of_lt_of_le hlt hf2.1
  simp [e4, i0, hf2.get hlw, g0, gw0]
  refine callV_R cb60 rpolicy_run ?_
  rintro _ H4 ⟨rfl, hH⟩
  subst hH
  simp [e5, e7, e9, alloc27]
  refine callV_R cb25 may_run ?_
  rintro _ H5 ⟨rfl, rfl⟩
  have hne2 : ¬ H.next = H4.next := by omega
  have hne3 : ¬ H.next = H4.next + 1 := by omega
  by_cases hm : May (polOf (str w0)) (rdI w1) (rdI w2) (rdI w3)
  · rw [if_pos hm] at hout
    simp [hm, e2, eds, hout, hr2, hne2, hne3]
    refine ⟨by have := (hf.trans hf2).1; simp only; omega, fun x hx _ => ?_⟩
    have hl := (hf.trans hf2).1
    have hx1 : ¬ x = H.next ∧ ¬ x = H4.next ∧ ¬ x = H4.next + 1 := by omega
    simp only [upd_get, hx1.1, hx1.2.1, hx1.2.2, if_false]
    exact (hf.trans hf2).get hx
  · rw [if_neg hm] at hout
    simp [hm, e2, eds, hout, hr2, hne2, hne3]
    refine ⟨by have := (hf.trans hf2).1; simp only; omega, fun x hx _ => ?_⟩
    have hl := (hf.trans hf2).1
    have hx1 : ¬ x = H.next ∧ ¬ x = H4.next ∧ ¬ x = H4.next + 1 := by omega
    simp only [upd_get, hx1.1, hx1.2.1, hx1.2.2, if_false]
    exact (hf.trans hf2).get hx
/-- the words' numbers -/
def wd (w1 w2 w3 : List UInt8) : Nat → List UInt8
  | 0 => w1
  | 1 => w2
  | _ => w3
/-- config.Parse -/
theorem parse_run {s : List UInt8} (hg : HasG gs H) (hn : nG ≤ H.next) (hs : s.length < 1000000) : CallR cx 29 #[.string (str s)] H (fun v H' => Fresh H H' ∧ v = outV (outOf s)) := by
  refine wk29 (by simp) ?_
  unfold c29
  refine aw_cut (fun t => t.env 0 = .string (str s) ∧ t.env 2 = ptr H.next ∧ t.ds = [] ∧ t.H.get H.next = some (cfgB 0 0 0 0) ∧ H.next < t.H.next ∧ Fresh H t.H) ?_ ?_
  · simp [alloc27, Fresh.ofNew]
  rintro ⟨env, H1, ds⟩ ⟨e0, e2, eds, hr, hlt, hf⟩
  simp only at e0 e2 eds hr hlt hf
  refine aw_cut (fun t => t.env 2 = ptr H.next ∧ t.ds = [] ∧ t.H.get H.next = some (cfgB 0 0 0 0) ∧ H.next < t.H.next ∧ Fresh H t.H ∧ ∃ O, Row 9 true t.H (t.env 4) (strs (splitL 32 s)) O) ?_ ?_
  · simp [e0]
    refine callV_R cb26 (words_run hs) ?_
    rintro v H2 ⟨hf2, hrow⟩
    simp [e2, eds, hf2.get hlt, hr, hf.trans hf2]
    exact ⟨Nat.lt_of_lt_of_le hlt hf2.1, _, hrow⟩
  clear e0 e2 eds hr hlt hf
  rintro ⟨env, H1, ds⟩ ⟨e2, eds, hr, hlt, hf, O, hrow⟩
  simp only at e2 eds hr hlt hf hrow
  generalize e4 : env 4 = wv at hrow
  have hg1 := hg.fresh gs_lt hn hf
  by_cases h4 : (splitL 32 s).length = 4
  case neg =>
    have hout := out_len h4
    obtain ⟨a, rfl, _⟩ := hrow.isSlice
    simp only [strs_length] at e4
    have h4' : ¬ ((splitL 32 s).length : Int) = 4 := by omega
    simp [e4, h4', e2, hr, eds, hout]
    exact fresh_upd hf (Nat.le_refl _)
  obtain ⟨w0, w1, w2, w3, hw⟩ := four h4
  rw [hw] at hrow
  cases O with
  | none => exact absurd hrow.2 (by simp [strs])
  | some lw =>
  obtain ⟨o, cs, rfl, g0, gw0, gw1, gw2, gw3, hol⟩ := row_at4 hrow
  have hlw : lw < H1.next := hrow.low
  have i0 := ix54' lw o 4 4 0 (by omega)
  simp only [Int.natCast_zero, Int.cast_ofNat_Int, Nat.add_zero] at i0
  have hne : lw ≠ H.next := fun e => by rw [e, hr] at g0; cases g0
  have hout : outOf s = if polOf (str w0) ≠ 0 ∧ okI w1 = true ∧ okI w2 = true ∧ okI w3 = true then
      (if May (polOf (str w0)) (rdI w1) (rdI w2) (rdI w3) then (polOf (str w0), rdI w1, rdI w2, rdI w3, 0) else (0, 0, 0, 0, 2)) else (0, 0, 0, 0, 7) := by
    unfold outOf; rw [hw]
  refine aw_cut (fun t => t.env 2 = ptr H.next ∧ t.env 4 = sl lw o 4 ∧ t.ds = [] ∧ t.H = H1) (by simp [e2, e4, eds]) ?_
  clear e2 e4 eds
  rintro ⟨env, H2, ds⟩ ⟨e2, e4, eds, hH⟩
  simp only at e2 e4 eds hH
  subst hH
  refine aw_cut (fun t => t.env 2 = ptr H.next ∧ t.env 4 = sl lw o 4 ∧ t.env 5 = i64 (polOf (str w0)) ∧ t.env 6 = .bool (decide (polOf (str w0) ≠ 0)) ∧ t.ds = [] ∧ t.H = H2) ?_ ?_
  · simp [e4, i0, g0, gw0]
    refine callV_R cb52 (policy_run hg1) ?_
    rintro _ H3 ⟨rfl, hH⟩
    subst hH
    simp [e2, e4, eds]
  clear e2 e4 eds
  rintro ⟨env, H3, ds⟩ ⟨e2, e4, e5, e6, eds, hH⟩
  simp only at e2 e4 e5 e6 eds hH
  subst hH
  -- the three numbers' places
  refine aw_cut (fun t => t.env 2 = ptr H.next ∧ t.env 4 = sl lw o 4 ∧ t.env 5 = i64 (polOf (str w0)) ∧ t.env 6 = .bool (decide (polOf (str w0) ≠ 0)) ∧ t.env 7 = ptr H3.next ∧ t.ds = [] ∧ t.H = H3.new (.cells [i64 0, i64 0, i64 0] 95 true 0)) ?_ ?_
  · have ha : aAlloc Tryd.prog 95 H3 = some (ptr H3.next, H3.new (.cells [i64 0, i64 0, i64 0] 95 true 0)) := by kernel_rfl
    simp [ha, e2, e4, e5, e6, eds]
  clear e2 e4 e5 e6 eds
  rintro ⟨env, H4, ds⟩ ⟨e2, e4, e5, e6, e7, eds, hH⟩
  simp only at e2 e4 e5 e6 e7 eds hH
  subst hH
  let nums : Nat → List Value := fun k => (List.range 3).map fun j => if j < k then i64 (rdI (wd w1 w2 w3 j)) else i64 0
  refine aw_cut (fun t => t.env 2 = ptr H.next ∧ t.env 4 = sl lw o 4 ∧ t.env 5 = i64 (polOf (str w0)) ∧ t.env 6 = .bool (decide (polOf (str w0) ≠ 0) && (okI w1 && (okI w2 && okI w3))) ∧ t.env 7 = ptr H3.next ∧ t.ds = [] ∧ t.H.get H3.next = some (.cells [i64 (rdI w1), i64 (rdI w2), i64 (rdI w3)] 95 true 0) ∧ Fresh H3 t.H ∧ H3.next < t.H.next) ?_ ?_
  · have hsl : aSlice Tryd.prog 54 (sl lw o 4) (some (i64 1)) none (H3.new (.cells [i64 0, i64 0, i64 0] 95 true 0)) = some (sl lw (o + 1) 3) := by
      have hb : bnd none 4 4 = some 4 := by simp [bnd]
      have ha : bnd (some (i64 1)) 0 4 = some 1 := by simp [bnd]
      have hne : ¬ lw = H3.next := by omega
      simp [aSlice, un54, hb, ha, sz9, hne, g0, hol]
    simp [e2, e4, hsl]
    refine aw_loop_to 3 (fun k t => t.env 2 = ptr H.next ∧ t.env 4 = sl lw o 4 ∧ t.env 5 = i64 (polOf (str w0)) ∧ t.env 6 = .bool (decide (polOf (str w0) ≠ 0) && (List.range k).all fun j => okI (wd w1 w2 w3 j)) ∧ t.env 7 = ptr H3.next ∧ t.env 28 = sl lw (o + 1) 3 ∧ t.env 29 = i64 3 ∧ t.env 30 = i64 (k : Nat) ∧ t.ds = [] ∧ t.H.get H3.next = some (.cells (nums k) 95 true 0) ∧ Fresh H3 t.H ∧ H3.next < t.H.next) ?_ ?_ ?_
    · clear e2 e4 e5 e6 e7 eds
      rintro k ⟨env, H5, ds⟩ hk ⟨e2, e4, e5, e6, e7, e28, e29, e30, eds, hnb, hf5, hlt5⟩
      simp only at e2 e4 e5 e6 e7 e28 e29 e30 eds hnb hf5 hlt5
      have hk3 : (k : Int) < 3 := by omega
      have hw : IntKind.i64.wrap ((k : Int) + 1) = ((k + 1 : Nat) : Int) := by rw [w64 (by omega)]; push_cast; rfl
      have hix := ix54' lw (o + 1) 3 3 k hk
      have hcell : cs[o + 1 + k]? = some (.string (str (wd w1 w2 w3 k))) := by
        have : k = 0 ∨ k = 1 ∨ k = 2 := by omega
        rcases this with rfl | rfl | rfl
        · exact gw1
        · exact gw2
        · exact gw3
      have hgl : H5.get lw = some (ABlk.cells cs 9 true 1) := by rw [hf5.get hlw, g0]
      have hixa := aIndexAddr_array (P := Tryd.prog) un95 (by kernel_rfl : sz Tryd.prog 3 = some 1) H3.next 0 .i64 (k : Int) (by omega) (by omega)
      simp [e28, e29, e30, hk3, hix, hgl, hcell]
      refine callV_R cb53 readInt_run ?_
      rintro v H6 ⟨hH6, hv⟩
      obtain rfl := told_fun hv
      subst hH6
      have hnl : (nums k).length = 3 := by simp [nums]
      have hwr := wr_of (v := i64 (rdI (wd w1 w2 w3 k))) hnb (by rw [hnl]; exact hk) rfl
      have hset : (nums k).set k (i64 (rdI (wd w1 w2 w3 k))) = nums (k + 1) := by
        have : k = 0 ∨ k = 1 ∨ k = 2 := by omega
        rcases this with rfl | rfl | rfl <;> rfl
      rw [hset] at hwr
      have hall : (decide (polOf (str w0) ≠ 0) && (List.range (k + 1)).all fun j => okI (wd w1 w2 w3 j)) = ((decide (polOf (str w0) ≠ 0) && (List.range k).all fun j => okI (wd w1 w2 w3 j)) && okI (wd w1 w2 w3 k)) := by
        rw [List.range_succ, List.all_append, Bool.and_assoc]
        simp
      rw [hall]
      generalize (decide (polOf (str w0) ≠ 0) && (List.range k).all fun j => okI (wd w1 w2 w3 j)) = b at e6
      have e6' : env 6 = .bool b := e6
      have hfin := fresh_upd (b := .cells (nums (k + 1)) 95 true 0) hf5 (Nat.le_refl _)
      cases b with
      | false =>
        simp [e2, e4, e5, e6', e7, e28, e29, e30, hixa, hwr, hw, eds, -AH.wrs]
        exact ⟨hfin, hlt5⟩
      | true =>
        simp [e2, e4, e5, e6', e7, e28, e29, e30, hixa, hwr, hw, eds, -AH.wrs]
        exact ⟨hfin, hlt5⟩
    · clear e2 e4 e5 e6 e7 eds
      rintro ⟨env, H5, ds⟩ ⟨e2, e4, e5, e6, e7, e28, e29, e30, eds, hnb, hf5, hlt5⟩
      simp only at e2 e4 e5 e6 e7 e28 e29 e30 eds hnb hf5 hlt5
      simp [e2, e4, e5, e6, e7, e28, e29, e30, hnb, hf5, hlt5, eds]
      refine ⟨?_, rfl⟩
      have : (List.range 3).all (fun j => okI (wd w1 w2 w3 j)) = (okI w1 && (okI w2 && okI w3)) := by
        show (okI w1 && (okI w2 && (okI w3 && true))) = _
        simp
      rw [this]
    · simp [e5, e6, e7, eds, Fresh.ofNew]
      exact ⟨e2, e4, rfl, Fresh.ofNew⟩
  clear e2 e4 e5 e6 e7 eds
  rintro ⟨env, H4, ds⟩ ⟨e2, e4, e5, e6, e7, eds, hnb, hf4, hlt4⟩
  simp only at e2 e4 e5 e6 e7 eds hnb hf4 hlt4
  have hltr : H.next < H3.next := hlt
  have hr4 : H4.get H.next = some (cfgB 0 0 0 0) := by rw [hf4.get hltr, hr]
  by_cases hok : polOf (str w0) ≠ 0 ∧ okI w1 = true ∧ okI w2 = true ∧ okI w3 = true
  case neg =>
    have hout' : outOf s = (0, 0, 0, 0, 7) := by rw [hout, if_neg hok]
    have hb : (decide (polOf (str w0) ≠ 0) && (okI w1 && (okI w2 && okI w3))) = false := by
      rw [Bool.eq_false_iff]
      intro h
      simp only [Bool.and_eq_true, decide_eq_true_eq] at h
      exact hok ⟨h.1, h.2.1, h.2.2.1, h.2.2.2⟩
    rw [hb] at e6
    simp [e2, e6, hr4, eds, hout']
    exact fresh_upd (hf.trans hf4) (Nat.le_refl _)
  have hb : (decide (polOf (str w0) ≠ 0) && (okI w1 && (okI w2 && okI w3))) = true := by
    obtain ⟨h0, h1, h2, h3⟩ := hok
    simp [h0, h1, h2, h3]
  rw [hb] at e6
  rw [if_pos hok] at hout
  have hx := fun (j : Nat) (hj : j < 3) => aIndexAddr_array (P := Tryd.prog) un95 (by kernel_rfl : sz Tryd.prog 3 = some 1) H3.next 0 .i64 (j : Int) (by omega) (by omega)
  have hx0 := hx 0 (by omega)
  have hx1 := hx 1 (by omega)
  have hx2 := hx 2 (by omega)
  simp only [Int.natCast_zero, Int.cast_ofNat_Int, Int.toNat_natCast, Nat.mul_one, Nat.zero_add, Int.natCast_one, Int.toNat_one, Int.toNat_zero] at hx0 hx1 hx2
  refine aw_cut (fun t => t.env 2 = ptr H.next ∧ t.env 5 = i64 (polOf (str w0)) ∧ t.env 7 = ptr H3.next ∧ t.ds = [] ∧ t.H = H4) (by simp [e2, e5, e6, e7, eds]) ?_
  clear e2 e4 e5 e6 e7 eds
  rintro ⟨env, H5, ds⟩ ⟨e2, e5, e7, eds, hH⟩
  simp only at e2 e5 e7 eds hH
  subst hH
  simp [e5, e7, hx0, hx1, hx2, hnb, alloc27]
  refine callV_R cb46 check_run ?_
  rintro _ H6 ⟨rfl, rfl⟩
  have hff := hf.trans hf4
  have hl := hff.1
  have hne2 : ¬ H.next = H5.next := by omega
  have hne3 : ¬ H.next = H5.next + 1 := by omega
  by_cases hm : May (polOf (str w0)) (rdI w1) (rdI w2) (rdI w3)
  · rw [if_pos hm] at hout
    simp [hm, e2, eds, hout, hr4, hne2, hne3]
    refine ⟨by simp only; omega, fun x hx _ => ?_⟩
    have hx1 : ¬ x = H.next ∧ ¬ x = H5.next ∧ ¬ x = H5.next + 1 := by omega
    simp only [upd_get, hx1.1, hx1.2.1, hx1.2.2, if_false]
    exact hff.get hx
  · rw [if_neg hm] at hout
    simp [hm, e2, eds, hout, hr4, hne2, hne3]
    refine ⟨by simp only; omega, fun x hx _ => ?_⟩
    have hx1 : ¬ x = H.next ∧ ¬ x = H5.next ∧ ¬ x = H5.next + 1 := by omega
    simp only [upd_get, hx1.1, hx1.2.1, hx1.2.2, if_false]
    exact hff.get hx
end Go.Proofs.YtlbgincmndakmaaDoor.C

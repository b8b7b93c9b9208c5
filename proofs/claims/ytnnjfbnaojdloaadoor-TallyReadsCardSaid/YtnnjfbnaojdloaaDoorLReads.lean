/- TallyReads: counts that are told are read back; any text is some counts', or none. Own text of this session. -/
import Derived.Test.YtnnjfbnaojdloaaDoorRd
import Derived.Test.YtnnjfbnaojdloaaDoorA20
set_option linter.unusedVariables false
set_option linter.unusedSimpArgs false
set_option maxRecDepth 4000
set_option maxHeartbeats 8000000
namespace Go.Proofs.YtnnjfbnaojdloaaDoor.C
open Go Go.RowKit Go.Proofs.YtnnjfbnaojdloaaDoorA Go.Proofs.YtnnjfbnaojdloaaDoor.Plain
variable {H : AH}
theorem fitsC : ∀ (m : Nat) (ns : List Int), ns.length = m → fitsL (List.replicate m (.int .u64)) (cnts ns) = true
  | 0, [], _ => rfl
  | m + 1, n :: ns, h => by
    have ih := fitsC m ns (by simpa using h)
    show (fits (.int .u64) (u64 n) && fitsL (List.replicate m (.int .u64)) (cnts ns)) = true
    rw [ih]
    rfl
theorem eqLC : ∀ (ns ms : List Int), eqL (cnts ns) (cnts ms) = decide (ns = ms)
  | [], [] => rfl
  | [], m :: ms => by simp [cnts, eqL]
  | n :: ns, [] => by simp [cnts, eqL]
  | n :: ns, m :: ms => by
    have ih := eqLC ns ms
    show (decide (n = m) && eqL (cnts ns) (cnts ms)) = _
    rw [ih]
    by_cases h : n = m <;> simp [h]
theorem eqC {ns ms : List Int} (h1 : ns.length = 10) (h2 : ms.length = 10) (ox oy : Operand) : aBin Tryd.prog .eql 24 ox oy (cntV ns) (cntV ms) = some (.bool (decide (ns = ms))) := by
  have := (aBin_struct (P := Tryd.prog) (t := 24) (Ds := List.replicate 10 (.int .u64)) (by kernel_rfl) (cnts ns) (cnts ms) (fitsC 10 ns h1) (fitsC 10 ms h2) ox oy).1
  rw [this, eqLC]
/-- ref.Read -/
theorem trread_run {s : List UInt8} (hs : s.length < 100000) : CallR cx 20 #[.string (str s)] H (fun v H' => Fresh H H' ∧ v = .tuple #[cntV (outC s).1, .bool (outC s).2]) := by
  refine wk20 (by simp) ?_
  unfold c20
  refine aw_cut (fun t => t.env 0 = .string (str s) ∧ t.env 2 = ptr H.next ∧ t.ds = [] ∧ t.H = ⟨H.next + 1, upd H.get H.next (cntB zeros)⟩) (by simp [alloc24z]) ?_
  rintro ⟨env, H1, ds⟩ ⟨e0, e2, eds, hH⟩
  simp only at e0 e2 eds hH
  have f1 : Fresh H H1 := by rw [hH]; exact Fresh.ofNew
  have r1 : H1.get H.next = some (cntB zeros) := by rw [hH]; simp
  have l1 : H.next < H1.next := by rw [hH]; simp
  clear hH
  refine aw_cut (fun t => t.env 0 = .string (str s) ∧ t.env 2 = ptr H.next ∧ t.ds = [] ∧ Fresh H1 t.H ∧ ∃ O, Row 9 true t.H (t.env 4) (strs (splitL 32 s)) O) ?_ ?_
  · simp [e0]
    refine callV_R cb30 (rwords_run (by omega)) ?_
    rintro v H2 ⟨f2, O, h2, _⟩
    simp [e0, e2, eds, f2]
    exact ⟨_, h2⟩
  clear e0 e2 eds
  rintro ⟨env, H2, ds⟩ ⟨e0, e2, eds, f2, O, hrow⟩
  simp only at e0 e2 eds f2 hrow
  generalize e4 : env 4 = wv at hrow
  have l2 : H.next < H2.next := Nat.lt_of_lt_of_le l1 f2.1
  have r2 : H2.get H.next = some (cntB zeros) := by rw [f2.get l1, r1]
  generalize hws : splitL 32 s = ws at hrow
  have hwlen : ws.length < 1000000 := by have := splitL_le 32 s; rw [hws] at this; omega
  obtain ⟨ra, rfl, _⟩ := hrow.isSlice
  simp only [strs_length] at e4 hrow
  have bad : ¬ Good ws → ∀ {H4 : AH}, Fresh H2 H4 → Fresh H ⟨H4.next, upd H4.get H.next (cntB zeros)⟩ ∧ outC s = (zeros, false) := by
    intro h H4 f4
    exact ⟨fresh_upd' (f1.trans (f2.trans f4)) (Nat.le_refl _), outC_bad (by rw [hws]; exact h)⟩
  by_cases hl : ws.length = 20
  case neg =>
    have hl' : ¬ (ws.length : Int) = 20 := by omega
    obtain ⟨hfin, hout⟩ := bad (fun h => hl (good_len h)) Fresh.refl
    have hst := stC (ns := zeros) (ms := zeros) rfl rfl r2
    have hld : aLoad Tryd.prog 24 (ptr H.next) ⟨H2.next, upd H2.get H.next (cntB zeros)⟩ = some (cntV zeros) := ldC rfl (by simp)
    simp [e4, e2, hl', hst, hld, build24, eds, hout, -aBuild, -ld24, -st24, -List.reduceReplicate]
    exact hfin
  rw [hl] at e4 hrow
  refine aw_cut (fun t => t.env 0 = .string (str s) ∧ t.env 2 = ptr H.next ∧ t.env 4 = .slice ra 20 20 ∧ t.ds = [] ∧ t.H = H2) (by simp [e0, e2, e4, eds]) ?_
  clear e0 e2 e4 eds
  rintro ⟨env, H', ds⟩ ⟨e0, e2, e4, eds, hH⟩
  simp only at e0 e2 e4 eds hH
  subst hH
  refine aw_cut (fun t => t.env 0 = .string (str s) ∧ t.env 2 = ptr H.next ∧ t.env 4 = .slice ra 20 20 ∧ t.env 5 = .slice none 0 0 ∧ t.ds = [] ∧ t.H = H') (by simp [e0, e2, e4, eds]) ?_
  clear e0 e2 e4 eds
  rintro ⟨env, H2, ds⟩ ⟨e0, e2, e4, e5, eds, hH⟩
  simp only at e0 e2 e4 e5 eds hH
  subst hH
  refine aw_cut (fun t => t.env 0 = .string (str s) ∧ t.env 2 = ptr H.next ∧ t.ds = [] ∧ Fresh H2 t.H ∧ ∃ O, Row 22 true t.H (t.env 5) (cnts (rds ws)) O) ?_ ?_
  · simp [e4, e5]
    refine aw_loop_to 10 (fun k t => t.env 0 = .string (str s) ∧ t.env 2 = ptr H.next ∧ t.env 4 = .slice ra 20 20 ∧ t.env 6 = i64 (k : Nat) ∧ t.ds = [] ∧ Fresh H2 t.H ∧ ∃ O, Row 22 true t.H (t.env 5) (cnts ((List.range k).map (num ws))) O ∧ ∀ x, O = some x → H2.next ≤ x) ?_ ?_ ?_
    · clear e0 e2 e4 e5 eds
      rintro k ⟨env, H6, ds⟩ hk ⟨e0, e2, e4, e6, eds, f6, O', row6, hO⟩
      simp only at e0 e2 e4 e6 eds f6 row6
      generalize e5 : env 5 = ov at row6
      have hk10 : (k : Int) < 10 := by omega
      have hw : IntKind.i64.wrap ((k : Int) + 1) = ((k + 1 : Nat) : Int) := by rw [w64 (by omega)]; push_cast; rfl
      have hw1 : IntKind.i64.wrap (2 * (k : Int)) = ((2 * k : Nat) : Int) := by rw [w64 (by omega)]; push_cast; rfl
      have hw2 : IntKind.i64.wrap (((2 * k : Nat) : Int) + 1) = ((2 * k + 1 : Nat) : Int) := by rw [w64 (by omega)]; push_cast; rfl
      have hrow6 := hrow.keep f6 (fun _ _ => id)
      obtain ⟨la, oa, ca, rfl, g1, g2, _⟩ := hrow6.cell (word_cell (ws := ws) (i := 2 * k + 1) (by omega))
      have hix := ix35 la oa 20 20 .i64 ((2 * k + 1 : Nat) : Int) (by omega) (by omega)
      rw [Int.toNat_natCast] at hix
      generalize hx : ws.getD (2 * k + 1) [] = x at g2
      have hnum : num ws k = ((rdN x : Nat) : Int) := by unfold num; rw [hx]
      simp [e4, e6, hk10, hw1, hw2, hix, g1, g2, -Int.natCast_add, -Int.natCast_mul]
      refine callV_R cb31 (rread_run (l := x)) ?_
      rintro v H7 ⟨f7, hv⟩
      obtain rfl := toldN hv
      have row7 := row6.keep f7 (fun _ _ => id)
      have hel : (cnts ((List.range k).map (num ws))).length = k := by simp
      obtain ⟨H8, hap, hnx, hget, hrow8, hkp⟩ := row_append el37 row7 (by rw [hel]; omega) (v := u64 (rdN x : Nat)) rfl
      have f67 := f6.trans f7
      have hOlow : ∀ z, O' = some z → z < H7.next := fun z e => by subst e; exact row7.low
      rw [hel] at hap hrow8
      simp [e0, e2, e4, e5, e6, hap, hw, eds]
      refine ⟨⟨by have := f67.1; omega, fun z hz _ => by rw [hkp z (by have := f67.1; omega) (fun e => by have := hO z e; omega), f67.get hz]⟩, some (H7.next + 1), ?_, ?_⟩
      · have : cnts ((List.range (k + 1)).map (num ws)) = cnts ((List.range k).map (num ws)) ++ [u64 (rdN x : Nat)] := by
          rw [List.range_succ, List.map_append, List.map_singleton, hnum]
          simp [cnts]
        rw [this]
        exact hrow8
      · intro z e; cases e; have := f67.1; omega
    · clear e0 e2 e4 e5 eds
      rintro ⟨env, H6, ds⟩ ⟨e0, e2, e4, e6, eds, f6, O', row6, hO⟩
      simp only at e0 e2 e4 e6 eds f6 row6
      simp [e0, e2, e6, eds, f6]
      exact ⟨_, row6⟩
    · simp [e0, e2, e4, e5, eds, Fresh.refl]
      exact ⟨none, Row.nil, by simp⟩
  clear e0 e2 e4 e5 eds
  rintro ⟨env, H3, ds⟩ ⟨e0, e2, eds, f3, O3, row3⟩
  simp only at e0 e2 eds f3 row3
  generalize e5 : env 5 = ov at row3
  refine aw_cut (fun t => t.env 0 = .string (str s) ∧ t.env 2 = ptr H.next ∧ t.ds = [] ∧ Fresh H2 t.H ∧ ∃ D, t.env 9 = ptr D ∧ H2.next ≤ D ∧ D < t.H.next ∧ t.H.get D = some (cntB (rds ws))) ?_ ?_
  · simp [e5]
    refine callV_R cb17 (rof_run (rds_len ws) row3) ?_
    rintro _ H4 ⟨rfl, f4⟩
    have f34 := f3.trans f4
    have hst := stC (H := ⟨H4.next + 1, upd H4.get H4.next (cntB zeros)⟩) (l := H4.next) (ms := zeros) (rds_len ws) rfl (by simp)
    simp [alloc24z, hst, e0, e2, eds, -st24, -List.reduceReplicate]
    exact ⟨fresh_upd' (fresh_new' f34) f34.1, f34.1⟩
  clear e0 e2 e5 eds
  rintro ⟨env, H4, ds⟩ ⟨e0, e2, eds, f4, D, e9, hD, hDl, rD⟩
  simp only at e0 e2 eds f4 e9 hDl rD
  simp [e9, ldC (rds_len ws) rD, -ld24]
  refine callV_R cb21 (trprint_run (rds_len ws) (rds_u64 ws)) ?_
  rintro _ H5 ⟨rfl, f5⟩
  have f45 := f4.trans f5
  have rD5 : H5.get D = some (cntB (rds ws)) := by rw [f5.get hDl, rD]
  have r5 : H5.get H.next = some (cntB zeros) := by rw [f45.get l2, r2]
  by_cases hg : Good ws
  · have htx : textC (rds ws) = s := by have := (good_text (s := s)).1 (by rw [hws]; exact hg); rw [hws] at this; exact this
    have hout := outC_good (s := s) (by rw [hws]; exact hg)
    rw [hws] at hout
    have hst := stC (ns := rds ws) (ms := zeros) (rds_len ws) rfl r5
    have hld : aLoad Tryd.prog 24 (ptr H.next) ⟨H5.next, upd H5.get H.next (cntB (rds ws))⟩ = some (cntV (rds ws)) := ldC (rds_len ws) (by simp)
    simp [e0, e2, e9, htx, ldC (rds_len ws) rD5, hst, hld, eds, hout, -ld24, -st24, -List.reduceReplicate]
    exact fresh_upd' (f1.trans (f2.trans f45)) (Nat.le_refl _)
  · have htx : ¬ textC (rds ws) = s := fun e => hg (by have := (good_text (s := s)).2 (by rw [hws]; exact e); rw [hws] at this; exact this)
    have htx' : ¬ str (textC (rds ws)) = str s := fun e => htx (str_inj.1 e)
    obtain ⟨hfin, hout⟩ := bad hg f45
    have hst := stC (ns := zeros) (ms := zeros) rfl rfl r5
    have hld : aLoad Tryd.prog 24 (ptr H.next) ⟨H5.next, upd H5.get H.next (cntB zeros)⟩ = some (cntV zeros) := ldC rfl (by simp)
    simp [e0, e2, e9, htx', hst, hld, build24, eds, hout, -aBuild, -ld24, -st24, -List.reduceReplicate]
    exact hfin
theorem textC_short {ns : List Int} (hu : ∀ n ∈ ns, U64 n) : (textC ns).length < 100000 := by
  have := wordsK_short hu 10 (Nat.le_refl _)
  unfold textC
  omega
theorem tallyReads_run' {ns : List Int} (hl : ns.length = 10) (hu : ∀ n ∈ ns, U64 n) {t : ByteArray} (hg : HasG gs H) (hn : nG ≤ H.next) : CallR cx 5 #[cntV ns, .string t] H (fun v _ => v = .bool true) := by
  rw [str_eta t]
  generalize t.data.toList = s
  refine wk5 (by simp) ?_
  unfold c5
  refine aw_cut (fun t => t.env 1 = .string (str s) ∧ t.env 2 = ptr H.next ∧ t.ds = [] ∧ t.H = ⟨H.next + 1, upd H.get H.next (cntB ns)⟩) (by simp [AH.new]) ?_
  rintro ⟨env, H1, ds⟩ ⟨e1, e2, eds, hH⟩
  simp only at e1 e2 eds hH
  have hf : Fresh H H1 := by rw [hH]; exact Fresh.ofNew
  have hr : H1.get H.next = some (cntB ns) := by rw [hH]; simp
  have hlt : H.next < H1.next := by rw [hH]; simp
  clear hH
  have hg1 := hg.fresh gs_lt hn hf
  have hn1 : nG ≤ H1.next := Nat.le_trans hn hf.1
  by_cases hsl : 500 < (s.length : Int)
  · simp [e1, hsl]
    refine callV_R cba (alive_run hg1) ?_
    rintro _ _ ⟨rfl, _⟩
    simp [eds]
  refine aw_cut (fun t => t.env 1 = .string (str s) ∧ t.env 2 = ptr H.next ∧ t.ds = [] ∧ t.H = H1) (by simp [e1, e2, eds, hsl]) ?_
  clear e1 e2 eds
  rintro ⟨env, H2, ds⟩ ⟨e1, e2, eds, hH⟩
  simp only at e1 e2 eds hH
  subst hH
  -- tally.Print
  refine aw_cut (fun t => t.env 1 = .string (str s) ∧ t.env 2 = ptr H.next ∧ t.env 5 = .string (str (textC ns)) ∧ t.ds = [] ∧ Fresh H2 t.H) ?_ ?_
  · simp [e2, ldC hl hr, -ld24]
    refine callV_R cb18 (tprint_run hl hu hg1 hn1) ?_
    rintro _ H3 ⟨rfl, f3⟩
    simp [e1, e2, eds, f3]
  clear e1 e2 eds
  rintro ⟨env, H3, ds⟩ ⟨e1, e2, e5, eds, f3⟩
  simp only at e1 e2 e5 eds f3
  have hg3 := hg1.fresh gs_lt hn1 f3
  have hn3 : nG ≤ H3.next := Nat.le_trans hn1 f3.1
  -- tally.Read of it
  refine aw_cut (fun t => t.env 1 = .string (str s) ∧ t.env 2 = ptr H.next ∧ t.env 5 = .string (str (textC ns)) ∧ t.env 7 = .bool true ∧ t.ds = [] ∧ Fresh H3 t.H ∧ ∃ D, t.env 6 = ptr D ∧ D < t.H.next ∧ t.H.get D = some (cntB ns)) ?_ ?_
  · simp [e5]
    refine callV_R cb19 (tread_run (textC_short hu) hg3 hn3) ?_
    rintro _ H4 ⟨f4, rfl⟩
    have hst := stC (H := ⟨H4.next + 1, upd H4.get H4.next (cntB zeros)⟩) (l := H4.next) (ns := ns) (ms := zeros) hl rfl (by simp)
    simp [out_text hl hu, alloc24z, hst, e1, e2, e5, eds, -st24, -List.reduceReplicate]
    exact fresh_upd' (fresh_new' f4) f4.1
  clear e1 e2 e5 eds
  rintro ⟨env, H4, ds⟩ ⟨e1, e2, e5, e7, eds, f4, D, e6, hD, rD⟩
  simp only at e1 e2 e5 e6 e7 eds f4 hD rD
  have hg4 := hg3.fresh gs_lt hn3 f4
  have hn4 : nG ≤ H4.next := Nat.le_trans hn3 f4.1
  have hol := outC_len s
  -- tally.Read of the text
  refine aw_cut (fun t => t.env 1 = .string (str s) ∧ t.env 2 = ptr H.next ∧ t.env 5 = .string (str (textC ns)) ∧ t.env 6 = ptr D ∧ t.env 7 = .bool true ∧ t.env 9 = .bool (outC s).2 ∧ t.ds = [] ∧ Fresh H4 t.H ∧ ∃ D, t.env 8 = ptr D ∧ D < t.H.next ∧ t.H.get D = some (cntB (outC s).1)) ?_ ?_
  · simp [e1]
    refine callV_R cb19 (tread_run (by omega) hg4 hn4) ?_
    rintro _ H5 ⟨f5, rfl⟩
    have hst := stC (H := ⟨H5.next + 1, upd H5.get H5.next (cntB zeros)⟩) (l := H5.next) (ms := zeros) hol rfl (by simp)
    simp [alloc24z, hst, e1, e2, e5, e6, e7, eds, -st24, -List.reduceReplicate]
    exact fresh_upd' (fresh_new' f5) f5.1
  clear e1 e2 e5 e6 e7 eds
  rintro ⟨env, H5, ds⟩ ⟨e1, e2, e5, e6, e7, e9, eds, f5, E, e8, hE, rE⟩
  simp only at e1 e2 e5 e6 e7 e8 e9 eds f5 hE rE
  have hg5 := hg4.fresh gs_lt hn4 f5
  have hn5 : nG ≤ H5.next := Nat.le_trans hn4 f5.1
  -- ref.Read of the text
  refine aw_cut (fun t => t.env 2 = ptr H.next ∧ t.env 5 = .string (str (textC ns)) ∧ t.env 6 = ptr D ∧ t.env 7 = .bool true ∧ t.env 8 = ptr E ∧ t.env 9 = .bool (outC s).2 ∧ t.env 11 = .bool (outC s).2 ∧ t.ds = [] ∧ Fresh H5 t.H ∧ ∃ D, t.env 10 = ptr D ∧ D < t.H.next ∧ t.H.get D = some (cntB (outC s).1)) ?_ ?_
  · simp [e1]
    refine callV_R cb20 (trread_run (by omega)) ?_
    rintro _ H6 ⟨f6, rfl⟩
    have hst := stC (H := ⟨H6.next + 1, upd H6.get H6.next (cntB zeros)⟩) (l := H6.next) (ms := zeros) hol rfl (by simp)
    simp [alloc24z, hst, e2, e5, e6, e7, e8, e9, eds, -st24, -List.reduceReplicate]
    exact fresh_upd' (fresh_new' f6) f6.1
  clear e1 e2 e5 e6 e7 e8 e9 eds
  rintro ⟨env, H6, ds⟩ ⟨e2, e5, e6, e7, e8, e9, e11, eds, f6, F, e10, hF, rF⟩
  simp only at e2 e5 e6 e7 e8 e9 e10 e11 eds f6 hF rF
  have hg6 := hg5.fresh gs_lt hn5 f6
  have hn6 : nG ≤ H6.next := Nat.le_trans hn5 f6.1
  have q1 : H6.get H.next = some (cntB ns) := by
    rw [f6.get (by have := f3.1; have := f4.1; have := f5.1; omega), f5.get (by have := f3.1; have := f4.1; omega), f4.get (by have := f3.1; omega), f3.get hlt, hr]
  have q2 : H6.get D = some (cntB ns) := by rw [f6.get (by have := f5.1; omega), f5.get hD, rD]
  have q3 : H6.get E = some (cntB (outC s).1) := by rw [f6.get hE, rE]
  simp [e2, e5, ldC hl q1, -ld24]
  refine callV_R cb21 (trprint_run hl hu) ?_
  rintro _ H7 ⟨rfl, f7⟩
  have l6 : H.next < H6.next := by have := f3.1; have := f4.1; have := f5.1; have := f6.1; omega
  have p1 : H7.get H.next = some (cntB ns) := by rw [f7.get l6, q1]
  have p2 : H7.get D = some (cntB ns) := by rw [f7.get (by have := f5.1; have := f6.1; omega), q2]
  have p3 : H7.get E = some (cntB (outC s).1) := by rw [f7.get (by have := f6.1; omega), q3]
  have p4 : H7.get F = some (cntB (outC s).1) := by rw [f7.get hF, rF]
  simp [e2, e5, e6, e7, e8, e9, e10, e11, ldC hl p1, ldC hl p2, ldC hol p3, ldC hol p4, eqC hl hl, eqC hol hol, -ld24]
  refine callV_R cba (alive_run (hg6.fresh gs_lt hn6 f7)) ?_
  rintro _ _ ⟨rfl, _⟩
  simp [eds]
theorem tallyReads_run {a0 a1 a2 a3 a4 a5 a6 a7 a8 a9 : Int} {t : ByteArray} (hg : HasG gs H) (hn : nG ≤ H.next) (h0 : IntKind.u64.has a0) (h1 : IntKind.u64.has a1) (h2 : IntKind.u64.has a2) (h3 : IntKind.u64.has a3) (h4 : IntKind.u64.has a4) (h5 : IntKind.u64.has a5) (h6 : IntKind.u64.has a6) (h7 : IntKind.u64.has a7) (h8 : IntKind.u64.has a8) (h9 : IntKind.u64.has a9) :
    CallR cx 5 #[.agg #[.int .u64 a0, .int .u64 a1, .int .u64 a2, .int .u64 a3, .int .u64 a4, .int .u64 a5, .int .u64 a6, .int .u64 a7, .int .u64 a8, .int .u64 a9], .string t] H (fun v _ => v = .bool true) := by
  refine tallyReads_run' (ns := [a0, a1, a2, a3, a4, a5, a6, a7, a8, a9]) rfl ?_ hg hn
  intro n hm
  have hh : IntKind.u64.has n := by
    simp only [List.mem_cons, List.not_mem_nil, or_false] at hm
    rcases hm with rfl | rfl | rfl | rfl | rfl | rfl | rfl | rfl | rfl | rfl <;> assumption
  exact ⟨hh.1, Int.lt_of_le_of_lt hh.2 (by decide)⟩
end Go.Proofs.YtnnjfbnaojdloaaDoor.C

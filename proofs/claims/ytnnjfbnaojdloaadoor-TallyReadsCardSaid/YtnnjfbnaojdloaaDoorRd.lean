/- Counts read of a text. Own text of this session. -/
import Derived.Test.YtnnjfbnaojdloaaDoorTxt2
set_option linter.unusedVariables false
set_option linter.unusedSimpArgs false
set_option maxRecDepth 4000
set_option maxHeartbeats 8000000
namespace Go.Proofs.YtnnjfbnaojdloaaDoor.C
open Go Go.RowKit Go.Proofs.YtnnjfbnaojdloaaDoorA Go.Proofs.YtnnjfbnaojdloaaDoor.Plain
variable {H : AH}
open Classical in
noncomputable def rdN (l : List UInt8) : Nat := if h : ∃ n, Is l n then h.choose else 0
open Classical in
noncomputable def okN (l : List UInt8) : Bool := decide (∃ n, Is l n)
theorem okN_is {l : List UInt8} (h : okN l = true) : Is l (rdN l) := by
  have h1 : ∃ n, Is l n := by simpa [okN] using h
  unfold rdN
  rw [dif_pos h1]
  exact h1.choose_spec
theorem is_rd {l : List UInt8} {n : Nat} (h : Is l n) : okN l = true ∧ rdN l = n := by
  have h1 : okN l = true := by simp only [okN, decide_eq_true_eq]; exact ⟨n, h⟩
  exact ⟨h1, (okN_is h1).uniq h⟩
theorem rdN_lt (l : List UInt8) : rdN l < 18446744073709551616 := by
  unfold rdN
  split
  · rename_i h; have := h.choose_spec.1; omega
  · decide
theorem toldN {l : List UInt8} {v : Value} (h : (∃ n, Is l n ∧ v = .tuple #[.int .u64 n, .bool true]) ∨ ((∀ n, ¬ Is l n) ∧ v = .tuple #[.int .u64 0, .bool false])) : v = .tuple #[u64 (rdN l : Nat), .bool (okN l)] := by
  rcases h with ⟨n, hn, rfl⟩ | ⟨hn, rfl⟩
  · obtain ⟨h1, h2⟩ := is_rd hn
    rw [h1, h2]
  · have h1 : ¬ ∃ n, Is l n := fun ⟨n, h⟩ => hn n h
    have h2 : okN l = false := by simp only [okN, decide_eq_false_iff_not]; exact h1
    have h3 : rdN l = 0 := by unfold rdN; rw [dif_neg h1]
    rw [h2, h3]
    rfl
/-- the words' numbers -/
noncomputable def num (ws : List (List UInt8)) (i : Nat) : Int := (rdN (ws.getD (2 * i + 1) []) : Nat)
noncomputable def rds (ws : List (List UInt8)) : List Int := (List.range 10).map (num ws)
noncomputable def part (ws : List (List UInt8)) (k : Nat) : List Int := (List.range 10).map fun i => if i < k then num ws i else 0
theorem rds_len (ws : List (List UInt8)) : (rds ws).length = 10 := by simp [rds]
theorem part_len (ws : List (List UInt8)) (k : Nat) : (part ws k).length = 10 := by simp [part]
theorem rds_u64 (ws : List (List UInt8)) : ∀ n ∈ rds ws, U64 n := by
  intro n hn
  obtain ⟨i, _, rfl⟩ := List.mem_map.1 hn
  have := rdN_lt (ws.getD (2 * i + 1) [])
  unfold num U64; omega
theorem rds_at (ws : List (List UInt8)) {i : Nat} (hi : i < 10) : (rds ws).getD i 0 = num ws i := by simp [rds, hi]
theorem part_ten (ws : List (List UInt8)) : part ws 10 = rds ws := by
  unfold part rds
  refine List.map_congr_left fun i hi => ?_
  rw [if_pos (List.mem_range.1 hi)]
theorem part_zero (ws : List (List UInt8)) : part ws 0 = List.replicate 10 0 := by
  rfl
theorem part_set (ws : List (List UInt8)) {k : Nat} (hk : k < 10) : (part ws k).set k (num ws k) = part ws (k + 1) := by
  refine List.ext_getElem? fun i => ?_
  rw [List.getElem?_set]
  by_cases hi : i < 10
  · by_cases e : k = i
    · subst e
      simp [part, hk]
    · by_cases hik : i < k
      · have : i < k + 1 := by omega
        simp [part, hi, e, hik, this]
      · have : ¬ i < k + 1 := by omega
        simp [part, hi, e, hik, this]
  · have e : ¬ k = i := by omega
    simp [part, hi, e]
theorem words_at (ns : List Int) : ∀ (k i : Nat), i < k → (wordsK ns k)[2 * i]? = some (nm.getD i []) ∧ (wordsK ns k)[2 * i + 1]? = some (dec (ns.getD i 0).toNat)
  | 0, i, h => by omega
  | k + 1, i, h => by
    rw [wordsK]
    by_cases e : i = k
    · subst e
      have hl := wordsK_len ns i
      rw [List.getElem?_append_right (by omega), List.getElem?_append_right (by omega), hl]
      simp
    · have ih := words_at ns k i (by omega)
      have hl := wordsK_len ns k
      rw [List.getElem?_append_left (by omega), List.getElem?_append_left (by omega)]
      exact ih
def Good (ws : List (List UInt8)) : Prop := ws = wordsK (rds ws) 10
theorem good_iff {ws : List (List UInt8)} (hl : ws.length = 20) : Good ws ↔ evK ws 10 = nm ∧ ∀ i, i < 10 → okN (ws.getD (2 * i + 1) []) = true := by
  have wat := words_at (rds ws) 10
  constructor
  · intro h
    unfold Good at h
    constructor
    · refine List.ext_getElem? fun i => ?_
      by_cases hi : i < 10
      · have h1 := (wat i hi).1
        rw [← h] at h1
        have h2 : ws.getD (2 * i) [] = nm.getD i [] := by rw [List.getD_eq_getElem?_getD, h1]; rfl
        have h3 : nm[i]? = some (nm.getD i []) := by rw [nm_getD hi]; exact List.getElem?_eq_getElem _
        rw [h3, ← h2]
        simp [evK, hi]
      · rw [List.getElem?_eq_none (by simp [evK]; omega), List.getElem?_eq_none (by simp [nm_len]; omega)]
    · intro i hi
      have h1 := (wat i hi).2
      rw [← h, rds_at ws hi] at h1
      have hw : ws.getD (2 * i + 1) [] = dec (num ws i).toNat := by
        rw [List.getD_eq_getElem?_getD, h1]
        rfl
      have hn : (num ws i).toNat = rdN (ws.getD (2 * i + 1) []) := by unfold num; exact Int.toNat_natCast _
      rw [hn] at hw
      exact (is_rd ⟨rdN_lt _, hw⟩).1
  · rintro ⟨h1, h2⟩
    unfold Good
    refine List.ext_getElem? fun j => ?_
    by_cases hj : j < 20
    · have : ∃ i, i < 10 ∧ (j = 2 * i ∨ j = 2 * i + 1) := ⟨j / 2, by omega, by omega⟩
      obtain ⟨i, hi, rfl | rfl⟩ := this
      · rw [(wat i hi).1, ← h1]
        have : ws.getD (2 * i) [] = (evK ws 10).getD i [] := by simp [evK, hi]
        rw [← this, List.getD_eq_getElem?_getD, List.getElem?_eq_getElem (by omega)]
        rfl
      · rw [(wat i hi).2, rds_at ws hi]
        have h3 := (okN_is (h2 i hi)).2
        have h4 : dec (num ws i).toNat = ws.getD (2 * i + 1) [] := by
          unfold num
          rw [Int.toNat_natCast]
          exact h3.symm
        rw [h4, List.getD_eq_getElem?_getD, List.getElem?_eq_getElem (by omega)]
        rfl
    · rw [List.getElem?_eq_none (by omega), List.getElem?_eq_none (by rw [wordsK_len]; omega)]
theorem good_text {s : List UInt8} : Good (splitL 32 s) ↔ textC (rds (splitL 32 s)) = s := by
  constructor
  · intro h
    unfold textC
    unfold Good at h
    rw [← h, join_splitL]
  · intro h
    unfold Good
    conv => lhs; rw [← h]
    rw [text_words]
open Classical in
noncomputable def outC (s : List UInt8) : List Int × Bool := if Good (splitL 32 s) then (rds (splitL 32 s), true) else (List.replicate 10 0, false)
theorem outC_len (s : List UInt8) : (outC s).1.length = 10 := by
  unfold outC
  split
  · exact rds_len _
  · rfl
theorem outC_good {s : List UInt8} (h : Good (splitL 32 s)) : outC s = (rds (splitL 32 s), true) := if_pos h
theorem outC_bad {s : List UInt8} (h : ¬ Good (splitL 32 s)) : outC s = (List.replicate 10 0, false) := if_neg h
theorem good_len {ws : List (List UInt8)} (h : Good ws) : ws.length = 20 := by
  have := wordsK_len (rds ws) 10
  unfold Good at h
  rw [← h] at this
  exact this
theorem rds_text {ns : List Int} (hl : ns.length = 10) (hu : ∀ n ∈ ns, U64 n) : rds (wordsK ns 10) = ns := by
  refine List.ext_getElem? fun i => ?_
  by_cases hi : i < 10
  · have h1 := (words_at ns 10 i hi).2
    have hil : i < ns.length := by omega
    have hui := hu ns[i] (List.getElem_mem hil)
    unfold U64 at hui
    have h2 : (wordsK ns 10).getD (2 * i + 1) [] = dec ns[i].toNat := by
      rw [List.getD_eq_getElem?_getD, h1, List.getD_eq_getElem?_getD, List.getElem?_eq_getElem hil]
      rfl
    have h3 : rdN (dec ns[i].toNat) = ns[i].toNat := (is_rd ⟨by omega, rfl⟩).2
    have h4 : num (wordsK ns 10) i = ns[i] := by
      unfold num
      rw [h2, h3]
      omega
    simp [rds, hi, hil, h4]
  · rw [List.getElem?_eq_none (by rw [rds_len]; omega), List.getElem?_eq_none (by omega)]
theorem out_text {ns : List Int} (hl : ns.length = 10) (hu : ∀ n ∈ ns, U64 n) : outC (textC ns) = (ns, true) := by
  have hg : Good (splitL 32 (textC ns)) := by
    rw [good_text, text_words, rds_text hl hu]
  rw [outC_good hg, text_words, rds_text hl hu]
theorem ldC {H : AH} {l : Nat} {ns : List Int} (hl : ns.length = 10) (hg : H.get l = some (cntB ns)) : aLoad Tryd.prog 24 (ptr l) H = some (cntV ns) := by
  rw [ld24, row_of hg (by simp [hl]), List.drop_zero, List.take_of_length_le (by simp [hl])]
  rfl
theorem stC {H : AH} {l : Nat} {ns ms : List Int} (hl : ns.length = 10) (hm : ms.length = 10) (hg : H.get l = some (cntB ms)) : aStore Tryd.prog 24 (ptr l) (cntV ns) H = some ⟨H.next, upd H.get l (cntB ns)⟩ := by
  rw [st24 _ _ _ (by simp [hl])]
  show H.wrs l 0 (cnts ns) = _
  rw [wrs_of hg (by simp [hl, hm]) (cnts_all ns), setAll_all _ _ (by simp [hl, hm])]
abbrev zeros : List Int := List.replicate 10 0
theorem alloc24z (H : AH) : aAlloc Tryd.prog 24 H = some (ptr H.next, ⟨H.next + 1, upd H.get H.next (cntB zeros)⟩) := by kernel_rfl
theorem build24 : aBuild Tryd.prog 24 [] = some (cntV zeros) := by kernel_rfl
theorem word_cell {ws : List (List UInt8)} {i : Nat} (hi : i < ws.length) : (strs ws)[i]? = some (.string (str (ws.getD i []))) := by
  rw [List.getD_eq_getElem?_getD, List.getElem?_eq_getElem hi]
  simp [strs, hi]
/-- tally.Read -/
theorem tread_run {s : List UInt8} (hs : s.length < 100000) (hg : HasG gs H) (hn : nG ≤ H.next) : CallR cx 19 #[.string (str s)] H (fun v H' => Fresh H H' ∧ v = .tuple #[cntV (outC s).1, .bool (outC s).2]) := by
  refine wk19 (by simp) ?_
  unfold c19
  refine aw_cut (fun t => t.env 0 = .string (str s) ∧ t.env 2 = ptr H.next ∧ t.ds = [] ∧ t.H = ⟨H.next + 1, upd H.get H.next (cntB zeros)⟩) (by simp [alloc24z]) ?_
  rintro ⟨env, H1, ds⟩ ⟨e0, e2, eds, hH⟩
  simp only at e0 e2 eds hH
  have f1 : Fresh H H1 := by rw [hH]; exact Fresh.ofNew
  have r1 : H1.get H.next = some (cntB zeros) := by rw [hH]; simp
  have l1 : H.next < H1.next := by rw [hH]; simp
  clear hH
  refine aw_cut (fun t => t.env 2 = ptr H.next ∧ t.ds = [] ∧ Fresh H1 t.H ∧ ∃ O, Row 9 true t.H (t.env 4) (strs (splitL 32 s)) O) ?_ ?_
  · simp [e0]
    refine callV_R cb26 (words_run (by omega)) ?_
    rintro v H2 ⟨f2, h2⟩
    simp [e2, eds, f2]
    exact ⟨_, h2⟩
  clear e0 e2 eds
  rintro ⟨env, H2, ds⟩ ⟨e2, eds, f2, O, hrow⟩
  simp only at e2 eds f2 hrow
  generalize e4 : env 4 = wv at hrow
  refine aw_cut (fun t => t.env 2 = ptr H.next ∧ t.env 4 = wv ∧ t.env 5 = ptr H2.next ∧ t.ds = [] ∧ t.H = ⟨H2.next + 1, upd H2.get H2.next (cntB zeros)⟩) (by simp [alloc24z, e2, e4, eds]) ?_
  clear e2 e4 eds
  rintro ⟨env, H3, ds⟩ ⟨e2, e4, e5, eds, hH⟩
  simp only at e2 e4 e5 eds hH
  have f3 : Fresh H2 H3 := by rw [hH]; exact Fresh.ofNew
  have r3 : H3.get H2.next = some (cntB zeros) := by rw [hH]; simp
  have l3 : H2.next < H3.next := by rw [hH]; simp
  clear hH
  have l2 : H.next < H2.next := Nat.lt_of_lt_of_le l1 f2.1
  have r3' : H3.get H.next = some (cntB zeros) := by rw [f3.get l2, f2.get l1, r1]
  have hrow3 := hrow.keep f3 (fun _ _ => id)
  have hgg := hg.fresh gs_lt hn (f1.trans (f2.trans f3))
  have hnn : nG ≤ H3.next := by omega
  generalize hws : splitL 32 s = ws at hrow hrow3
  have hwlen : ws.length < 1000000 := by have := splitL_le 32 s; rw [hws] at this; omega
  obtain ⟨ra, rfl, _⟩ := hrow3.isSlice
  simp only [strs_length] at e4 hrow3
  have bad : ¬ Good ws → ∀ {H4 : AH}, Fresh H3 H4 → Fresh H ⟨H4.next, upd H4.get H.next (cntB zeros)⟩ ∧ outC s = (zeros, false) := by
    intro h H4 f4
    exact ⟨fresh_upd' (f1.trans (f2.trans (f3.trans f4))) (Nat.le_refl _), outC_bad (by rw [hws]; exact h)⟩
  by_cases hl : ws.length = 20
  case neg =>
    have hl' : ¬ (ws.length : Int) = 20 := by omega
    obtain ⟨hfin, hout⟩ := bad (fun h => hl (good_len h)) Fresh.refl
    have hst := stC (ns := zeros) (ms := zeros) rfl rfl r3'
    have hld : aLoad Tryd.prog 24 (ptr H.next) ⟨H3.next, upd H3.get H.next (cntB zeros)⟩ = some (cntV zeros) := ldC rfl (by simp)
    simp [e4, e5, e2, hl', ldC rfl r3, hst, hld, eds, hout, -ld24, -st24, -List.reduceReplicate]
    exact hfin
  rw [hl] at e4 hrow3
  refine aw_cut (fun t => t.env 2 = ptr H.next ∧ t.env 4 = .slice ra 20 20 ∧ t.env 5 = ptr H2.next ∧ t.ds = [] ∧ Fresh H3 t.H ∧ evK ws 10 = nm) ?_ ?_
  · simp [e4]
    refine callV_R cb28 (evens_run hrow3 (by omega)) ?_
    rintro v H4 ⟨f4, O4, h4, _⟩
    rw [hl] at h4
    simp
    refine callV_R cb14 (names_run (hgg.fresh gs_lt hnn f4) (Nat.le_trans hnn f4.1)) ?_
    rintro u H5 ⟨f5, O5, h5, _⟩
    simp
    refine callV_R cb27 (equal_run (h4.keep f5 (fun _ _ => id)) h5 (by simp [evK])) ?_
    rintro _ H6 ⟨rfl, hH⟩
    subst hH
    by_cases he : evK ws 10 = nm
    · simp [he, e2, e4, e5, eds, f4.trans f5]
    · have hng : ¬ Good ws := fun h => he ((good_iff hl).1 h).1
      have f45 := f4.trans f5
      obtain ⟨hfin, hout⟩ := bad hng f45
      have r6 : H6.get H2.next = some (cntB zeros) := by rw [f45.get l3, r3]
      have r6' : H6.get H.next = some (cntB zeros) := by rw [f45.get (by omega), r3']
      have hst := stC (ns := zeros) (ms := zeros) rfl rfl r6'
      have hld : aLoad Tryd.prog 24 (ptr H.next) ⟨H6.next, upd H6.get H.next (cntB zeros)⟩ = some (cntV zeros) := ldC rfl (by simp)
      simp [he, e2, e5, ldC rfl r6, hst, hld, eds, hout, -ld24, -st24, -List.reduceReplicate]
      exact hfin
  clear e2 e4 e5 eds
  rintro ⟨env, H4, ds⟩ ⟨e2, e4, e5, eds, f4, hev⟩
  simp only at e2 e4 e5 eds f4
  have r4 : H4.get H2.next = some (cntB zeros) := by rw [f4.get l3, r3]
  have r4' : H4.get H.next = some (cntB zeros) := by rw [f4.get (by omega), r3']
  have hrow4 := hrow3.keep f4 (fun _ _ => id)
  have hnel : ∀ l, O = some l → l < H2.next := fun l e => by subst e; exact hrow.low
  have hne2 : H.next ≠ H2.next := by omega
  refine aw_cut (fun t => t.env 2 = ptr H.next ∧ t.env 5 = ptr H2.next ∧ t.ds = [] ∧ Keep (fun l => l = H2.next) H4 t.H ∧ t.H.get H2.next = some (cntB (rds ws)) ∧ ∀ i, i < 10 → okN (ws.getD (2 * i + 1) []) = true) ?_ ?_
  · simp [e5]
    refine callV_R cb22 fields_run ?_
    rintro _ H5 ⟨rfl, f5⟩
    simp
    have l4 : H2.next < H4.next := Nat.lt_of_lt_of_le l3 f4.1
    refine aw_loop_to 10 (fun k t => t.env 2 = ptr H.next ∧ t.env 4 = .slice ra 20 20 ∧ t.env 5 = ptr H2.next ∧ t.env 23 = .agg (flds H2.next).toArray ∧ t.env 24 = i64 (k : Nat) ∧ t.ds = [] ∧ Keep (fun l => l = H2.next) H4 t.H ∧ t.H.get H2.next = some (cntB (part ws k)) ∧ ∀ i, i < k → okN (ws.getD (2 * i + 1) []) = true) ?_ ?_ ?_
    · clear e2 e4 e5 eds
      rintro k ⟨env, H6, ds⟩ hk ⟨e2, e4, e5, e23, e24, eds, k6, r6, hok⟩
      simp only at e2 e4 e5 e23 e24 eds k6 r6
      have hk10 : (k : Int) < 10 := by omega
      have hw : IntKind.i64.wrap ((k : Int) + 1) = ((k + 1 : Nat) : Int) := by rw [w64 (by omega)]; push_cast; rfl
      have hw1 : IntKind.i64.wrap (2 * (k : Int)) = ((2 * k : Nat) : Int) := by rw [w64 (by omega)]; push_cast; rfl
      have hw2 : IntKind.i64.wrap (((2 * k : Nat) : Int) + 1) = ((2 * k + 1 : Nat) : Int) := by rw [w64 (by omega)]; push_cast; rfl
      have hrow6 := hrow4.keep k6 (fun l e h => by have := hnel l e; omega)
      obtain ⟨la, oa, ca, rfl, g1, g2, _⟩ := hrow6.cell (word_cell (ws := ws) (i := 2 * k + 1) (by omega))
      have hix := ix35 la oa 20 20 .i64 ((2 * k + 1 : Nat) : Int) (by omega) (by omega)
      rw [Int.toNat_natCast] at hix
      generalize hx : ws.getD (2 * k + 1) [] = x at g2
      have hnum : num ws k = ((rdN x : Nat) : Int) := by unfold num; rw [hx]
      simp [e4, e23, e24, hk10, ix46 _ k hk, hw1, hw2, hix, g1, g2, -Int.natCast_add, -Int.natCast_mul]
      refine callV_R cb29 (read_run (l := x)) ?_
      rintro v H7 ⟨hH, hv⟩
      subst hH
      obtain rfl := toldN hv
      cases hb : okN x with
      | false =>
        have hng : ¬ Good ws := fun h => by have := ((good_iff hl).1 h).2 k hk; rw [hx, hb] at this; cases this
        have hr' : H7.get H.next = some (cntB zeros) := by rw [k6.get (by omega) (fun e => hne2 e), r4']
        have hst := stC (ns := zeros) (ms := zeros) rfl rfl hr'
        have hld : aLoad Tryd.prog 24 (ptr H.next) ⟨H7.next, upd H7.get H.next (cntB zeros)⟩ = some (cntV zeros) := ldC rfl (by simp)
        have hout := (bad hng Fresh.refl).2
        have hfin : Fresh H ⟨H7.next, upd H7.get H.next (cntB zeros)⟩ := by
          refine ⟨by have := k6.1; simp only; omega, fun x hx _ => ?_⟩
          have hx1 : ¬ x = H.next := by omega
          simp only [upd_get, hx1, if_false]
          rw [k6.get (by omega) (by omega), (f1.trans (f2.trans (f3.trans f4))).get hx]
        simp [e2, hst, hld, build24, eds, hout, -aBuild, -ld24, -st24, -List.reduceReplicate]
        exact hfin
      | true =>
        have hwr := wr_of (v := u64 (num ws k)) r6 (o := k) (by simp [part_len]; omega) rfl
        have hset : (cnts (part ws k)).set k (u64 (num ws k)) = cnts (part ws (k + 1)) := by rw [← part_set ws hk]; simp [cnts, List.map_set]
        rw [hset] at hwr
        have hst : aStore Tryd.prog 22 (.pointer (some ⟨H2.next, k, none⟩)) (u64 (rdN x : Nat)) H7 = some ⟨H7.next, upd H7.get H2.next (cntB (part ws (k + 1)))⟩ := by rw [st22 _ _ _ rfl, ← hnum]; exact hwr
        simp [e2, e4, e5, e23, e24, hw, hst, eds, -st22]
        refine ⟨⟨k6.1, fun x hx hne => by simp only [upd_get, hne, if_false]; exact k6.get hx hne⟩, fun i hi => ?_⟩
        by_cases e : i = k
        · subst e; simpa [hx] using (show okN (ws.getD (2 * i + 1) []) = true by rw [hx]; exact hb)
        · simpa using hok i (by omega)
    · clear e2 e4 e5 eds
      rintro ⟨env, H6, ds⟩ ⟨e2, e4, e5, e23, e24, eds, k6, r6, hok⟩
      simp only at e2 e4 e5 e23 e24 eds k6 r6
      rw [part_ten] at r6
      simp [e2, e5, e24, eds, r6]
      exact ⟨k6, by simpa using hok⟩
    · simp [e2, e4, e5, eds, part_zero, f5.get l4, r4, -List.reduceReplicate]
      exact f5.keep
  clear e2 e4 e5 eds
  rintro ⟨env, H5, ds⟩ ⟨e2, e5, eds, k5, r5, hok⟩
  simp only at e2 e5 eds k5 r5
  have hgood : Good ws := (good_iff hl).2 ⟨hev, hok⟩
  have hout := outC_good (s := s) (by rw [hws]; exact hgood)
  rw [hws] at hout
  have hr5 : H5.get H.next = some (cntB zeros) := by rw [k5.get (by have := f4.1; omega) (fun e => hne2 e), r4']
  have hst := stC (ns := rds ws) (ms := zeros) (rds_len ws) rfl hr5
  have hld : aLoad Tryd.prog 24 (ptr H.next) ⟨H5.next, upd H5.get H.next (cntB (rds ws))⟩ = some (cntV (rds ws)) := ldC (rds_len ws) (by simp)
  simp [e2, e5, ldC (rds_len ws) r5, hst, hld, eds, hout, -ld24, -st24]
  refine ⟨by have := k5.1; have := f4.1; simp only; omega, fun x hx _ => ?_⟩
  have hx1 : ¬ x = H.next := by omega
  simp only [upd_get, hx1, if_false]
  rw [k5.get (by have := f4.1; omega) (by omega), (f1.trans (f2.trans (f3.trans f4))).get hx]
end Go.Proofs.YtnnjfbnaojdloaaDoor.C

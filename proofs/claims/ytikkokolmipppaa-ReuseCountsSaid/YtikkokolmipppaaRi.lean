/- The law ReuseCounts. Own text of this session. -/
import Derived.Test.YtikkokolmipppaaRh
set_option linter.unusedVariables false
set_option linter.unusedSimpArgs false
set_option maxRecDepth 4000
set_option maxHeartbeats 8000000
namespace Go.Proofs.Ytikkokolmipppaa.C
open Go Go.RowKit Go.Proofs.YtikkokolmipppaaA Go.Proofs.Ytikkokolmipppaa.Ones Go.Proofs.Ytikkokolmipppaa.Plain
variable {H : AH}
/-- how many are below a number -/
def cP (l : List Int) (d : Nat) : Nat := l.countP fun z => decide (z < (d : Int))
theorem cP_step (l : List Int) (d : Nat) : cP l (d + 1) = cP l d + l.count ((d : Nat) : Int) := by
  unfold cP
  induction l with
  | nil => rfl
  | cons z l ih =>
    rw [List.countP_cons, List.countP_cons, List.count_cons, ih]
    by_cases e : z = (d : Int)
    · subst e
      have h1 : decide ((d : Int) < ((d + 1 : Nat) : Int)) = true := by simp; omega
      have h2 : decide ((d : Int) < (d : Int)) = false := by simp
      rw [h1, h2]
      simp
      omega
    · have h3 : decide (z < ((d + 1 : Nat) : Int)) = decide (z < (d : Int)) := by
        rw [decide_eq_decide]; omega
      have h4 : (z == (d : Int)) = false := by simpa using e
      rw [h3, h4]
      simp
      omega
theorem cP_zero {l : List Int} (h : ∀ z ∈ l, -1 ≤ z) : cP l 0 = l.count (-1) := by
  unfold cP
  rw [List.count_eq_countP]
  refine List.countP_congr fun z hz => ?_
  have := h z hz
  simp
  omega
theorem cP_full {l : List Int} {d : Nat} (h : ∀ z ∈ l, z < (d : Int)) : cP l d = l.length := by
  unfold cP
  exact List.countP_eq_length.2 fun z hz => by simpa using h z hz
theorem cP_le (l : List Int) (d : Nat) : cP l d ≤ l.length := List.countP_le_length
theorem cnt_full (l : List Int) (d : Int) : cnt l d l.length = l.count d := by rw [cnt, List.take_length]
theorem reuseCounts_run {sv : Value} {zs : List Int} {len : Nat} {Oa : Option Nat} (hg : HasG gs H) (hn : nG ≤ H.next) (hrow : Row 28 false H sv (zs.map (Value.int .u64)) Oa) (hlen : zs.length = len) (hwf : ∀ n ∈ zs, (Lit.int .u64 n).wf = true) :
    CallR cx 6 #[sv] H (fun v _ => v = .bool true) := by
  obtain ⟨xs, hxs⟩ := keys_of hwf
  rw [hxs] at hrow
  clear hxs hwf hlen
  have hs := hrow.isSlice
  obtain ⟨rx, rfl, _⟩ := hs
  simp only [List.length_map] at hrow ⊢
  refine wk6 (by simp) ?_
  by_cases hbig : 120 < (xs.length : Int)
  · simp [c6, hbig]
    refine callV_R cba (alive_run (hasG_any _)) ?_
    rintro _ H2 ⟨rfl, hH⟩
    subst hH
    simp
  have hl : xs.length ≤ 120 := by omega
  have hcut : cut xs = xs := cut_short (by omega)
  unfold c6
  refine aw_cut (fun t => t.env 0 = .slice rx xs.length xs.length ∧ t.ds = [] ∧ t.H = H) (by simp) ?_
  rintro ⟨env, H1, ds⟩ ⟨e0, eds, hH⟩
  simp only at e0 eds hH
  subst hH
  refine aw_cut (fun t => t.env 0 = .slice rx xs.length xs.length ∧ t.ds = [] ∧ t.H = H1) (by simp [e0, hbig, eds]) ?_
  clear e0 eds
  rintro ⟨env, H2, ds⟩ ⟨e0, eds, hH⟩
  simp only at e0 eds hH
  subst hH
  obtain ⟨D, hD⟩ : ∃ D, D = distL xs := ⟨_, rfl⟩
  have hDl : D.length = xs.length := by rw [hD, distL_length]
  have hDg : ∀ i, i < xs.length → D.getD i 0 = dist xs i := fun i hi => by rw [hD, distL_get hi]
  have hDlo : ∀ i, i < xs.length → -1 ≤ D.getD i 0 := fun i hi => by rw [hD]; exact distL_ge hi
  obtain ⟨M, hM⟩ : ∃ M, M = bins xs := ⟨_, rfl⟩
  have hmx : mxD xs = mxK D xs.length := by rw [hD]; rfl
  have hmg := mxD_ge xs
  have hml := mxD_le xs
  have hMI : (M : Int) = mxD xs + 1 := by rw [hM]; unfold bins; omega
  -- the histogram
  refine aw_cut (fun t => t.env 0 = .slice rx xs.length xs.length ∧ t.env 4 = i64 ((cnt D (-1) xs.length : Nat) : Int) ∧ t.ds = [] ∧ Fresh H2 t.H ∧ IL H2.next t.H (t.env 3) (histK D M xs.length)) ?_ ?_
  · simp [e0]
    refine callV_R cb16 (histogram_run hrow (by omega)) ?_
    rintro v H3 ⟨f3, hv, rfl, i3⟩
    rw [hcut, ← hM, ← hD] at i3
    rw [hcut, ← hD]
    simp [e0, eds, f3]
    exact i3
  clear e0 eds
  rintro ⟨env, H3, ds⟩ ⟨e0, e4, eds, f3, i3⟩
  simp only at e0 e4 eds f3 i3
  generalize e3 : env 3 = v3 at i3
  obtain ⟨r3, rfl⟩ := i3.isSlice
  simp only [histK_length] at i3 e3
  have hP0 : cP D 0 = cnt D (-1) xs.length := by
    rw [cP_zero (fun z hz => by obtain ⟨i, hi, rfl⟩ := mem_getD hz; exact hDlo i (by omega)), ← hDl, cnt_full]
  rw [← hP0] at e4
  refine aw_cut (fun t => t.env 0 = .slice rx xs.length xs.length ∧ t.env 3 = .slice r3 M M ∧ t.env 5 = i64 (-1) ∧ t.env 6 = i64 ((cP D 0 : Nat) : Int) ∧ t.ds = [] ∧ t.H = H3) (by simp [e0, e3, e4, eds]) ?_
  clear e0 e3 e4 eds
  rintro ⟨env, H4, ds⟩ ⟨e0, e3, e5, e6, eds, hH⟩
  simp only at e0 e3 e5 e6 eds hH
  subst hH
  have hrow4 := hrow.keep f3 (fun _ _ => id)
  -- the greatest distance
  refine aw_cut (fun t => t.env 0 = .slice rx xs.length xs.length ∧ t.env 3 = .slice r3 M M ∧ t.env 5 = i64 (mxD xs) ∧ t.env 6 = i64 ((cP D 0 : Nat) : Int) ∧ t.ds = [] ∧ Fresh H4 t.H) ?_ ?_
  · simp [e0]
    refine aw_loop_to xs.length (fun k t => t.env 0 = .slice rx xs.length xs.length ∧ t.env 3 = .slice r3 M M ∧ t.env 5 = i64 (mxK D k) ∧ t.env 6 = i64 ((cP D 0 : Nat) : Int) ∧ t.env 25 = i64 (xs.length : Nat) ∧ t.env 26 = i64 (k : Nat) ∧ t.ds = [] ∧ Fresh H4 t.H) ?_ ?_ ?_
    · clear e0 e3 e5 e6 eds
      rintro k ⟨env, H5, ds⟩ hk ⟨e0, e3, e5, e6, e25, e26, eds, f5⟩
      simp only at e0 e3 e5 e6 e25 e26 eds f5
      have hkI : (k : Int) < xs.length := by omega
      have hw : IntKind.i64.wrap ((k : Int) + 1) = (k : Int) + 1 := w64 (by omega)
      have hmk : mxK D (k + 1) = max (mxK D k) (dist xs k) := by rw [mxK, hDg k hk]
      simp [e0, e3, e5, e6, e25, e26, hkI, hk]
      refine callV_R cb13 (rdist_run (hrow4.keep f5 (fun _ _ => id)) (by omega) hk) ?_
      rintro _ H6 ⟨rfl, f6⟩
      generalize dist xs k = d at hmk ⊢
      simp [e0, e3, e5, e6, e25, e26, hw, ← hmk, eds, f5.trans f6]
      try exact hmk.symm
    · clear e0 e3 e5 e6 eds
      rintro ⟨env, H5, ds⟩ ⟨e0, e3, e5, e6, e25, e26, eds, f5⟩
      simp only at e0 e3 e5 e6 e25 e26 eds f5
      simp [e0, e3, e5, e6, e25, e26, eds, f5, hmx]
    · simp [e0, e3, e5, e6, eds, Fresh.refl, mxK]
  clear e0 e3 e5 e6 eds
  rintro ⟨env, H5, ds⟩ ⟨e0, e3, e5, e6, eds, f5⟩
  simp only at e0 e3 e5 e6 eds f5
  have hw1 : IntKind.i64.wrap (mxD xs + 1) = (M : Int) := by rw [w64 (by omega), hMI]
  refine aw_cut (fun t => t.env 0 = .slice rx xs.length xs.length ∧ t.env 3 = .slice r3 M M ∧ t.env 6 = i64 ((cP D 0 : Nat) : Int) ∧ t.ds = [] ∧ t.H = H5) (by simp [e0, e3, e5, e6, hw1, eds]) ?_
  clear e0 e3 e5 e6 eds
  rintro ⟨env, H6, ds⟩ ⟨e0, e3, e6, eds, hH⟩
  simp only at e0 e3 e6 eds hH
  subst hH
  have hcPl := fun d => cP_le D d
  have i6 := i3.fresh f5
  have hrow6 := hrow4.keep f5 (fun _ _ => id)
  -- each distance
  refine aw_cut (fun t => t.env 0 = .slice rx xs.length xs.length ∧ t.env 6 = i64 (xs.length : Nat) ∧ t.ds = []) ?_ ?_
  · simp [e3]
    refine aw_loop_to M (fun k t => t.env 0 = .slice rx xs.length xs.length ∧ t.env 6 = i64 ((cP D k : Nat) : Int) ∧ t.env 40 = .slice r3 M M ∧ t.env 41 = i64 (M : Nat) ∧ t.env 42 = i64 (k : Nat) ∧ t.ds = [] ∧ Fresh H6 t.H) ?_ ?_ ?_
    · clear e0 e3 e6 eds
      rintro k ⟨env, H7, ds⟩ hk ⟨e0, e6, e40, e41, e42, eds, f7⟩
      simp only at e0 e6 e40 e41 e42 eds f7
      have hkI : (k : Int) < M := by omega
      have hw : IntKind.i64.wrap ((k : Int) + 1) = (k : Int) + 1 := w64 (by omega)
      obtain ⟨la, oa, ca, hra, b1, b2, g1, g2⟩ := (i6.fresh f7).get (i := k) (by simpa using hk)
      rw [histK_get hk] at g2
      have hixa := ix24 la oa M M .i64 (k : Int) (by omega) hkI
      rw [Int.toNat_natCast] at hixa
      have hcs := cP_step D k
      have hcf := cnt_full D ((k : Nat) : Int)
      rw [hDl] at hcf
      rw [← hcf] at hcs
      have hp1 := hcPl k
      have hp2 := hcPl (k + 1)
      have hcnt := fun i hi => cnt_step (l := D) (k := i) hi ((k : Nat) : Int)
      have hcl := fun i => cnt_le D ((k : Nat) : Int) i
      have hw2 : IntKind.i64.wrap (((cP D k : Nat) : Int) + ((cnt D ((k : Nat) : Int) xs.length : Nat) : Int)) = ((cP D (k + 1) : Nat) : Int) := by rw [w64 (by omega)]; omega
      obtain ⟨N, hN⟩ : ∃ N, N = cnt D ((k : Nat) : Int) xs.length := ⟨_, rfl⟩
      have hmono : ∀ i, i ≤ xs.length → cnt D ((k : Nat) : Int) i ≤ N := by
        intro i hi
        rw [hN]
        unfold cnt
        exact List.Sublist.count_le _ (List.take_sublist_take_left hi)
      rw [← hN] at g2 hw2
      simp [e0, e6, e40, e41, e42, hkI, hk, hra, hixa, g1, g2, hw2]
      refine aw_loop_to xs.length (fun i t => t.env 0 = .slice rx xs.length xs.length ∧ t.env 6 = i64 ((cP D (k + 1) : Nat) : Int) ∧ t.env 8 = i64 (k : Nat) ∧ t.env 9 = i64 ((N : Int) - ((cnt D ((k : Nat) : Int) i : Nat) : Int)) ∧ t.env 40 = .slice r3 M M ∧ t.env 41 = i64 (M : Nat) ∧ t.env 42 = i64 (k : Nat) ∧ t.env 51 = i64 (xs.length : Nat) ∧ t.env 52 = i64 (i : Nat) ∧ t.ds = [] ∧ Fresh H6 t.H) ?_ ?_ ?_
      · clear e0 e6 e40 e41 e42 eds
        rintro i ⟨env, H8, ds⟩ hi ⟨e0, e6, e8, e9, e40, e41, e42, e51, e52, eds, f8⟩
        simp only at e0 e6 e8 e9 e40 e41 e42 e51 e52 eds f8
        have hiI : (i : Int) < xs.length := by omega
        have hwi : IntKind.i64.wrap ((i : Int) + 1) = (i : Int) + 1 := w64 (by omega)
        have hci := hcnt i (by omega)
        rw [hDg i hi] at hci
        have hm1 := hmono i (by omega)
        have hm2 := hmono (i + 1) (by omega)
        simp [e0, e6, e8, e9, e40, e41, e42, e51, e52, hiI, hi]
        refine callV_R cb13 (rdist_run (hrow6.keep f8 (fun _ _ => id)) (by omega) hi) ?_
        rintro _ H9 ⟨rfl, f9⟩
        have hNl : N ≤ xs.length := by rw [hN]; exact Nat.le_trans (hcl _) (Nat.le_refl _)
        generalize dist xs i = d at hci ⊢
        generalize cnt D ((k : Nat) : Int) (i + 1) = c1 at hci hm2 ⊢
        generalize cnt D ((k : Nat) : Int) i = c0 at hci hm1 e9
        by_cases hd : d = (k : Int)
        · rw [if_pos hd] at hci
          have hw3 : IntKind.i64.wrap ((N : Int) - (c0 : Int) - 1) = (N : Int) - (c1 : Int) := by rw [w64 (by omega)]; omega
          simp [e0, e6, e8, e9, e40, e41, e42, e51, e52, hd, hw3, hwi, eds, f8.trans f9]
        · rw [if_neg hd] at hci
          have hcc : c1 = c0 := by omega
          subst hcc
          simp [e0, e6, e8, e9, e40, e41, e42, e51, e52, hd, hwi, eds, f8.trans f9]
      · clear e0 e6 e40 e41 e42 eds
        rintro ⟨env, H8, ds⟩ ⟨e0, e6, e8, e9, e40, e41, e42, e51, e52, eds, f8⟩
        simp only at e0 e6 e8 e9 e40 e41 e42 e51 e52 eds f8
        rw [← hN, Int.sub_self] at e9
        simp [e0, e6, e8, e9, e40, e41, e42, e51, e52, hw, eds, f8]
      · have hc0 : cnt D ((k : Nat) : Int) 0 = 0 := rfl
        simp [e0, e6, e40, e41, e42, hw2, hc0, eds, f7]
    · clear e0 e3 e6 eds
      rintro ⟨env, H7, ds⟩ ⟨e0, e6, e40, e41, e42, eds, f7⟩
      simp only at e0 e6 e40 e41 e42 eds f7
      have hfull : cP D M = xs.length := by
        rw [cP_full, hDl]
        intro z hz
        obtain ⟨i, hi, rfl⟩ := mem_getD hz
        have := le_mxK D xs.length i (by omega)
        omega
      rw [hfull] at e6
      simp [e0, e6, e40, e41, e42, eds]
    · simp [e0, e3, e6, eds, Fresh.refl]
  clear e0 e3 e6 eds
  rintro ⟨env, H7, ds⟩ ⟨e0, e6, eds⟩
  simp only at e0 e6 eds
  have hmk : ∃ ls : List Nat, ls.length = 4097 ∧ aMakeSlice Try.prog 22 (i64 4097) (i64 4097) H7 = some (.slice (some ⟨H7.next, 0, none⟩) 4097 4097, ⟨H7.next + 1, upd H7.get H7.next (.cells (gcells ls) 28 true 1)⟩) := ⟨List.replicate 4097 0, List.length_replicate, mk22 4097 (by omega) H7⟩
  obtain ⟨ls, hls, hmk⟩ := hmk
  have hcl : cut ls = [] := cut_long (by omega)
  refine aw_cut (fun t => t.env 0 = .slice rx xs.length xs.length ∧ t.env 6 = i64 (xs.length : Nat) ∧ t.env 11 = .slice (some ⟨H7.next, 0, none⟩) 4097 4097 ∧ t.ds = [] ∧ t.H = ⟨H7.next + 1, upd H7.get H7.next (.cells (gcells ls) 28 true 1)⟩) (by simp [e0, e6, hmk, eds]) ?_
  clear e0 e6 eds hmk
  rintro ⟨env, H8, ds⟩ ⟨e0, e6, e11, eds, hH⟩
  simp only at e0 e6 e11 eds hH
  have hrow8 : Row 28 true H8 (.slice (some ⟨H7.next, 0, none⟩) 4097 4097) (gcells ls) (some H7.next) := by
    rw [hH]
    exact ⟨0, gcells ls, by simp [sl, hls], by simp, by simp [List.take_of_length_le], by simp, by simp⟩
  clear hH
  generalize hlv : Value.slice (some ⟨H7.next, 0, none⟩) 4097 4097 = lv at e11 hrow8
  refine aw_cut (fun t => t.env 0 = .slice rx xs.length xs.length ∧ t.env 6 = i64 (xs.length : Nat) ∧ t.env 11 = lv ∧ (∃ r, t.env 12 = .slice r 0 0) ∧ t.env 13 = i64 0 ∧ t.ds = [] ∧ Fresh H8 t.H) ?_ ?_
  · simp [e11]
    refine callV_R cb16 (histogram_run hrow8 (by omega)) ?_
    rintro v H9 ⟨f9, hv, rfl, i9⟩
    rw [hcl] at i9 ⊢
    have hz : histK (distL []) (bins []) ([] : List Nat).length = [] := rfl
    have hz2 : cnt (distL []) (-1) ([] : List Nat).length = 0 := rfl
    rw [hz] at i9
    rw [hz2]
    obtain ⟨r, rfl⟩ := i9.isSlice
    simp [e0, e6, e11, eds, f9]
  clear e0 e6 e11 eds
  rintro ⟨env, H9, ds⟩ ⟨e0, e6, e11, ⟨r, e12⟩, e13, eds, f9⟩
  simp only at e0 e6 e11 e12 e13 eds f9
  have hw0 : IntKind.i64.wrap 0 = 0 := w64 (by omega)
  simp [e0, e6, e11, e12, e13, hw0, Go.undef]
  refine callV_R cb8 (last_run (hrow8.keep f9 (fun _ _ => id)) (by omega)) ?_
  rintro v1 H10 ⟨f10, i10⟩
  rw [hcl] at i10
  obtain ⟨r1, rfl⟩ := i10.isSlice
  have f8 := f9.trans f10
  simp [e0, e6, e11, e12, e13, hw0, lastL, Go.undef]
  refine callV_R cb9 (next_run (hrow8.keep f8 (fun _ _ => id)) (by omega)) ?_
  rintro v2 H11 ⟨f11, i11⟩
  rw [hcl] at i11
  obtain ⟨r2, rfl⟩ := i11.isSlice
  have f8 := f8.trans f11
  simp [e0, e6, e11, e12, e13, hw0, nextL, Go.undef]
  refine callV_R cb10 (distances_run (hrow8.keep f8 (fun _ _ => id)) (by omega)) ?_
  rintro v3 H12 ⟨f12, i12⟩
  rw [hcl] at i12
  obtain ⟨r3', rfl⟩ := i12.isSlice
  have f8 := f8.trans f12
  simp [e0, e6, e11, e12, e13, hw0, distL, Go.undef]
  refine callV_R cb14 (recency_long (hrow8.keep f8 (fun _ _ => id)) (by omega)) ?_
  rintro _ H13 ⟨rfl, hH⟩
  subst hH
  simp [e0, e6, e11, e12, e13, hw0, Go.undef]
  refine callV_R cba (alive_run (hasG_any _)) ?_
  rintro _ H14 ⟨rfl, hH⟩
  subst hH
  simp [e0, e6, e11, e12, e13, hw0, eds, Go.undef]
end Go.Proofs.Ytikkokolmipppaa.C

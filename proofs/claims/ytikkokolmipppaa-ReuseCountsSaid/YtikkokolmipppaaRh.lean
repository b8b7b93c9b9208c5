/- Max, Histogram. Own text of this session. -/
import Derived.Test.YtikkokolmipppaaRg
set_option linter.unusedVariables false
set_option linter.unusedSimpArgs false
set_option maxRecDepth 4000
set_option maxHeartbeats 8000000
namespace Go.Proofs.Ytikkokolmipppaa.C
open Go Go.RowKit Go.Proofs.YtikkokolmipppaaA Go.Proofs.Ytikkokolmipppaa.Ones Go.Proofs.Ytikkokolmipppaa.Plain
variable {H : AH}
/-- the greatest of the first ones, from -1 on -/
def mxK (l : List Int) : Nat → Int
  | 0 => -1
  | k + 1 => max (mxK l k) (l.getD k 0)
theorem mxK_ge (l : List Int) : ∀ k, -1 ≤ mxK l k
  | 0 => Int.le_refl _
  | k + 1 => by have := mxK_ge l k; rw [mxK]; omega
theorem mxK_le {l : List Int} {c : Int} (hc : -1 ≤ c) (h : ∀ i, i < l.length → l.getD i 0 ≤ c) : ∀ k, k ≤ l.length → mxK l k ≤ c
  | 0, _ => hc
  | k + 1, hk => by
    have h1 := mxK_le hc h k (by omega)
    have h2 := h k (by omega)
    rw [mxK]; omega
theorem le_mxK (l : List Int) : ∀ k i, i < k → l.getD i 0 ≤ mxK l k
  | 0, i, h => by omega
  | k + 1, i, h => by
    rw [mxK]
    by_cases e : i = k
    · subst e; omega
    · have := le_mxK l k i (by omega)
      omega
theorem getD_mem {l : List Int} {i : Nat} (h : i < l.length) : l.getD i 0 ∈ l := by
  rw [List.getD_eq_getElem?_getD, List.getElem?_eq_getElem h]
  exact List.getElem_mem h
theorem mem_getD {l : List Int} {z : Int} (h : z ∈ l) : ∃ i, i < l.length ∧ l.getD i 0 = z := by
  obtain ⟨i, hi, rfl⟩ := List.mem_iff_getElem.1 h
  exact ⟨i, hi, by rw [List.getD_eq_getElem?_getD, List.getElem?_eq_getElem hi]; rfl⟩
theorem take_getD {l : List Int} {k : Nat} (hk : k < l.length) : l.take (k + 1) = l.take k ++ [l.getD k 0] := by
  rw [List.take_add_one, List.getElem?_eq_getElem hk, List.getD_eq_getElem?_getD, List.getElem?_eq_getElem hk]
  rfl
def cnt (l : List Int) (d : Int) (k : Nat) : Nat := (l.take k).count d
theorem cnt_step {l : List Int} {k : Nat} (hk : k < l.length) (d : Int) : cnt l d (k + 1) = cnt l d k + if l.getD k 0 = d then 1 else 0 := by
  unfold cnt
  rw [take_getD hk, List.count_append]
  congr 1
  by_cases e : l.getD k 0 = d
  · rw [if_pos e, e]; simp
  · rw [if_neg e]
    rw [List.count_singleton, if_neg (by simpa using e)]
theorem cnt_le (l : List Int) (d : Int) (k : Nat) : cnt l d k ≤ k := Nat.le_trans List.count_le_length (by simp; omega)
def histK (l : List Int) (M k : Nat) : List Int := (List.range M).map fun d => ((cnt l ((d : Nat) : Int) k : Nat) : Int)
@[simp] theorem histK_length (l : List Int) (M k : Nat) : (histK l M k).length = M := by simp [histK]
theorem histK_get {l : List Int} {M k d : Nat} (h : d < M) : (histK l M k).getD d 0 = ((cnt l ((d : Nat) : Int) k : Nat) : Int) := by
  rw [List.getD_eq_getElem?_getD, List.getElem?_eq_getElem (by simpa using h)]
  simp [histK]
theorem histK_zero (l : List Int) (M : Nat) : histK l M 0 = List.replicate M 0 := by
  refine List.ext_getElem (by simp [histK]) ?_
  intro i h1 h2
  simp [histK, cnt]
theorem histK_none {l : List Int} {M k : Nat} (hk : k < l.length) (h : l.getD k 0 = -1) : histK l M (k + 1) = histK l M k := by
  unfold histK
  refine List.map_congr_left fun d _ => ?_
  rw [cnt_step hk, h, if_neg (by omega)]
  rfl
theorem histK_some {l : List Int} {M k d : Nat} (hk : k < l.length) (h : l.getD k 0 = (d : Int)) : (histK l M k).set d (((cnt l ((d : Nat) : Int) k : Nat) : Int) + 1) = histK l M (k + 1) := by
  refine List.ext_getElem (by simp [histK]) ?_
  intro i h1 h2
  rw [List.getElem_set]
  simp only [histK, List.getElem_map, List.getElem_range]
  rw [cnt_step hk, h]
  by_cases e : d = i
  · subst e; simp
  · have e1 : ¬ (d : Int) = (i : Int) := by omega
    rw [if_neg e, if_neg e1]
    rfl
/-- slices.Max -/
theorem max_run {B : Nat} {sv : Value} {l : List Int} (h : IL B H sv l) (hne : 0 < l.length) (hl : l.length ≤ 100000) (h0 : -1 ≤ l.getD 0 0) : CallR cx 23 #[sv] H (fun v H' => v = i64 (mxK l l.length) ∧ H' = H) := by
  obtain ⟨rx, rfl⟩ := h.isSlice
  refine wk23 (by simp) ?_
  have hnI : ¬ (l.length : Int) < 1 := by omega
  obtain ⟨la, oa, ca, hra, b1, b2, g1, g2⟩ := h.get hne
  have hix0 := ix24 la oa l.length l.length .i64 0 (by omega) (by omega)
  rw [show (0 : Int).toNat = 0 from rfl, Nat.add_zero] at hix0
  rw [Nat.add_zero] at g2
  have hm1 : mxK l 1 = l.getD 0 0 := by rw [mxK, mxK]; omega
  rw [← hm1] at g2
  unfold c23
  refine aw_cut (fun t => t.env 0 = .slice rx l.length l.length ∧ t.ds = [] ∧ t.H = H) (by simp) ?_
  rintro ⟨env, H1, ds⟩ ⟨e0, eds, hH⟩
  simp only at e0 eds hH
  subst hH
  refine aw_cut (fun t => t.env 0 = .slice rx l.length l.length ∧ t.ds = [] ∧ t.H = H1) (by simp [e0, hnI, eds]) ?_
  clear e0 eds
  rintro ⟨env, H2, ds⟩ ⟨e0, eds, hH⟩
  simp only at e0 eds hH
  subst hH
  refine aw_cut (fun t => t.env 0 = .slice rx l.length l.length ∧ t.env 3 = i64 (mxK l 1) ∧ t.ds = [] ∧ t.H = H2) (by simp [e0, hra, hix0, g1, g2, eds]) ?_
  clear e0 eds
  rintro ⟨env, H3, ds⟩ ⟨e0, e3, eds, hH⟩
  simp only at e0 e3 eds hH
  subst hH
  refine aw_cut (fun t => t.env 3 = i64 (mxK l l.length) ∧ t.ds = [] ∧ t.H = H3) ?_ ?_
  · simp
    refine aw_loop_to (l.length - 1) (fun m t => t.env 0 = .slice rx l.length l.length ∧ t.ds = [] ∧ t.H = H3 ∧ ∃ k, k = m + 1 ∧ t.env 3 = i64 (mxK l k) ∧ t.env 4 = i64 (k : Nat)) ?_ ?_ ?_
    · clear e0 e3 eds
      rintro m ⟨env, H4, ds⟩ hm ⟨e0, eds, hH, k, hkm, e3, e4⟩
      simp only at e0 e3 e4 eds hH
      subst hH
      have hk : k < l.length := by omega
      have hkI : (k : Int) < l.length := by omega
      have hw : IntKind.i64.wrap ((k : Int) + 1) = (k : Int) + 1 := w64 (by omega)
      obtain ⟨lb, ob, cb, hrb, _, _, k1, k2⟩ := h.get hk
      rw [hra] at hrb
      cases hrb
      rw [g1] at k1
      cases k1
      have hixa := ix24 la oa l.length l.length .i64 (k : Int) (by omega) hkI
      rw [Int.toNat_natCast] at hixa
      have hmx : mxK l (k + 1) = max (mxK l k) (l.getD k 0) := rfl
      generalize l.getD k 0 = z at k2 hmx
      simp [e0, e3, e4, hkI, hk, hra, hixa, g1, k2, ← hmx, hw, eds]
      rw [show m + 1 + 1 = k + 1 by omega]
      exact ⟨rfl, by omega⟩
    · clear e0 e3 eds
      rintro ⟨env, H4, ds⟩ ⟨e0, eds, hH, k, hkm, e3, e4⟩
      simp only at e0 e3 e4 eds hH
      obtain rfl : k = l.length := by omega
      simp [e0, e3, e4, eds, hH]
    · simp [e0, e3, eds]
  clear e0 e3 eds
  rintro ⟨env, H4, ds⟩ ⟨e3, eds, hH⟩
  simp only at e3 eds hH
  simp [e3, eds, hH]
def mxD (ys : List Nat) : Int := mxK (distL ys) ys.length
def bins (ys : List Nat) : Nat := (mxD ys + 1).toNat
theorem distL_ge {ys : List Nat} {i : Nat} (hi : i < ys.length) : -1 ≤ (distL ys).getD i 0 := by rw [distL_get hi]; exact recI_ge _ _ _
theorem distL_le {ys : List Nat} {i : Nat} (hi : i < ys.length) : (distL ys).getD i 0 ≤ ys.length := by
  rw [distL_get hi]
  have := recI_le ys i (ys.getD i 0)
  show recI ys i (ys.getD i 0) ≤ _
  omega
theorem mxD_ge (ys : List Nat) : -1 ≤ mxD ys := mxK_ge _ _
theorem mxD_le (ys : List Nat) : mxD ys ≤ ys.length := mxK_le (by omega) (fun i hi => distL_le (by simpa using hi)) _ (by simp)
/-- Histogram -/
def HisR (ys : List Nat) (B : Nat) (H : AH) (v : Value) : Prop := ∃ hv, v = .tuple #[hv, i64 ((cnt (distL ys) (-1) ys.length : Nat) : Int)] ∧ IL B H hv (histK (distL ys) (bins ys) ys.length)
theorem histogram_run {w : Bool} {sv : Value} {xs : List Nat} {O : Option Nat} (h : Row 28 w H sv (gcells xs) O) (hl : xs.length ≤ 50000) : CallR cx 16 #[sv] H (fun v H' => Fresh H H' ∧ HisR (cut xs) H.next H' v) := by
  have hs := h.isSlice
  obtain ⟨rx, hsv, _⟩ := hs
  refine wk16 (by simp) ?_
  obtain ⟨ys, hys⟩ : ∃ ys, ys = cut xs := ⟨_, rfl⟩
  rw [← hys]
  have hny := cut_len xs
  rw [← hys] at hny
  unfold c16
  refine aw_cut (fun t => t.env 0 = sv ∧ t.ds = [] ∧ t.H = H) (by simp) ?_
  rintro ⟨env, H1, ds⟩ ⟨e0, eds, hH⟩
  simp only at e0 eds hH
  subst hH
  refine aw_cut (fun t => t.ds = [] ∧ Fresh H1 t.H ∧ IL H1.next t.H (t.env 4) (distL ys)) ?_ ?_
  · simp [e0]
    refine callV_R cb10 (distances_run h hl) ?_
    rintro v H2 ⟨f2, hv⟩
    rw [← hys] at hv
    simp [eds, f2]
    exact hv
  clear e0 eds
  rintro ⟨env, H2, ds⟩ ⟨eds, f2, hil⟩
  simp only at eds f2 hil
  generalize e4 : env 4 = v4 at hil
  obtain ⟨r4, rfl⟩ := hil.isSlice
  simp only [distL_length] at hil e4
  by_cases h0 : ys.length = 0
  · have hy : ys = [] := List.length_eq_zero_iff.1 h0
    have h0I : (ys.length : Int) = 0 := by omega
    have hb : bins ys = 0 := by rw [hy]; rfl
    have hc : cnt (distL ys) (-1) ys.length = 0 := by rw [hy]; rfl
    refine aw_cut (fun _ => False) ?_ (fun _ hf => hf.elim)
    simp [e4, h0, eds, f2]
    refine ⟨.slice none 0 0, by rw [hc]; rfl, ?_⟩
    have : histK (distL ys) (bins ys) ys.length = [] := by rw [hb]; rfl
    rw [this]
    exact IL.nil
  have h0I : ¬ (ys.length : Int) = 0 := by omega
  have hf2n := f2.1
  refine aw_cut (fun t => t.env 4 = .slice r4 ys.length ys.length ∧ t.ds = [] ∧ t.H = H2) (by simp [e4, h0, eds]) ?_
  clear e4 eds
  rintro ⟨env, H3, ds⟩ ⟨e4, eds, hH⟩
  simp only at e4 eds hH
  subst hH
  have hmg := mxD_ge ys
  have hml := mxD_le ys
  have hwm : IntKind.i64.wrap (mxD ys + 1) = ((bins ys : Nat) : Int) := by rw [w64 (by omega)]; unfold bins; omega
  have hbl : bins ys ≤ 5000 := by unfold bins; omega
  have hmr := max_run hil (by simp; omega) (by simp; omega) (distL_ge (by omega))
  simp only [distL_length] at hmr
  have hmr' : CallR cx 23 #[.slice r4 ys.length ys.length] H3 (fun v H' => v = i64 (mxD ys) ∧ H' = H3) := hmr
  have hle : ∀ i, i < ys.length → (distL ys).getD i 0 < (bins ys : Int) := fun i hi => by
    have := le_mxK (distL ys) ys.length i hi
    change _ ≤ mxD ys at this
    unfold bins; omega
  generalize hM : bins ys = M at *
  have hms := mk24 M (by omega) H3
  refine aw_cut (fun t => t.env 4 = .slice r4 ys.length ys.length ∧ t.env 5 = .slice (some ⟨H3.next, 0, none⟩) M M ∧ t.ds = [] ∧ t.H = ⟨H3.next + 1, upd H3.get H3.next (.cells (icells (List.replicate M 0)) 3 true 1)⟩) ?_ ?_
  · simp [e4]
    refine callV_R cb23 hmr' ?_
    rintro _ H4 ⟨rfl, hH⟩
    subst hH
    simp [e4, hwm, hms, eds, -List.reduceReplicate]
  clear e4 eds
  rintro ⟨env, H4, ds⟩ ⟨e4, e5, eds, hH⟩
  simp only at e4 e5 eds hH
  have f4 : Fresh H3 H4 := by rw [hH]; exact Fresh.ofNew
  have r4' : H4.get H3.next = some (.cells (icells (List.replicate M 0)) 3 true 1) := by rw [hH]; simp
  have n4 : H4.next = H3.next + 1 := by rw [hH]
  clear hH
  obtain ⟨B, hB⟩ : ∃ B, B = H3.next := ⟨_, rfl⟩
  rw [← hB] at e5 r4'
  rw [← histK_zero (distL ys)] at r4'
  refine aw_cut (fun t => t.env 4 = .slice r4 ys.length ys.length ∧ t.env 5 = .slice (some ⟨B, 0, none⟩) M M ∧ t.env 6 = i64 0 ∧ t.ds = [] ∧ t.H = H4) (by simp [e4, e5, eds]) ?_
  clear e4 e5 eds
  rintro ⟨env, H4', ds⟩ ⟨e4, e5, e6, eds, hH⟩
  simp only at e4 e5 e6 eds hH
  subst hH
  refine aw_cut (fun t => t.env 5 = .slice (some ⟨B, 0, none⟩) M M ∧ t.env 6 = i64 ((cnt (distL ys) (-1) ys.length : Nat) : Int) ∧ t.ds = [] ∧ Fresh H3 t.H ∧ B < t.H.next ∧ t.H.get B = some (.cells (icells (histK (distL ys) M ys.length)) 3 true 1)) ?_ ?_
  · simp [e4]
    refine aw_loop_to ys.length (fun k t => t.env 5 = .slice (some ⟨B, 0, none⟩) M M ∧ t.env 6 = i64 ((cnt (distL ys) (-1) k : Nat) : Int) ∧ t.env 18 = .slice r4 ys.length ys.length ∧ t.env 19 = i64 (ys.length : Nat) ∧ t.env 20 = i64 (k : Nat) ∧ t.ds = [] ∧ Fresh H3 t.H ∧ B < t.H.next ∧
      t.H.get B = some (.cells (icells (histK (distL ys) M k)) 3 true 1)) ?_ ?_ ?_
    · clear e4 e5 e6 eds r4' f4 n4
      rintro k ⟨env, H5, ds⟩ hk ⟨e5, e6, e18, e19, e20, eds, f5, hB5, r5⟩
      simp only at e5 e6 e18 e19 e20 eds f5 hB5 r5
      have hkI : (k : Int) < ys.length := by omega
      have hw : IntKind.i64.wrap ((k : Int) + 1) = (k : Int) + 1 := w64 (by omega)
      obtain ⟨la, oa, ca, hra, b1, b2, g1, g2⟩ := (hil.fresh f5).get (i := k) (by simpa using hk)
      have hixa := ix24 la oa ys.length ys.length .i64 (k : Int) (by omega) hkI
      rw [Int.toNat_natCast] at hixa
      have hkd : k < (distL ys).length := by simpa using hk
      have hlo := distL_ge hk
      have hhi := hle k hk
      have hc1 := cnt_step hkd (-1)
      have hcl := cnt_le (distL ys) (-1) k
      by_cases hz : (distL ys).getD k 0 = -1
      · have hhn := histK_none (M := M) hkd hz
        rw [hz] at g2 hc1
        rw [if_pos rfl] at hc1
        rw [← hhn] at r5
        have hw2 : IntKind.i64.wrap (((cnt (distL ys) (-1) k : Nat) : Int) + 1) = ((cnt (distL ys) (-1) (k + 1) : Nat) : Int) := by rw [w64 (by omega)]; omega
        generalize cnt (distL ys) (-1) (k + 1) = c1 at hw2 ⊢
        generalize cnt (distL ys) (-1) k = c0 at hw2 e6
        simp [e5, e6, e18, e19, e20, hk, hkI, hra, hixa, g1, g2, hw, hw2, eds, f5, hB5, r5]
      · obtain ⟨d, hd⟩ : ∃ d : Nat, (distL ys).getD k 0 = (d : Int) := ⟨((distL ys).getD k 0).toNat, by omega⟩
        have hhs := histK_some (M := M) hkd hd
        rw [if_neg hz] at hc1
        rw [hd] at g2 hhi
        have hdM : d < M := by omega
        have hne : ¬ ((d : Int) = -1) := by omega
        have hixb := ix24 B 0 M M .i64 (d : Int) (by omega) hhi
        rw [Int.toNat_natCast] at hixb
        have hget := icells_get (ws := histK (distL ys) M k) (i := d) (by simpa using hdM)
        rw [histK_get hdM] at hget
        have hcd := cnt_le (distL ys) ((d : Nat) : Int) k
        have hst := wr_ints r5 (i := d) (by simpa using hdM) (((cnt (distL ys) ((d : Nat) : Int) k : Nat) : Int) + 1)
        rw [hhs] at hst
        have hw2 : IntKind.i64.wrap (((cnt (distL ys) ((d : Nat) : Int) k : Nat) : Int) + 1) = ((cnt (distL ys) ((d : Nat) : Int) k : Nat) : Int) + 1 := w64 (by omega)
        have hc1' : cnt (distL ys) (-1) (k + 1) = cnt (distL ys) (-1) k := by omega
        rw [← hc1'] at e6
        generalize cnt (distL ys) (-1) (k + 1) = c1 at e6 ⊢
        generalize cnt (distL ys) ((d : Nat) : Int) k = c0 at hw2 hst hget
        simp [e5, e6, e18, e19, e20, hk, hkI, hra, hixa, hixb, g1, g2, hne, r5, hget, hw, hw2, hst, eds, -st3]
        refine ⟨⟨f5.1, fun l hl _ => ?_⟩, hB5⟩
        have : ¬ l = B := by omega
        simp [this]
        exact f5.get hl
    · clear e4 e5 e6 eds r4' f4 n4
      rintro ⟨env, H5, ds⟩ ⟨e5, e6, e18, e19, e20, eds, f5, hB5, r5⟩
      simp only at e5 e6 e18 e19 e20 eds f5 hB5 r5
      simp [e5, e6, e19, e20, eds, f5, hB5, r5]
    · simp [e4, e5, e6, eds, f4, r4']
      exact ⟨rfl, by omega⟩
  clear e4 e5 e6 eds
  rintro ⟨env, H5, ds⟩ ⟨e5, e6, eds, f5, hB5, r5⟩
  simp only at e5 e6 eds f5 hB5 r5
  have := IL.of (B := H1.next) (H := H5) (l := histK (distL ys) M ys.length) (by omega) hB5 r5
  rw [histK_length] at this
  simp [e5, e6, eds]
  exact ⟨f2.trans f5, _, rfl, by rw [hM]; exact this⟩
end Go.Proofs.Ytikkokolmipppaa.C

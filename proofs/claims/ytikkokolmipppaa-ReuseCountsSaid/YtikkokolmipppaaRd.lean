/- Next, Distances, Recency. Own text of this session. -/
import Derived.Test.YtikkokolmipppaaRc
set_option linter.unusedVariables false
set_option linter.unusedSimpArgs false
set_option maxRecDepth 4000
set_option maxHeartbeats 8000000
namespace Go.Proofs.Ytikkokolmipppaa.C
open Go Go.RowKit Go.Proofs.YtikkokolmipppaaA Go.Proofs.Ytikkokolmipppaa.Ones Go.Proofs.Ytikkokolmipppaa.Plain
variable {H : AH}
theorem lastL_get {ys : List Nat} {k : Nat} (hk : k < ys.length) : (lastL ys).getD k 0 = ov (lst ys k) := by
  rw [List.getD_eq_getElem?_getD, List.getElem?_eq_getElem (by simpa using hk)]
  simp [lastL]
theorem cut_rep (xs : List Nat) : List.replicate (cut xs).length ((xs.length : Nat) : Int) = nextK (cut xs) 0 := by
  rw [nextK_zero]
  by_cases h : xs.length ≤ 4096
  · rw [cut_short h]
  · rw [cut_long h]; rfl
theorem lst_lt_len {xs : List Nat} {i k : Nat} (hi : i < xs.length) (h : lst xs i = some k) : k < xs.length := by have := lst_lt h; omega
/-- Next -/
theorem next_run {w : Bool} {sv : Value} {xs : List Nat} {O : Option Nat} (h : Row 28 w H sv (gcells xs) O) (hl : xs.length ≤ 50000) : CallR cx 9 #[sv] H (fun v H' => Fresh H H' ∧ IL H.next H' v (nextL (cut xs))) := by
  have hs := h.isSlice
  obtain ⟨rx, hsv, _⟩ := hs
  simp only [List.length_map] at hsv
  refine wk9 (by simp) ?_
  obtain ⟨ys, hys⟩ : ∃ ys, ys = cut xs := ⟨_, rfl⟩
  rw [← hys]
  have hny := cut_len xs
  have hrep := cut_rep xs
  rw [← hys] at hny hrep
  unfold c9
  refine aw_cut (fun t => t.env 0 = sv ∧ t.ds = [] ∧ t.H = H) (by simp) ?_
  rintro ⟨env, H1, ds⟩ ⟨e0, eds, hH⟩
  simp only at e0 eds hH
  subst hH
  refine aw_cut (fun t => t.env 0 = sv ∧ t.ds = [] ∧ Fresh H1 t.H ∧ IL H1.next t.H (t.env 3) (lastL ys)) ?_ ?_
  · simp [e0]
    refine callV_R cb8 (last_run h hl) ?_
    rintro v H2 ⟨f2, hv⟩
    rw [← hys] at hv
    simp [e0, eds, f2]
    exact hv
  clear e0 eds
  rintro ⟨env, H2, ds⟩ ⟨e0, eds, f2, hil⟩
  simp only at e0 eds f2 hil
  generalize e3 : env 3 = v3 at hil
  obtain ⟨r3, rfl⟩ := hil.isSlice
  simp only [lastL_length] at hil e3
  have hms := mk24 ys.length (by omega) H2
  refine aw_cut (fun t => t.env 0 = sv ∧ t.env 3 = .slice r3 ys.length ys.length ∧ t.env 4 = .slice (some ⟨H2.next, 0, none⟩) ys.length ys.length ∧ t.ds = [] ∧ t.H = ⟨H2.next + 1, upd H2.get H2.next (.cells (icells (List.replicate ys.length 0)) 3 true 1)⟩) (by simp [e0, e3, hms, eds, -List.reduceReplicate]) ?_
  clear e0 e3 eds
  rintro ⟨env, H3, ds⟩ ⟨e0, e3, e4, eds, hH⟩
  simp only at e0 e3 e4 eds hH
  have f3 : Fresh H2 H3 := by rw [hH]; exact Fresh.ofNew
  have r3' : H3.get H2.next = some (.cells (icells (List.replicate ys.length 0)) 3 true 1) := by rw [hH]; simp
  have n3 : H3.next = H2.next + 1 := by rw [hH]
  clear hH
  obtain ⟨B, hB⟩ : ∃ B, B = H2.next := ⟨_, rfl⟩
  rw [← hB] at e4 r3'
  have hf2n := f2.1
  refine aw_cut (fun t => t.env 3 = .slice r3 ys.length ys.length ∧ t.env 4 = .slice (some ⟨B, 0, none⟩) ys.length ys.length ∧ t.ds = [] ∧ Fresh H2 t.H ∧ B < t.H.next ∧ t.H.get B = some (.cells (icells (nextK ys 0)) 3 true 1)) ?_ ?_
  · simp [e4]
    refine aw_loop_to ys.length (fun k t => t.env 0 = sv ∧ t.env 3 = .slice r3 ys.length ys.length ∧ t.env 4 = .slice (some ⟨B, 0, none⟩) ys.length ys.length ∧ t.env 14 = i64 (ys.length : Nat) ∧ t.env 15 = i64 (k : Nat) ∧ t.ds = [] ∧ Fresh H2 t.H ∧ B < t.H.next ∧
      t.H.get B = some (.cells (icells (fillL 0 (fun _ => (xs.length : Int)) ys.length k)) 3 true 1)) ?_ ?_ ?_
    · clear e0 e3 e4 eds r3'
      rintro k ⟨env, H4, ds⟩ hk ⟨e0, e3, e4, e14, e15, eds, f4, hB4, r4⟩
      simp only at e0 e3 e4 e14 e15 eds f4 hB4 r4
      have hkI : (k : Int) < ys.length := by omega
      have hw : IntKind.i64.wrap ((k : Int) + 1) = (k : Int) + 1 := w64 (by omega)
      have hixb := ix24 B 0 ys.length ys.length .i64 (k : Int) (by omega) hkI
      rw [Int.toNat_natCast] at hixb
      have hw1 := wr_ints r4 (i := k) (by rw [fillL_length]; exact hk) ((xs.length : Nat) : Int)
      rw [fillL_step (0 : Int) (fun _ => (xs.length : Int)) ys.length k _ rfl] at hw1
      simp [e0, e3, e4, e14, e15, hk, hkI, hixb, hsv, hw1, hw, eds, -st3]
      refine ⟨⟨f4.1, fun l hl _ => ?_⟩, hB4⟩
      have : ¬ l = B := by omega
      simp [this]
      exact f4.get hl
    · clear e0 e3 e4 eds r3'
      rintro ⟨env, H4, ds⟩ ⟨e0, e3, e4, e14, e15, eds, f4, hB4, r4⟩
      simp only at e0 e3 e4 e14 e15 eds f4 hB4 r4
      rw [fillL_full, List.map_const', List.length_range, hrep] at r4
      simp [e3, e4, e14, e15, eds, f4, hB4, r4]
    · simp [e0, e3, e4, eds, f3, r3', fillL_zero, -List.reduceReplicate]
      omega
  clear e0 e3 e4 eds r3'
  rintro ⟨env, H4, ds⟩ ⟨e3, e4, eds, f4, hB4, r4⟩
  simp only at e3 e4 eds f4 hB4 r4
  refine aw_cut (fun t => t.env 4 = .slice (some ⟨B, 0, none⟩) ys.length ys.length ∧ t.ds = [] ∧ Fresh H2 t.H ∧ B < t.H.next ∧ t.H.get B = some (.cells (icells (nextK ys ys.length)) 3 true 1)) ?_ ?_
  · simp [e3]
    refine aw_loop_to ys.length (fun k t => t.env 4 = .slice (some ⟨B, 0, none⟩) ys.length ys.length ∧ t.env 24 = .slice r3 ys.length ys.length ∧ t.env 25 = i64 (ys.length : Nat) ∧ t.env 26 = i64 (k : Nat) ∧ t.ds = [] ∧ Fresh H2 t.H ∧ B < t.H.next ∧
      t.H.get B = some (.cells (icells (nextK ys k)) 3 true 1)) ?_ ?_ ?_
    · clear e3 e4 eds r4 f4 hB4
      rintro k ⟨env, H5, ds⟩ hk ⟨e4, e24, e25, e26, eds, f5, hB5, r5⟩
      simp only at e4 e24 e25 e26 eds f5 hB5 r5
      have hkI : (k : Int) < ys.length := by omega
      have hw : IntKind.i64.wrap ((k : Int) + 1) = (k : Int) + 1 := w64 (by omega)
      obtain ⟨la, oa, ca, hra, b1, b2, g1, g2⟩ := (hil.fresh f5).get (i := k) (by simpa using hk)
      rw [lastL_get hk] at g2
      have hixa := ix24 la oa ys.length ys.length .i64 (k : Int) (by omega) hkI
      rw [Int.toNat_natCast] at hixa
      cases hlk : lst ys k with
      | none =>
        rw [hlk] at g2
        have hnk := nextK_none hlk
        rw [← hnk] at r5
        simp only [ov] at g2
        simp [e4, e24, e25, e26, hk, hkI, hra, hixa, g1, g2, hw, eds, f5, hB5, r5]
      | some j =>
        rw [hlk] at g2
        have hj := lst_lt_len hk hlk
        have hjI : (j : Int) < ys.length := by omega
        have hixb := ix24 B 0 ys.length ys.length .i64 (j : Int) (by omega) hjI
        rw [Int.toNat_natCast] at hixb
        have hw1 := wr_ints r5 (i := j) (by simp [nextK, hj]) ((k : Nat) : Int)
        rw [nextK_some hlk] at hw1
        simp only [ov] at g2
        have hne : ¬ ((j : Int) = -1) := by omega
        simp [e4, e24, e25, e26, hk, hkI, hra, hixa, hixb, g1, g2, hw, hw1, hne, eds, -st3]
        refine ⟨⟨f5.1, fun l hl _ => ?_⟩, hB5⟩
        have : ¬ l = B := by omega
        simp [this]
        exact f5.get hl
    · clear e3 e4 eds r4 f4 hB4
      rintro ⟨env, H5, ds⟩ ⟨e4, e24, e25, e26, eds, f5, hB5, r5⟩
      simp only at e4 e24 e25 e26 eds f5 hB5 r5
      simp [e4, e25, e26, eds, f5, hB5, r5]
    · simp [e3, e4, eds, f4, r4, hB4]
  clear e3 e4 eds r4 f4 hB4
  rintro ⟨env, H5, ds⟩ ⟨e4, eds, f5, hB5, r5⟩
  simp only at e4 eds f5 hB5 r5
  have := IL.of (B := H1.next) (H := H5) (l := nextL ys) (by omega) hB5 r5
  rw [nextL_length] at this
  simp [e4, eds]
  exact ⟨f2.trans f5, this⟩
/-- Distances -/
theorem distances_run {w : Bool} {sv : Value} {xs : List Nat} {O : Option Nat} (h : Row 28 w H sv (gcells xs) O) (hl : xs.length ≤ 50000) : CallR cx 10 #[sv] H (fun v H' => Fresh H H' ∧ IL H.next H' v (distL (cut xs))) := by
  have hs := h.isSlice
  obtain ⟨rx, hsv, _⟩ := hs
  simp only [List.length_map] at hsv
  refine wk10 (by simp) ?_
  obtain ⟨ys, hys⟩ : ∃ ys, ys = cut xs := ⟨_, rfl⟩
  rw [← hys]
  have hny := cut_len xs
  rw [← hys] at hny
  unfold c10
  refine aw_cut (fun t => t.env 0 = sv ∧ t.ds = [] ∧ t.H = H) (by simp) ?_
  rintro ⟨env, H1, ds⟩ ⟨e0, eds, hH⟩
  simp only at e0 eds hH
  subst hH
  refine aw_cut (fun t => t.ds = [] ∧ Fresh H1 t.H ∧ IL H1.next t.H (t.env 3) (lastL ys)) ?_ ?_
  · simp [e0]
    refine callV_R cb8 (last_run h hl) ?_
    rintro v H2 ⟨f2, hv⟩
    rw [← hys] at hv
    simp [eds, f2]
    exact hv
  clear e0 eds
  rintro ⟨env, H2, ds⟩ ⟨eds, f2, hil⟩
  simp only at eds f2 hil
  generalize e3 : env 3 = v3 at hil
  obtain ⟨r3, rfl⟩ := hil.isSlice
  simp only [lastL_length] at hil e3
  have hf2n := f2.1
  -- the set
  refine aw_cut (fun t => t.env 3 = .slice r3 ys.length ys.length ∧ t.env 4 = ptr (H2.next + 1) ∧ t.env 5 = i64 0 ∧ t.ds = [] ∧ Fresh H2 t.H ∧ t.H.next = H2.next + 2 ∧ IsSet t.H (H2.next + 1) H2.next ys.length (List.replicate ((ys.length + 63) / 64) 0)) ?_ ?_
  · simp [e3, -List.reduceReplicate]
    refine callV_R cb18 (mnew_run (by omega)) ?_
    rintro _ H3 ⟨rfl, f3, n3, hset⟩
    simp [e3, eds, f3, n3, -List.reduceReplicate]
    exact hset
  clear e3 eds
  rintro ⟨env, H3, ds⟩ ⟨e3, e4, e5, eds, f3, n3, hset⟩
  simp only at e3 e4 e5 eds f3 n3 hset
  refine aw_cut (fun t => t.env 3 = .slice r3 ys.length ys.length ∧ t.env 4 = ptr (H2.next + 1) ∧ t.ds = [] ∧ t.H = H3) (by simp [e3, e4, e5, eds]) ?_
  clear e3 e4 e5 eds
  rintro ⟨env, H3', ds⟩ ⟨e3, e4, eds, hH⟩
  simp only at e3 e4 eds hH
  subst hH
  have hms := mk24 ys.length (by omega) H3'
  refine aw_cut (fun t => t.env 3 = .slice r3 ys.length ys.length ∧ t.env 4 = ptr (H2.next + 1) ∧ t.env 6 = .slice (some ⟨H3'.next, 0, none⟩) ys.length ys.length ∧ t.ds = [] ∧ t.H = ⟨H3'.next + 1, upd H3'.get H3'.next (.cells (icells (List.replicate ys.length 0)) 3 true 1)⟩) (by simp [e3, e4, hms, eds, -List.reduceReplicate]) ?_
  clear e3 e4 eds
  rintro ⟨env, H4, ds⟩ ⟨e3, e4, e6, eds, hH⟩
  simp only at e3 e4 e6 eds hH
  have f4 : Fresh H3' H4 := by rw [hH]; exact Fresh.ofNew
  have r4 : H4.get H3'.next = some (.cells (icells (List.replicate ys.length 0)) 3 true 1) := by rw [hH]; simp
  have n4 : H4.next = H3'.next + 1 := by rw [hH]
  clear hH
  obtain ⟨B, hB⟩ : ∃ B, B = H3'.next := ⟨_, rfl⟩
  rw [← hB] at e6 r4
  have hset4 := hset.fresh f4
  have f24 := f3.trans f4
  refine aw_cut (fun t => t.env 6 = .slice (some ⟨B, 0, none⟩) ys.length ys.length ∧ t.ds = [] ∧ Fresh H2 t.H ∧ B < t.H.next ∧ t.H.get B = some (.cells (icells (distL ys)) 3 true 1)) ?_ ?_
  · simp [e3]
    refine aw_loop_to ys.length (fun k t => t.env 4 = ptr (H2.next + 1) ∧ t.env 6 = .slice (some ⟨B, 0, none⟩) ys.length ys.length ∧ t.env 22 = .slice r3 ys.length ys.length ∧ t.env 23 = i64 (ys.length : Nat) ∧ t.env 24 = i64 (k : Nat) ∧ t.ds = [] ∧ Fresh H2 t.H ∧ B < t.H.next ∧
      t.H.get B = some (.cells (icells (fillL 0 (dist ys) ys.length k)) 3 true 1) ∧ ∃ ws, IsSet t.H (H2.next + 1) H2.next ys.length ws ∧ ∀ j, bitAt ws j = live ys k j) ?_ ?_ ?_
    · clear e3 e4 e6 eds r4 hset4 hset f24 f4 f3
      rintro k ⟨env, H5, ds⟩ hk ⟨e4, e6, e22, e23, e24, eds, f5, hB5, r5, ws, hset, hws⟩
      simp only at e4 e6 e22 e23 e24 eds f5 hB5 r5 hset
      have hkI : (k : Int) < ys.length := by omega
      have hw : IntKind.i64.wrap ((k : Int) + 1) = (k : Int) + 1 := w64 (by omega)
      obtain ⟨la, oa, ca, hra, b1, b2, g1, g2⟩ := (hil.fresh f5).get (i := k) (by simpa using hk)
      rw [lastL_get hk] at g2
      have hixa := ix24 la oa ys.length ys.length .i64 (k : Int) (by omega) hkI
      have hixb := ix24 B 0 ys.length ys.length .i64 (k : Int) (by omega) hkI
      rw [Int.toNat_natCast] at hixa hixb
      have hw1 := wr_ints r5 (i := k) (by rw [fillL_length]; exact hk) (-1)
      have hstep := live_step hk
      have hdl := fun j => dist_live (bitAt ws) (below ws) (fun _ => rfl) hk (fun i _ => hws i) (k := j)
      obtain ⟨L0, hL0⟩ : ∃ L0, L0 = fillL 0 (dist ys) ys.length k := ⟨_, rfl⟩
      have hlen0 : L0.length = ys.length := by rw [hL0, fillL_length]
      have hfs := fillL_step (0 : Int) (dist ys) ys.length k
      rw [← hL0] at r5 hw1 hfs
      have k6 : Keep (fun l => l = B) H5 ⟨H5.next, upd H5.get B (.cells (icells (L0.set k (-1))) 3 true 1)⟩ := ⟨Nat.le_refl _, fun l _ hn => by simp [hn]⟩
      obtain ⟨H6, hH6⟩ : ∃ H6 : AH, H6 = ⟨H5.next, upd H5.get B (.cells (icells (L0.set k (-1))) 3 true 1)⟩ := ⟨_, rfl⟩
      rw [← hH6] at hw1 k6
      have r6 : H6.get B = some (.cells (icells (L0.set k (-1))) 3 true 1) := by rw [hH6]; simp
      have n6 : H6.next = H5.next := by rw [hH6]
      clear hH6
      have hset6 := hset.keep k6 (by omega) (by omega)
      have f6 : Fresh H2 H6 := ⟨by have := f5.1; omega, fun l hl _ => by rw [k6.get (by have := f5.1; omega) (by omega), f5.get hl]⟩
      cases hlk : lst ys k with
      | none =>
        rw [hlk] at g2
        simp only [ov] at g2
        have hd : dist ys k = -1 := by
          have : lastB ys (ys.getD k 0) k = none := hlk
          rw [dist, recI, this]
        rw [hfs (-1) hd.symm] at r6
        simp [e4, e6, e22, e23, e24, hk, hkI, hra, hixa, hixb, g1, g2, hw1, eds, -st3, -Int.reduceNeg]
        refine callV_R cb21 (put_run hset6 hk) ?_
        rintro _ H7 ⟨rfl, k7, n7, ws7, hset7, hws7⟩
        have r7 := k7.get (l := B) (by omega) (by omega)
        rw [r6] at r7
        simp [e4, e6, e22, e23, e24, hw, eds, r7]
        refine ⟨⟨by have := f6.1; omega, fun l hl _ => by rw [k7.get (by have := f6.1; omega) (by omega), f6.get hl]⟩, by omega, ws7, hset7, fun j => ?_⟩
        rw [hws7, hstep, hlk, hws]
        simp
      | some j =>
        rw [hlk] at g2
        have hjk := lst_lt hlk
        have hj := lst_lt_len hk hlk
        simp only [ov] at g2
        have hne : ¬ ((j : Int) = -1) := by omega
        have hd := hdl j hlk
        have hdr := recI_le ys k (ys.getD k 0)
        have hdr2 := recI_ge ys k (ys.getD k 0)
        have hb1 := below_le ws k
        have hb2 := below_le ws j
        have hw2 : IntKind.i64.wrap ((below ws k : Int) - (below ws j : Int)) = (below ws k : Int) - (below ws j : Int) := w64 (by omega)
        have hw3 : IntKind.i64.wrap ((below ws k : Int) - (below ws j : Int) - 1) = dist ys k := by rw [w64 (by omega), hd]
        have hst2 := wr_ints r6 (i := k) (by simp [hlen0, hk]) (dist ys k)
        rw [List.set_set, hfs _ rfl] at hst2
        have k7 : Keep (fun l => l = B) H6 ⟨H6.next, upd H6.get B (.cells (icells (fillL 0 (dist ys) ys.length (k + 1))) 3 true 1)⟩ := ⟨Nat.le_refl _, fun l _ hn => by simp [hn]⟩
        obtain ⟨H7, hH7⟩ : ∃ H7 : AH, H7 = ⟨H6.next, upd H6.get B (.cells (icells (fillL 0 (dist ys) ys.length (k + 1))) 3 true 1)⟩ := ⟨_, rfl⟩
        rw [← hH7] at hst2 k7
        have r7 : H7.get B = some (.cells (icells (fillL 0 (dist ys) ys.length (k + 1))) 3 true 1) := by rw [hH7]; simp
        have n7 : H7.next = H6.next := by rw [hH7]
        clear hH7
        have hset7 := hset6.keep k7 (by omega) (by omega)
        have f7 : Fresh H2 H7 := ⟨by have := f6.1; omega, fun l hl _ => by rw [k7.get (by have := f6.1; omega) (by omega), f6.get hl]⟩
        have hrk := rank_run hset6 (i := (k : Int)) (c := k) (by omega)
        have hrj := rank_run hset6 (i := (j : Int)) (c := j) (by omega)
        generalize below ws k = bk at hw2 hw3 hrk
        generalize below ws j = bj at hw2 hw3 hrj
        generalize dist ys k = dk at hw3 hst2
        simp [e4, e6, e22, e23, e24, hk, hkI, hra, hixa, hixb, g1, g2, hw1, hne, eds, -st3, -Int.reduceNeg]
        refine callV_R cb19 hrk ?_
        rintro _ H6' ⟨rfl, hH⟩
        subst hH
        simp [e4, e6, e22, e23, e24]
        refine callV_R cb19 hrj ?_
        rintro _ H6'' ⟨rfl, hH⟩
        subst hH
        simp [e4, e6, e22, e23, e24, hw2, hw3, hixb, hst2, -st3]
        refine callV_R cb20 (drop_run hset7 hj) ?_
        rintro _ H8 ⟨rfl, k8, n8, ws8, hset8, hws8⟩
        have r8 := k8.get (l := B) (by omega) (by omega)
        rw [r7] at r8
        have f8 : Fresh H2 H8 := ⟨by have := f7.1; omega, fun l hl _ => by rw [k8.get (by have := f7.1; omega) (by omega), f7.get hl]⟩
        simp [e4, e6, e22, e23, e24, eds]
        refine callV_R cb21 (put_run hset8 hk) ?_
        rintro _ H9 ⟨rfl, k9, n9, ws9, hset9, hws9⟩
        have r9 := k9.get (l := B) (by omega) (by omega)
        rw [r8] at r9
        simp [e4, e6, e22, e23, e24, hw, eds, r9]
        refine ⟨⟨by have := f8.1; omega, fun l hl _ => by rw [k9.get (by have := f8.1; omega) (by omega), f8.get hl]⟩, by omega, ws9, hset9, fun i => ?_⟩
        rw [hws9, hws8, hstep, hlk, hws]
        by_cases e1 : i = k
        · simp [e1]
        · by_cases e2 : i = j
          · simp [e1, e2]
          · have : ¬ j = i := fun e => e2 e.symm
            simp [e1, e2, this]
    · clear e3 e4 e6 eds r4
      rintro ⟨env, H5, ds⟩ ⟨e4, e6, e22, e23, e24, eds, f5, hB5, r5, _⟩
      simp only at e4 e6 e22 e23 e24 eds f5 hB5 r5
      rw [fillL_full] at r5
      simp [e6, e23, e24, eds, f5, hB5, r5, distL]
    · simp [e3, e4, e6, eds, f24, r4, fillL_zero, -List.reduceReplicate]
      refine ⟨by omega, _, hset4, fun j => ?_⟩
      rw [bitAt_zero]
      simp [live]
  clear e3 e4 e6 eds r4
  rintro ⟨env, H5, ds⟩ ⟨e6, eds, f5, hB5, r5⟩
  simp only at e6 eds f5 hB5 r5
  have := IL.of (B := H1.next) (H := H5) (l := distL ys) (by omega) hB5 r5
  rw [distL_length] at this
  simp [e6, eds]
  exact ⟨f2.trans f5, this⟩
end Go.Proofs.Ytikkokolmipppaa.C

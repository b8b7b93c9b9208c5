/- Counts one by one, over the small heap. Own text of this session. -/
import Derived.Test.YtnnjfbnaojdloaaDoorCnt
set_option linter.unusedVariables false
set_option linter.unusedSimpArgs false
set_option maxRecDepth 4000
set_option maxHeartbeats 8000000
namespace Go.Proofs.YtnnjfbnaojdloaaDoor.C
open Go Go.RowKit Go.Proofs.YtnnjfbnaojdloaaDoorA Go.Proofs.YtnnjfbnaojdloaaDoor.Plain
variable {H : AH}
abbrev u64 (n : Int) : Value := .int .u64 n
def cnts (ns : List Int) : List Value := ns.map u64
abbrev cntV (ns : List Int) : Value := .agg (cnts ns).toArray
abbrev cntB (ns : List Int) : ABlk := .cells (cnts ns) 24 true 0
@[simp] theorem cnts_length (ns : List Int) : (cnts ns).length = ns.length := by simp [cnts]
theorem cnts_at {ns : List Int} {k : Nat} (hk : k < ns.length) : (cnts ns)[k]? = some (u64 ns[k]) := by simp [cnts, hk]
theorem cnts_cell (ns : List Int) : ∀ v ∈ cnts ns, isCell v = true := by
  intro v hv
  obtain ⟨x, _, rfl⟩ := List.mem_map.1 hv
  rfl
theorem cnts_all (ns : List Int) : (cnts ns).all isCell = true := List.all_eq_true.2 (cnts_cell ns)
theorem ten {ns : List Int} (h : ns.length = 10) : ∃ a0 a1 a2 a3 a4 a5 a6 a7 a8 a9, ns = [a0, a1, a2, a3, a4, a5, a6, a7, a8, a9] := len10 h
theorem fresh_upd' {H H' : AH} {b : ABlk} {l : Nat} (h : Fresh H H') (hl : H.next ≤ l) : Fresh H ⟨H'.next, upd H'.get l b⟩ := ⟨h.1, fun x hx _ => by
  have : ¬ x = l := by omega
  simp only [upd_get, this, if_false]
  exact h.get hx⟩
theorem fresh_new' {H H' : AH} {b : ABlk} (h : Fresh H H') : Fresh H ⟨H'.next + 1, upd H'.get H'.next b⟩ := h.trans Fresh.ofNew
/-- the fields' places -/
def flds (l : Nat) : List Value := (List.range 10).map fun j => .pointer (some ⟨l, j, none⟩)
theorem flds_at (l : Nat) {k : Nat} (hk : k < 10) : (flds l)[k]? = some (.pointer (some ⟨l, k, none⟩)) := by simp [flds, hk]
theorem alloc46 (H : AH) : aAlloc Tryd.prog 46 H = some (ptr H.next, ⟨H.next + 1, upd H.get H.next (.cells (List.replicate 10 (.pointer none)) 46 true 0)⟩) := by kernel_rfl
theorem alloc24 (H : AH) : aAlloc Tryd.prog 24 H = some (ptr H.next, ⟨H.next + 1, upd H.get H.next (.cells (List.replicate 10 (u64 0)) 24 true 0)⟩) := by kernel_rfl
theorem lay46 : layoutOf Tryd.prog 46 = some ((List.range 10).map fun i => (i, 1), List.replicate 10 (.pointer none)) := by kernel_rfl
/-- tally.fields -/
theorem fields_run {l : Nat} : CallR cx 22 #[ptr l] H (fun v H' => v = .agg (flds l).toArray ∧ Fresh H H') := by
  refine wk22 (by simp) ?_
  simp [c22, alloc46, lay46]
  exact ⟨rfl, fresh_upd' (fresh_new' Fresh.refl) (Nat.le_refl _)⟩
/-- ref.List -/
theorem list_run {ns : List Int} (hl : ns.length = 10) : CallR cx 16 #[cntV ns] H (fun v H' => Fresh H H' ∧ Row 22 true H' v (cnts ns) (some (H.next + 1))) := by
  refine wk16 (by simp) ?_
  have hb := aBuildSliceN (P := Tryd.prog) un37 sz22 (z := u64 0) (by kernel_rfl) (cnts ns) (cnts_cell ns) (by simp [hl]) ⟨H.next + 1, upd H.get H.next (cntB ns)⟩
  obtain ⟨a0, a1, a2, a3, a4, a5, a6, a7, a8, a9, rfl⟩ := ten hl
  have hb' : aBuildSlice Tryd.prog 37 10 [(0, u64 a0), (1, u64 a1), (2, u64 a2), (3, u64 a3), (4, u64 a4), (5, u64 a5), (6, u64 a6), (7, u64 a7), (8, u64 a8), (9, u64 a9)] ⟨H.next + 1, upd H.get H.next (.cells [u64 a0, u64 a1, u64 a2, u64 a3, u64 a4, u64 a5, u64 a6, u64 a7, u64 a8, u64 a9] 24 true 0)⟩ = some (.slice (some ⟨H.next + 1, 0, none⟩) 10 10, ⟨H.next + 1 + 1, upd (upd H.get H.next (.cells [u64 a0, u64 a1, u64 a2, u64 a3, u64 a4, u64 a5, u64 a6, u64 a7, u64 a8, u64 a9] 24 true 0)) (H.next + 1) (.cells [u64 a0, u64 a1, u64 a2, u64 a3, u64 a4, u64 a5, u64 a6, u64 a7, u64 a8, u64 a9] 22 true 1)⟩) := hb
  simp [c16, cnts, AH.new, hb']
  exact ⟨fresh_new' Fresh.ofNew, 0, cnts [a0, a1, a2, a3, a4, a5, a6, a7, a8, a9], rfl, by simp [cnts], rfl, by simp, by simp⟩
/-- ref.Of -/
theorem rof_run {ns : List Int} (hl : ns.length = 10) {w : Bool} {sv : Value} {O : Option Nat} (h : Row 22 w H sv (cnts ns) O) : CallR cx 17 #[sv] H (fun v H' => v = cntV ns ∧ Fresh H H') := by
  refine wk17 (by simp) ?_
  cases O with
  | none => have := h.2; rw [cnts, List.map_eq_nil_iff] at this; rw [this] at hl; cases hl
  | some l =>
  obtain ⟨o, cs, rfl, g0, g1, g2, g3⟩ := h
  rw [cnts_length, hl] at g1 g2 ⊢
  have hx := fun (j : Nat) (hj : j < 10) => ix37 l o 10 10 .i64 (j : Int) (by omega) (by omega)
  have hc := fun (j : Nat) (hj : j < 10) => row_at (vs := cnts ns) (by rw [cnts_length, hl]; exact g1) (i := j) (by rw [cnts_length, hl]; exact hj)
  have x0 := hx 0 (by omega); have x1 := hx 1 (by omega); have x2 := hx 2 (by omega); have x3 := hx 3 (by omega); have x4 := hx 4 (by omega)
  have x5 := hx 5 (by omega); have x6 := hx 6 (by omega); have x7 := hx 7 (by omega); have x8 := hx 8 (by omega); have x9 := hx 9 (by omega)
  have y0 := hc 0 (by omega); have y1 := hc 1 (by omega); have y2 := hc 2 (by omega); have y3 := hc 3 (by omega); have y4 := hc 4 (by omega)
  have y5 := hc 5 (by omega); have y6 := hc 6 (by omega); have y7 := hc 7 (by omega); have y8 := hc 8 (by omega); have y9 := hc 9 (by omega)
  obtain ⟨a0, a1, a2, a3, a4, a5, a6, a7, a8, a9, rfl⟩ := ten hl
  simp [cnts] at x0 x1 x2 x3 x4 x5 x6 x7 x8 x9 y0 y1 y2 y3 y4 y5 y6 y7 y8 y9
  have hne : ¬ l = H.next := by omega
  simp [c17, alloc24, x0, x1, x2, x3, x4, x5, x6, x7, x8, x9, y0, y1, y2, y3, y4, y5, y6, y7, y8, y9, g0, hne]
  exact ⟨rfl, fresh_upd' Fresh.ofNew (Nat.le_refl _)⟩
theorem ix46 (l k : Nat) (hk : k < 10) : aIndex Tryd.prog 46 (.agg (flds l).toArray) (.int .i64 (k : Int)) = some (.pointer (some ⟨l, k, none⟩)) := by
  have hs : sz Tryd.prog 45 = some 1 := by kernel_rfl
  have ha : aggT Tryd.prog 45 = some false := by kernel_rfl
  have hk' : (k : Int) < 10 := by omega
  simp [aIndex, un46, hs, aPart, ha, hk', flds_at l hk]
theorem place_cases (s : List UInt8) : placeOf s = -1 ∨ ∃ k : Nat, k < 10 ∧ placeOf s = k := by
  unfold placeOf
  split
  · rename_i h
    exact .inr ⟨_, by have := List.idxOf_lt_length_of_mem h; simpa [nm_len] using this, rfl⟩
  · exact .inl rfl
/-- tally.Of -/
theorem of_run {ns : List Int} (hl : ns.length = 10) {s : List UInt8} (hg : HasG gs H) (hn : nG ≤ H.next) : CallR cx 11 #[cntV ns, .string (str s)] H (fun v H' => Fresh H H' ∧ v = .tuple #[u64 (if placeOf s < 0 then 0 else ns.getD (placeOf s).toNat 0), .bool (decide (0 ≤ placeOf s))]) := by
  refine wk11 (by simp) ?_
  unfold c11
  refine aw_cut (fun t => t.env 1 = .string (str s) ∧ t.env 2 = ptr H.next ∧ t.ds = [] ∧ t.H = ⟨H.next + 1, upd H.get H.next (cntB ns)⟩) (by simp [AH.new]) ?_
  rintro ⟨env, H1, ds⟩ ⟨e1, e2, eds, hH⟩
  simp only at e1 e2 eds hH
  have hf : Fresh H H1 := by rw [hH]; exact Fresh.ofNew
  have hr : H1.get H.next = some (cntB ns) := by rw [hH]; simp
  have hlt : H.next < H1.next := by rw [hH]; simp
  clear hH
  have hg1 := hg.fresh gs_lt hn hf
  refine aw_cut (fun t => t.env 2 = ptr H.next ∧ t.env 6 = i64 (placeOf s) ∧ t.ds = [] ∧ t.H = H1) ?_ ?_
  · simp [e1]
    refine callV_R cb23 (place_run hg1) ?_
    rintro _ H2 ⟨rfl, hH⟩
    subst hH
    simp [e2, eds]
  clear e1 e2 eds
  rintro ⟨env, H2, ds⟩ ⟨e2, e6, eds, hH⟩
  simp only at e2 e6 eds hH
  subst hH
  rcases place_cases s with hp | ⟨k, hk, hp⟩
  · simp [e6, hp, eds, hf]
  · have hk0 : ¬ (k : Int) < 0 := by omega
    simp [e2, e6, hp, hk0]
    refine callV_R cb22 fields_run ?_
    rintro _ H3 ⟨rfl, f3⟩
    have hk' : k < ns.length := by omega
    have hc := cnts_at hk'
    simp [e6, hp, ix46 _ k hk, f3.get hlt, hr, hc, eds, hf.trans f3]
    simp [hk']
    exact fun h => absurd h hk0
/-- tally.With -/
theorem with_run {ns : List Int} (hl : ns.length = 10) {s : List UInt8} {n : Int} (hg : HasG gs H) (hn : nG ≤ H.next) : CallR cx 12 #[cntV ns, .string (str s), u64 n] H (fun v H' => Fresh H H' ∧ v = .tuple #[cntV (if placeOf s < 0 then ns else ns.set (placeOf s).toNat n), .bool (decide (0 ≤ placeOf s))]) := by
  refine wk12 (by simp) ?_
  unfold c12
  refine aw_cut (fun t => t.env 1 = .string (str s) ∧ t.env 2 = u64 n ∧ t.env 3 = ptr H.next ∧ t.env 6 = ptr (H.next + 1) ∧ t.ds = [] ∧ t.H = ⟨H.next + 2, upd (upd H.get H.next (cntB ns)) (H.next + 1) (.cells (List.replicate 10 (u64 0)) 24 true 0)⟩) (by simp [AH.new, alloc24]) ?_
  rintro ⟨env, H1, ds⟩ ⟨e1, e2, e3, e6, eds, hH⟩
  simp only at e1 e2 e3 e6 eds hH
  have hf : Fresh H H1 := by rw [hH]; exact fresh_new' (H' := ⟨H.next + 1, _⟩) Fresh.ofNew
  have hr : H1.get H.next = some (cntB ns) := by rw [hH]; simp
  have hr6 : H1.get (H.next + 1) = some (.cells (List.replicate 10 (u64 0)) 24 true 0) := by rw [hH]; simp
  have hlt : H.next + 1 < H1.next := by rw [hH]; simp
  clear hH
  have hg1 := hg.fresh gs_lt hn hf
  refine aw_cut (fun t => t.env 2 = u64 n ∧ t.env 3 = ptr H.next ∧ t.env 6 = ptr (H.next + 1) ∧ t.env 8 = i64 (placeOf s) ∧ t.ds = [] ∧ t.H = H1) ?_ ?_
  · simp [e1]
    refine callV_R cb23 (place_run hg1) ?_
    rintro _ H2 ⟨rfl, hH⟩
    subst hH
    simp [e2, e3, e6, eds]
  clear e1 e2 e3 e6 eds
  rintro ⟨env, H2, ds⟩ ⟨e2, e3, e6, e8, eds, hH⟩
  simp only at e2 e3 e6 e8 eds hH
  subst hH
  have row10 : ∀ (H' : AH) (l : Nat) (ms : List Int), ms.length = 10 → H'.get l = some (cntB ms) → H'.row l 0 10 = some (cnts ms) := by
    intro H' l ms hm hg
    rw [row_of hg (by simp [hm]), List.drop_zero, List.take_of_length_le (by simp [hm])]
  have st10 : ∀ (H' : AH) (ms : List Int), ms.length = 10 → H'.get (H.next + 1) = some (.cells (List.replicate 10 (u64 0)) 24 true 0) → H'.wrs (H.next + 1) 0 (cnts ms) = some ⟨H'.next, upd H'.get (H.next + 1) (cntB ms)⟩ := by
    intro H' ms hm hg
    rw [wrs_of hg (by simp [hm]) (cnts_all ms), setAll_all _ _ (by simp [hm])]
  rcases place_cases s with hp | ⟨k, hk, hp⟩
  · have h1 := row10 H2 H.next ns hl hr
    have h2 := st10 H2 ns hl hr6
    have h3 : aLoad Tryd.prog 24 (ptr H.next) H2 = some (cntV ns) := by rw [ld24, h1]; rfl
    have h4 : aStore Tryd.prog 24 (ptr (H.next + 1)) (cntV ns) H2 = some ⟨H2.next, upd H2.get (H.next + 1) (cntB ns)⟩ := by rw [st24 _ _ _ (by simp [hl])]; exact h2
    have h5 : aLoad Tryd.prog 24 (ptr (H.next + 1)) ⟨H2.next, upd H2.get (H.next + 1) (cntB ns)⟩ = some (cntV ns) := by rw [ld24, row10 _ _ ns hl (by simp)]; rfl
    simp [e3, e6, e8, hp, h3, h4, h5, eds, -ld24, -st24]
    exact fresh_upd' hf (by omega)
  · have hk0 : ¬ (k : Int) < 0 := by omega
    simp [e3, e8, hp, hk0]
    refine callV_R cb22 fields_run ?_
    rintro _ H3 ⟨rfl, f3⟩
    have hk' : k < ns.length := by omega
    have hr3 : H3.get H.next = some (cntB ns) := by rw [f3.get (by omega), hr]
    have hr63 : H3.get (H.next + 1) = some (.cells (List.replicate 10 (u64 0)) 24 true 0) := by rw [f3.get hlt, hr6]
    have hw := wr_of (v := u64 n) hr3 (o := k) (by simp [hk']) rfl
    have hset : (cnts ns).set k (u64 n) = cnts (ns.set k n) := by simp [cnts, List.map_set]
    rw [hset] at hw
    have hl2 : (ns.set k n).length = 10 := by simp [hl]
    have h0 : aStore Tryd.prog 22 (.pointer (some ⟨H.next, k, none⟩)) (u64 n) H3 = some ⟨H3.next, upd H3.get H.next (cntB (ns.set k n))⟩ := by rw [st22 _ _ _ rfl]; exact hw
    have h1 := row10 ⟨H3.next, upd H3.get H.next (cntB (ns.set k n))⟩ H.next (ns.set k n) hl2 (by simp)
    have h2 := st10 ⟨H3.next, upd H3.get H.next (cntB (ns.set k n))⟩ (ns.set k n) hl2 (by simp [hr63])
    have h3 : aLoad Tryd.prog 24 (ptr H.next) ⟨H3.next, upd H3.get H.next (cntB (ns.set k n))⟩ = some (cntV (ns.set k n)) := by rw [ld24, h1]; rfl
    have h4 : aStore Tryd.prog 24 (ptr (H.next + 1)) (cntV (ns.set k n)) ⟨H3.next, upd H3.get H.next (cntB (ns.set k n))⟩ = some ⟨H3.next, upd (upd H3.get H.next (cntB (ns.set k n))) (H.next + 1) (cntB (ns.set k n))⟩ := by rw [st24 _ _ _ (by simp [hl])]; exact h2
    have h5 : aLoad Tryd.prog 24 (ptr (H.next + 1)) ⟨H3.next, upd (upd H3.get H.next (cntB (ns.set k n))) (H.next + 1) (cntB (ns.set k n))⟩ = some (cntV (ns.set k n)) := by rw [ld24, row10 _ _ (ns.set k n) hl2 (by simp)]; rfl
    simp [e2, e3, e6, e8, hp, ix46 _ k hk, h0, h3, h4, h5, eds, -ld24, -st24, -st22]
    have hff := fresh_upd' (l := H.next + 1) (b := cntB (ns.set k n)) (fresh_upd' (l := H.next) (b := cntB (ns.set k n)) (hf.trans f3) (Nat.le_refl _)) (Nat.le_succ _)
    exact ⟨by rw [if_neg hk0], hff⟩
end Go.Proofs.YtnnjfbnaojdloaaDoor.C

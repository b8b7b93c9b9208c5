/- TallyOf over the small heap. Own text of this session. -/
import Derived.Test.YtnnjfbnaojdloaaDoorFld
import Derived.Test.YtnnjfbnaojdloaaDoorA20
set_option linter.unusedVariables false
set_option linter.unusedSimpArgs false
set_option maxRecDepth 4000
set_option maxHeartbeats 8000000
namespace Go.Proofs.YtnnjfbnaojdloaaDoor.C
open Go Go.RowKit Go.Proofs.YtnnjfbnaojdloaaDoorA Go.Proofs.YtnnjfbnaojdloaaDoor.Plain
variable {H : AH}
theorem fitsC : ∀ (m : Nat) (ns : List Int), ns.length = m → fitsL (List.replicate m (.int .u64)) (cnts ns) = true
  | 0, [], _ => rfl
  | m + 1, n :: ns, h => by
    have ih := fitsC m ns (by simpa using h)
    show (fits (.int .u64) (u64 n) && fitsL (List.replicate m (.int .u64)) (cnts ns)) = true
    rw [ih]
    rfl
theorem eqLC : ∀ (ns ms : List Int), eqL (cnts ns) (cnts ms) = decide (ns = ms)
  | [], [] => rfl
  | [], m :: ms => by simp [cnts, eqL]
  | n :: ns, [] => by simp [cnts, eqL]
  | n :: ns, m :: ms => by
    have ih := eqLC ns ms
    show (decide (n = m) && eqL (cnts ns) (cnts ms)) = _
    rw [ih]
    by_cases h : n = m <;> simp [h]
theorem eqC {ns ms : List Int} (h1 : ns.length = 10) (h2 : ms.length = 10) (ox oy : Operand) : aBin Tryd.prog .eql 24 ox oy (cntV ns) (cntV ms) = some (.bool (decide (ns = ms))) := by
  have := (aBin_struct (P := Tryd.prog) (t := 24) (Ds := List.replicate 10 (.int .u64)) (by kernel_rfl) (cnts ns) (cnts ms) (fitsC 10 ns h1) (fitsC 10 ms h2) ox oy).1
  rw [this, eqLC]
theorem neC {ns ms : List Int} (h1 : ns.length = 10) (h2 : ms.length = 10) (ox oy : Operand) : aBin Tryd.prog .neq 24 ox oy (cntV ns) (cntV ms) = some (.bool (!decide (ns = ms))) := by
  have := (aBin_struct (P := Tryd.prog) (t := 24) (Ds := List.replicate 10 (.int .u64)) (by kernel_rfl) (cnts ns) (cnts ms) (fitsC 10 ns h1) (fitsC 10 ms h2) ox oy).2
  rw [this, eqLC]
theorem ldC {H : AH} {l : Nat} {ns : List Int} (hl : ns.length = 10) (hg : H.get l = some (cntB ns)) : aLoad Tryd.prog 24 (ptr l) H = some (cntV ns) := by
  rw [ld24, row_of hg (by simp [hl]), List.drop_zero, List.take_of_length_le (by simp [hl])]
  rfl
theorem stC {H : AH} {l : Nat} {ns : List Int} (hl : ns.length = 10) {cs : List Value} (hc : cs.length = 10) (hg : H.get l = some (.cells cs 24 true 0)) : aStore Tryd.prog 24 (ptr l) (cntV ns) H = some ⟨H.next, upd H.get l (cntB ns)⟩ := by
  rw [st24 _ _ _ (by simp [hl])]
  show H.wrs l 0 (cnts ns) = _
  rw [wrs_of hg (by simp [hl, hc]) (cnts_all ns), setAll_all _ _ (by simp [hl, hc])]
theorem same_names {O : Option Nat} {v w : Value} {Ow : Option Nat} (h1 : Row 9 true H v (strs nm) O) (h2 : Row 9 true H w (strs nm) Ow) : CallR cx 13 #[v, w] H (fun v H' => v = .bool true ∧ H' = H) := by
  refine (same_run h1 h2 (by simp [nm_len])).mono ?_
  rintro _ _ ⟨rfl, rfl⟩
  simp
theorem tallyOf_run' {ns : List Int} (hl : ns.length = 10) {t : ByteArray} {n : Int} (hg : HasG gs H) (hn : nG ≤ H.next) : CallR cx 4 #[cntV ns, .string t, u64 n] H (fun v _ => v = .bool true) := by
  rw [str_eta t]
  generalize t.data.toList = s
  refine wk4 (by simp) ?_
  unfold c4
  refine aw_cut (fun t => t.env 1 = .string (str s) ∧ t.env 2 = u64 n ∧ t.env 3 = ptr H.next ∧ t.ds = [] ∧ t.H = ⟨H.next + 1, upd H.get H.next (cntB ns)⟩) (by simp [AH.new]) ?_
  rintro ⟨env, H1, ds⟩ ⟨e1, e2, e3, eds, hH⟩
  simp only at e1 e2 e3 eds hH
  have hf : Fresh H H1 := by rw [hH]; exact Fresh.ofNew
  have hr : H1.get H.next = some (cntB ns) := by rw [hH]; simp
  have hlt : H.next < H1.next := by rw [hH]; simp
  clear hH
  have hg1 := hg.fresh gs_lt hn hf
  have hn1 : nG ≤ H1.next := Nat.le_trans hn hf.1
  by_cases hsl : 100 < (s.length : Int)
  · simp [e1, hsl]
    refine callV_R cba (alive_run hg1) ?_
    rintro _ _ ⟨rfl, _⟩
    simp [eds]
  refine aw_cut (fun t => t.env 1 = .string (str s) ∧ t.env 2 = u64 n ∧ t.env 3 = ptr H.next ∧ t.ds = [] ∧ t.H = H1) (by simp [e1, e2, e3, eds, hsl]) ?_
  clear e1 e2 e3 eds
  rintro ⟨env, H2, ds⟩ ⟨e1, e2, e3, eds, hH⟩
  simp only at e1 e2 e3 eds hH
  subst hH
  -- ref.Place
  refine aw_cut (fun t => t.env 1 = .string (str s) ∧ t.env 2 = u64 n ∧ t.env 3 = ptr H.next ∧ t.env 7 = i64 (placeOf s) ∧ t.ds = [] ∧ Fresh H2 t.H) ?_ ?_
  · simp [e1]
    refine callV_R cb10 rplace_run ?_
    rintro _ H3 ⟨rfl, f3⟩
    simp [e1, e2, e3, eds, f3]
  clear e1 e2 e3 eds
  rintro ⟨env, H3, ds⟩ ⟨e1, e2, e3, e7, eds, f3⟩
  simp only at e1 e2 e3 e7 eds f3
  have hg3 := hg1.fresh gs_lt hn1 f3
  have hn3 : nG ≤ H3.next := Nat.le_trans hn1 f3.1
  have hr3 : H3.get H.next = some (cntB ns) := by rw [f3.get hlt, hr]
  have hlt3 : H.next < H3.next := Nat.lt_of_lt_of_le hlt f3.1
  -- tally.Of
  refine aw_cut (fun t => t.env 1 = .string (str s) ∧ t.env 2 = u64 n ∧ t.env 3 = ptr H.next ∧ t.env 7 = i64 (placeOf s) ∧ t.env 8 = u64 (if placeOf s < 0 then 0 else ns.getD (placeOf s).toNat 0) ∧ t.env 9 = .bool (decide (0 ≤ placeOf s)) ∧ t.ds = [] ∧ Fresh H3 t.H) ?_ ?_
  · simp [e1, e3, ldC hl hr3, -ld24]
    refine callV_R cb11 (of_run hl hg3 hn3) ?_
    rintro _ H4 ⟨f4, rfl⟩
    simp [e1, e2, e3, e7, eds, f4]
  clear e1 e2 e3 e7 eds
  rintro ⟨env, H4, ds⟩ ⟨e1, e2, e3, e7, e8, e9, eds, f4⟩
  simp only at e1 e2 e3 e7 e8 e9 eds f4
  have hg4 := hg3.fresh gs_lt hn3 f4
  have hn4 : nG ≤ H4.next := Nat.le_trans hn3 f4.1
  have hr4 : H4.get H.next = some (cntB ns) := by rw [f4.get hlt3, hr3]
  have hlt4 : H.next < H4.next := Nat.lt_of_lt_of_le hlt3 f4.1
  -- tally.With
  have hml : (if placeOf s < 0 then ns else ns.set (placeOf s).toNat n).length = 10 := by split <;> simp [hl]
  refine aw_cut (fun t => t.env 1 = .string (str s) ∧ t.env 2 = u64 n ∧ t.env 3 = ptr H.next ∧ t.env 7 = i64 (placeOf s) ∧ t.env 8 = u64 (if placeOf s < 0 then 0 else ns.getD (placeOf s).toNat 0) ∧ t.env 9 = .bool (decide (0 ≤ placeOf s)) ∧ t.env 11 = .bool (decide (0 ≤ placeOf s)) ∧ t.ds = [] ∧ Fresh H4 t.H ∧ ∃ D, t.env 10 = ptr D ∧ D < t.H.next ∧ t.H.get D = some (cntB (if placeOf s < 0 then ns else ns.set (placeOf s).toNat n))) ?_ ?_
  · simp [e1, e2, e3, ldC hl hr4, -ld24]
    refine callV_R cb12 (with_run hl hg4 hn4) ?_
    rintro _ H5 ⟨f5, rfl⟩
    have h0 := alloc24 H5
    have h1 := stC (H := ⟨H5.next + 1, upd H5.get H5.next (.cells (List.replicate 10 (u64 0)) 24 true 0)⟩) (l := H5.next) hml (cs := List.replicate 10 (u64 0)) rfl (by simp)
    simp [h0, h1, e1, e2, e3, e7, e8, e9, eds, -st24, -List.reduceReplicate]
    exact fresh_upd' (fresh_new' f5) f5.1
  clear e1 e2 e3 e7 e8 e9 eds
  rintro ⟨env, H5, ds⟩ ⟨e1, e2, e3, e7, e8, e9, e11, eds, f5, D, e10, hD, hrD⟩
  simp only at e1 e2 e3 e7 e8 e9 e10 e11 eds f5 hD hrD
  have hg5 := hg4.fresh gs_lt hn4 f5
  have hn5 : nG ≤ H5.next := Nat.le_trans hn4 f5.1
  have hr5 : H5.get H.next = some (cntB ns) := by rw [f5.get hlt4, hr4]
  have hlt5 : H.next < H5.next := Nat.lt_of_lt_of_le hlt4 f5.1
  rcases place_cases s with hp | ⟨k, hk, hp⟩
  · rw [hp] at e7 e8 e9 e11 hrD
    rw [if_pos (by decide)] at e8 hrD
    simp [e3, e7, e8, e9, e10, e11, ldC hl hrD, ldC hl hr5, eqC hl hl, -ld24]
    refine callV_R cb14 (names_run hg5 hn5) ?_
    rintro v H6 ⟨f6, O6, row6, _⟩
    simp
    refine callV_R cb15 rnames_run ?_
    rintro w H7 ⟨f7, row7⟩
    simp
    refine callV_R cb13 (same_names (row6.keep f7 (fun _ _ => id)) row7) ?_
    rintro _ H8 ⟨rfl, hH⟩
    subst hH
    simp
    refine callV_R cba (alive_run (hg5.fresh gs_lt hn5 (f6.trans f7))) ?_
    rintro _ _ ⟨rfl, _⟩
    simp [eds]
  have hk0 : ¬ (k : Int) < 0 := by omega
  have hk1 : (0 : Int) ≤ k := by omega
  rw [hp] at e7 e8 e9 e11 hrD hml
  rw [if_neg hk0] at e8 hrD hml
  simp only [Int.toNat_natCast] at e8 hrD hml
  have hkn : k < ns.length := by omega
  have hgd : ns.getD k 0 = ns[k] := by simp [hkn]
  rw [hgd] at e8
  rw [decide_eq_true hk1] at e9 e11
  refine aw_cut (fun t => t.env 2 = u64 n ∧ t.env 3 = ptr H.next ∧ t.env 7 = i64 (k : Int) ∧ t.env 8 = u64 ns[k] ∧ t.env 9 = .bool true ∧ t.env 10 = ptr D ∧ t.env 11 = .bool true ∧ t.ds = [] ∧ t.H = H5) (by simp [e2, e3, e7, e8, e9, e10, e11, hk0, eds]) ?_
  clear e1 e2 e3 e7 e8 e9 e10 e11 eds
  rintro ⟨env, H6, ds⟩ ⟨e2, e3, e7, e8, e9, e10, e11, eds, hH⟩
  simp only at e2 e3 e7 e8 e9 e10 e11 eds hH
  subst hH
  -- ref.List
  refine aw_cut (fun t => t.env 2 = u64 n ∧ t.env 7 = i64 (k : Int) ∧ t.env 8 = u64 ns[k] ∧ t.env 9 = .bool true ∧ t.env 10 = ptr D ∧ t.env 11 = .bool true ∧ t.ds = [] ∧ Fresh H6 t.H ∧ Row 22 true t.H (t.env 12) (cnts ns) (some (H6.next + 1))) ?_ ?_
  · simp [e3, ldC hl hr5, -ld24]
    refine callV_R cb16 (list_run hl) ?_
    rintro v H7 ⟨f7, row7⟩
    simp [e2, e7, e8, e9, e10, e11, eds, f7, row7]
  clear e2 e3 e7 e8 e9 e10 e11 eds
  rintro ⟨env, H7, ds⟩ ⟨e2, e7, e8, e9, e10, e11, eds, f7, row7⟩
  simp only at e2 e7 e8 e9 e10 e11 eds f7 row7
  generalize e12 : env 12 = lv at row7
  obtain ⟨o, cs, rfl, g0, g1, g2, g3⟩ := row7
  rw [cnts_length, hl] at e12 g1 g2
  have hcc := fun (j : Nat) (hj : j < 10) => row_at (vs := cnts ns) (by rw [cnts_length, hl]; exact g1) (i := j) (by rw [cnts_length, hl]; exact hj)
  have hck := hcc k hk
  rw [cnts_at hkn] at hck
  have hix := ix37 (H6.next + 1) o 10 10 .i64 (k : Int) hk1 (by omega)
  simp only [Int.toNat_natCast] at hix
  refine aw_cut (fun t => t.env 2 = u64 n ∧ t.env 7 = i64 (k : Int) ∧ t.env 8 = u64 ns[k] ∧ t.env 9 = .bool true ∧ t.env 10 = ptr D ∧ t.env 11 = .bool true ∧ t.env 12 = sl (H6.next + 1) o 10 ∧ t.env 13 = u64 ns[k] ∧ t.ds = [] ∧ t.H = H7) (by simp [e2, e7, e8, e9, e10, e11, e12, hix, g0, hck, eds]) ?_
  clear e2 e7 e8 e9 e10 e11 e12 eds
  rintro ⟨env, H8, ds⟩ ⟨e2, e7, e8, e9, e10, e11, e12, e13, eds, hH⟩
  simp only at e2 e7 e8 e9 e10 e11 e12 e13 eds hH
  subst hH
  have hwr := wr_of (v := u64 n) g0 (o := o + k) (by omega) rfl
  have hst : aStore Tryd.prog 22 (.pointer (some ⟨H6.next + 1, o + k, none⟩)) (u64 n) H8 = some ⟨H8.next, upd H8.get (H6.next + 1) (.cells (cs.set (o + k) (u64 n)) 22 true 1)⟩ := by rw [st22 _ _ _ rfl]; exact hwr
  refine aw_cut (fun t => t.env 8 = u64 ns[k] ∧ t.env 9 = .bool true ∧ t.env 10 = ptr D ∧ t.env 11 = .bool true ∧ t.env 12 = sl (H6.next + 1) o 10 ∧ t.env 13 = u64 ns[k] ∧ t.ds = [] ∧ t.H = ⟨H8.next, upd H8.get (H6.next + 1) (.cells (cs.set (o + k) (u64 n)) 22 true 1)⟩) (by simp [e2, e7, e8, e9, e10, e11, e12, e13, hix, hst, eds, -st22]) ?_
  clear e2 e7 e8 e9 e10 e11 e12 e13 eds
  rintro ⟨env, H9, ds⟩ ⟨e8, e9, e10, e11, e12, e13, eds, hH⟩
  simp only at e8 e9 e10 e11 e12 e13 eds hH
  have f9 : Fresh H6 H9 := by rw [hH]; exact fresh_upd' f7 (Nat.le_succ _)
  have hrow9 : Row 22 true H9 (sl (H6.next + 1) o 10) (cnts (ns.set k n)) (some (H6.next + 1)) := by
    rw [hH]
    refine ⟨o, cs.set (o + k) (u64 n), by simp [hl], by simp, ?_, by simp [hl]; omega, by simpa using g3⟩
    rw [cnts_length, List.length_set, hl, List.drop_set, if_neg (by omega), Nat.add_sub_cancel_left, List.take_set, g1]
    simp [cnts, List.map_set]
  clear hH
  have hg9 := hg5.fresh gs_lt hn5 f9
  have hn9 : nG ≤ H9.next := Nat.le_trans hn5 f9.1
  have hrD9 : H9.get D = some (cntB (ns.set k n)) := by rw [f9.get hD, hrD]
  have hD9 : D < H9.next := Nat.lt_of_lt_of_le hD f9.1
  simp [e8, e9, e10, e11, e12, e13, ldC hml hrD9, -ld24]
  refine callV_R cb17 (rof_run hml hrow9) ?_
  rintro _ H10 ⟨rfl, f10⟩
  have hg10 := hg9.fresh gs_lt hn9 f10
  have hn10 : nG ≤ H10.next := Nat.le_trans hn9 f10.1
  have hrD10 : H10.get D = some (cntB (ns.set k n)) := by rw [f10.get hD9, hrD9]
  simp [eqC hml hml]
  refine callV_R cb14 (names_run hg10 hn10) ?_
  rintro v H11 ⟨f11, O11, row11, _⟩
  simp
  refine callV_R cb15 rnames_run ?_
  rintro w H12 ⟨f12, row12⟩
  simp
  refine callV_R cb13 (same_names (row11.keep f12 (fun _ _ => id)) row12) ?_
  rintro _ H13 ⟨rfl, hH⟩
  subst hH
  simp
  refine callV_R cba (alive_run (hg10.fresh gs_lt hn10 (f11.trans f12))) ?_
  rintro _ _ ⟨rfl, _⟩
  simp [eds, e10, ldC hml hrD9, ldC hml hrD10, -ld24]
theorem tallyOf_run {a0 a1 a2 a3 a4 a5 a6 a7 a8 a9 n : Int} {t : ByteArray} (hg : HasG gs H) (hn : nG ≤ H.next) (_ : IntKind.u64.has a0) (_ : IntKind.u64.has a1) (_ : IntKind.u64.has a2) (_ : IntKind.u64.has a3) (_ : IntKind.u64.has a4) (_ : IntKind.u64.has a5) (_ : IntKind.u64.has a6) (_ : IntKind.u64.has a7) (_ : IntKind.u64.has a8) (_ : IntKind.u64.has a9) (_ : (Lit.int .u64 n).wf = true) :
    CallR cx 4 #[.agg #[.int .u64 a0, .int .u64 a1, .int .u64 a2, .int .u64 a3, .int .u64 a4, .int .u64 a5, .int .u64 a6, .int .u64 a7, .int .u64 a8, .int .u64 a9], .string t, .int .u64 n] H (fun v _ => v = .bool true) :=
  tallyOf_run' (ns := [a0, a1, a2, a3, a4, a5, a6, a7, a8, a9]) rfl hg hn
end Go.Proofs.YtnnjfbnaojdloaaDoor.C

/- TraceMakes over the small heap. Own text of this session. -/
import Derived.Test.YtmeaeafceankkaaDoorMkD
set_option linter.unusedVariables false
set_option linter.unusedSimpArgs false
set_option maxRecDepth 4000
set_option maxHeartbeats 8000000
namespace Go.Proofs.YtmeaeafceankkaaDoor.C
open Go Go.RowKit Go.Proofs.YtmeaeafceankkaaDoorA Go.Proofs.YtmeaeafceankkaaDoor.Plain
variable {H : AH}
theorem keys_of {zs : List Int} (hwf : ∀ n ∈ zs, (Lit.int .u64 n).wf = true) : ∃ g : List Nat, zs.map (Value.int .u64) = gcells g := by
  refine ⟨zs.map fun n => n.toNat, ?_⟩
  rw [gcells, List.map_map]
  refine List.map_congr_left fun n h => ?_
  have := hwf n h
  simp [Lit.wf, IntKind.min, IntKind.max, IntKind.signed, IntKind.bits] at this
  simp; omega
theorem traceMakes_run {sa sb : Value} {za zb : List Int} {la lb : Nat} {Oa Ob : Option Nat} {r : Int} (hg : HasG gs H) (hn : nG ≤ H.next) (ha : Row 39 false H sa (za.map (Value.int .u64)) Oa) (hla : za.length = la) (hwa : ∀ n ∈ za, (Lit.int .u64 n).wf = true)
    (hb : Row 39 false H sb (zb.map (Value.int .u64)) Ob) (hlb : zb.length = lb) (hwb : ∀ n ∈ zb, (Lit.int .u64 n).wf = true) (hr' : (Lit.int .i64 r).wf = true) : CallR cx 6 #[sa, sb, i64 r] H (fun v _ => v = .bool true) := by
  obtain ⟨xs, hxs⟩ := keys_of hwa
  obtain ⟨ys, hys⟩ := keys_of hwb
  have hr : I64 r := by
    simp [Lit.wf, IntKind.min, IntKind.max, IntKind.signed, IntKind.bits] at hr'
    unfold I64; omega
  rw [hxs] at ha
  rw [hys] at hb
  clear hxs hys hwa hwb hla hlb hr'
  have hs1 := ha.isSlice
  have hs2 := hb.isSlice
  obtain ⟨rx, rfl, _⟩ := hs1
  obtain ⟨ry, rfl, _⟩ := hs2
  simp only [List.length_map] at ha hb ⊢
  refine wk6 (by simp) ?_
  unfold c6
  refine aw_cut (fun t => t.env 0 = .slice rx xs.length xs.length ∧ t.env 1 = .slice ry ys.length ys.length ∧ t.env 2 = i64 r ∧ t.ds = [] ∧ t.H = H) (by simp) ?_
  rintro ⟨env, H1, ds⟩ ⟨e0, e1, e2, eds, hH⟩
  simp only at e0 e1 e2 eds hH
  subst hH
  by_cases hx : 5000 < (xs.length : Int)
  · simp [e0, e1, hx, Go.undef]
    refine callV_R cba (alive_run hg) ?_
    rintro _ _ ⟨rfl, _⟩
    simp [eds]
  by_cases hy : 5000 < (ys.length : Int)
  · simp [e0, e1, hx, hy, Go.undef]
    refine callV_R cba (alive_run hg) ?_
    rintro _ _ ⟨rfl, _⟩
    simp [eds]
  refine aw_cut (fun t => t.env 0 = .slice rx xs.length xs.length ∧ t.env 1 = .slice ry ys.length ys.length ∧ t.env 2 = i64 r ∧ t.ds = [] ∧ t.H = H1) (by simp [e0, e1, e2, hx, hy, eds, Go.undef]) ?_
  clear e0 e1 e2 eds
  rintro ⟨env, H2, ds⟩ ⟨e0, e1, e2, eds, hH⟩
  simp only at e0 e1 e2 eds hH
  subst hH
  -- Loop
  refine aw_cut (fun t => t.env 0 = .slice rx xs.length xs.length ∧ t.env 1 = .slice ry ys.length ys.length ∧ t.env 2 = i64 r ∧ t.ds = [] ∧ Fresh H2 t.H ∧ LoopR xs r t.H (.tuple #[t.env 7, t.env 8])) ?_ ?_
  · simp [e0, e2]
    refine callV_R cb17 (loop_run ha (by omega)) ?_
    rintro _ H3 ⟨f3, gv, O, ls, e, rfl, hrow, hc⟩
    have res : LoopR xs r H3 (.tuple #[gv, i64 e]) := ⟨gv, O, ls, e, rfl, hrow, hc⟩
    simp [e0, e1, e2, eds, f3]
    exact res
  clear e0 e1 e2 eds
  rintro ⟨env, H3, ds⟩ ⟨e0, e1, e2, eds, f3, gv3, O3, ls, el, h78, hrow3, hcase⟩
  simp only at e0 e1 e2 eds f3 h78 hrow3
  obtain ⟨e7, e8⟩ : env 7 = gv3 ∧ env 8 = i64 el := by simpa using h78
  clear h78
  have ha3 := ha.keep f3 (fun _ _ => id)
  have hb3 := hb.keep f3 (fun _ _ => id)
  -- Merge
  refine aw_cut (fun t => t.env 0 = .slice rx xs.length xs.length ∧ t.env 1 = .slice ry ys.length ys.length ∧ t.env 2 = i64 r ∧ t.env 7 = gv3 ∧ t.env 8 = i64 el ∧ t.ds = [] ∧ Fresh H3 t.H ∧ MerR xs ys t.H (.tuple #[t.env 9, t.env 10])) ?_ ?_
  · simp [e0, e1]
    refine callV_R cb18 (merge_run ha3 hb3 (by omega) (by omega)) ?_
    rintro _ H4 ⟨f4, gv, O, hrow, rfl⟩
    have res : MerR xs ys H4 (.tuple #[gv, i64 (if xs.length + ys.length ≤ 4096 then 0 else 6)]) := ⟨gv, O, hrow, rfl⟩
    simp [e0, e1, e2, e7, e8, eds, f4]
    exact res
  clear e0 e1 e2 e7 e8 eds
  rintro ⟨env, H4, ds⟩ ⟨e0, e1, e2, e7, e8, eds, f4, gv4, O4, hrow4, h910⟩
  simp only at e0 e1 e2 e7 e8 eds f4 h910 hrow4
  obtain ⟨e9, e10⟩ : env 9 = gv4 ∧ env 10 = i64 (if xs.length + ys.length ≤ 4096 then 0 else 6) := by simpa using h910
  clear h910
  have hrow3' := hrow3.keep f4 (fun _ _ => id)
  have f24 := f3.trans f4
  have ha4 := ha.keep f24 (fun _ _ => id)
  have hb4 := hb.keep f24 (fun _ _ => id)
  have hg4 := hg.fresh gs_lt hn f24
  have hn4 : nG ≤ H4.next := Nat.le_trans hn f24.1
  -- is it too long
  refine aw_cut (fun t => t.env 0 = .slice rx xs.length xs.length ∧ t.env 1 = .slice ry ys.length ys.length ∧ t.env 2 = i64 r ∧ t.env 7 = gv3 ∧ t.env 8 = i64 el ∧ t.env 9 = gv4 ∧ t.env 10 = i64 (if xs.length + ys.length ≤ 4096 then 0 else 6) ∧ t.env 11 = .bool (decide (longP xs r)) ∧ t.ds = [] ∧ t.H = H4) ?_ ?_
  · by_cases hx0 : 0 < xs.length
    · by_cases hr1 : 1 ≤ r
      · have hq := quo4096 xs.length hx0
        have hP : longP xs r ↔ ((4096 / xs.length : Nat) : Int) < r := ⟨fun h => h.2.2, fun h => ⟨hx0, hr1, h⟩⟩
        by_cases hl : ((4096 / xs.length : Nat) : Int) < r
        · simp [e0, e1, e2, e7, e8, e9, e10, hx0, hr1, hq, hP, hl, eds, -Int.natCast_ediv]
        · simp [e0, e1, e2, e7, e8, e9, e10, hx0, hr1, hq, hP, hl, eds, -Int.natCast_ediv]
      · have hP : ¬ longP xs r := fun h => hr1 h.2.1
        simp [e0, e1, e2, e7, e8, e9, e10, hx0, hr1, hP, eds, Go.undef]
    · have hP : ¬ longP xs r := fun h => hx0 h.1
      simp [e0, e1, e2, e7, e8, e9, e10, hx0, hP, eds, Go.undef]
  clear e0 e1 e2 e7 e8 e9 e10 eds
  rintro ⟨env, H5, ds⟩ ⟨e0, e1, e2, e7, e8, e9, e10, e11, eds, hH⟩
  simp only at e0 e1 e2 e7 e8 e9 e10 e11 eds hH
  subst hH
  -- the loop
  refine aw_cut (fun t => t.env 0 = .slice rx xs.length xs.length ∧ t.env 1 = .slice ry ys.length ys.length ∧ t.env 9 = gv4 ∧ t.env 10 = i64 (if xs.length + ys.length ≤ 4096 then 0 else 6) ∧ t.ds = [] ∧ Fresh H5 t.H) ?_ ?_
  · rcases hcase with ⟨hP, rfl, rfl⟩ | ⟨hP, rfl, rfl, hle⟩
    · obtain ⟨rg, rfl, _⟩ := hrow3'.isSlice
      simp [e0, e1, e7, e8, e9, e10, e11, hP, eds, Fresh.refl, Go.undef]
    · simp [e0, e1, e2, e7, e8, e9, e10, e11, hP, eds, Go.undef]
      refine callV_R cb19 (rloop_run ha4 (by omega) hr hP) ?_
      rintro v H6 ⟨f6, O6, hrow6⟩
      simp [e0, e1, e2, e7, e8, e9, e10, e11, hP, eds, Go.undef]
      refine callV_R cb11 (ksame_run (hrow3'.keep f6 (fun _ _ => id)) hrow6 (by omega)) ?_
      rintro _ H7 ⟨rfl, hH⟩
      subst hH
      simp [e0, e1, e2, e7, e8, e9, e10, e11, hP, eds, Go.undef, f6]
  clear e0 e1 e2 e7 e8 e9 e10 e11 eds
  rintro ⟨env, H6, ds⟩ ⟨e0, e1, e9, e10, eds, f6⟩
  simp only at e0 e1 e9 e10 eds f6
  have hg6 := hg4.fresh gs_lt hn4 f6
  have hn6 : nG ≤ H6.next := Nat.le_trans hn4 f6.1
  have ha6 := ha4.keep f6 (fun _ _ => id)
  have hb6 := hb4.keep f6 (fun _ _ => id)
  have hrow6 := hrow4.keep f6 (fun _ _ => id)
  have w1 : IntKind.i64.wrap ((xs.length : Int) + (ys.length : Int)) = (xs.length : Int) + ys.length := w64 (by omega)
  by_cases hbig : xs.length + ys.length ≤ 4096
  case neg =>
    have hbI : (4096 : Int) < (xs.length : Int) + ys.length := by omega
    rw [if_neg hbig] at e10 hrow6
    obtain ⟨rg, rfl, _⟩ := hrow6.isSlice
    simp [e0, e1, e9, e10, w1, hbI]
    refine callV_R cba (alive_run hg6) ?_
    rintro _ _ ⟨rfl, _⟩
    simp [e0, e1, e9, e10, eds]
  have hbI : ¬ (4096 : Int) < (xs.length : Int) + ys.length := by omega
  rw [if_pos hbig] at e10 hrow6
  refine aw_cut (fun t => t.env 0 = .slice rx xs.length xs.length ∧ t.env 1 = .slice ry ys.length ys.length ∧ t.env 9 = gv4 ∧ t.env 10 = i64 0 ∧ t.ds = [] ∧ t.H = H6) (by simp [e0, e1, e9, e10, w1, hbI, eds]) ?_
  clear e0 e1 e9 e10 eds
  rintro ⟨env, H7, ds⟩ ⟨e0, e1, e9, e10, eds, hH⟩
  simp only at e0 e1 e9 e10 eds hH
  subst hH
  simp [e0, e1, e9, e10]
  refine callV_R cb20 (rmerge_run ha6 hb6 (by omega) (by omega)) ?_
  rintro v H8 ⟨f8, O8, hrow8⟩
  simp [e0, e1, e9, e10]
  refine callV_R cb11 (ksame_run (hrow6.keep f8 (fun _ _ => id)) hrow8 (by have := merT_len xs ys (max xs.length ys.length); omega)) ?_
  rintro _ H9 ⟨rfl, hH⟩
  subst hH
  simp [e0, e1, e9, e10]
  refine callV_R cba (alive_run (hg6.fresh gs_lt hn6 f8)) ?_
  rintro _ _ ⟨rfl, _⟩
  simp [e0, e1, e9, e10, eds]
end Go.Proofs.YtmeaeafceankkaaDoor.C

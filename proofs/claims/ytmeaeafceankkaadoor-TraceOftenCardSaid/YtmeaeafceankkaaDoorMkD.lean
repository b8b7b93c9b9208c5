/- Merged traces. Own text of this session. -/
import Derived.Test.YtmeaeafceankkaaDoorMkC
set_option linter.unusedVariables false
set_option linter.unusedSimpArgs false
set_option maxRecDepth 4000
set_option maxHeartbeats 8000000
namespace Go.Proofs.YtmeaeafceankkaaDoor.C
open Go Go.RowKit Go.Proofs.YtmeaeafceankkaaDoorA Go.Proofs.YtmeaeafceankkaaDoor.Plain
variable {H : AH}
def MerR (xs ys : List Nat) (H : AH) (v : Value) : Prop := ∃ gv O, Row 39 true H gv (gcells (if xs.length + ys.length ≤ 4096 then merT xs ys (max xs.length ys.length) else [])) O ∧ v = .tuple #[gv, i64 (if xs.length + ys.length ≤ 4096 then 0 else 6)]
theorem max_nat (a b : Nat) : max (a : Int) (b : Int) = ((max a b : Nat) : Int) := by omega
theorem merge_run {w w' : Bool} {sv gv : Value} {xs ys : List Nat} {O O' : Option Nat} (h : Row 39 w H sv (gcells xs) O) (h' : Row 39 w' H gv (gcells ys) O') (hx : xs.length ≤ 5000) (hy : ys.length ≤ 5000) : CallR cx 18 #[sv, gv] H (fun v H' => Fresh H H' ∧ MerR xs ys H' v) := by
  have hs1 := h.isSlice
  have hs2 := h'.isSlice
  obtain ⟨rx, rfl, _⟩ := hs1
  obtain ⟨ry, rfl, _⟩ := hs2
  simp only [List.length_map] at h h' ⊢
  refine wk18 (by simp) ?_
  unfold c18
  refine aw_cut (fun t => t.env 0 = .slice rx xs.length xs.length ∧ t.env 1 = .slice ry ys.length ys.length ∧ t.ds = [] ∧ t.H = H) (by simp) ?_
  rintro ⟨env, H1, ds⟩ ⟨e0, e1, eds, hH⟩
  simp only at e0 e1 eds hH
  subst hH
  have w1 : IntKind.i64.wrap (4096 - (xs.length : Int)) = 4096 - (xs.length : Int) := w64 (by omega)
  by_cases hbig : xs.length + ys.length ≤ 4096
  case neg =>
    have res : MerR xs ys H1 (.tuple #[.slice none 0 0, i64 6]) := ⟨_, none, by rw [if_neg hbig]; exact Row.nil, by rw [if_neg hbig]⟩
    by_cases h1 : 4096 < (xs.length : Int)
    · simp [e0, e1, h1, eds, Fresh.refl, Go.undef]
      exact res
    · have h2 : 4096 - (xs.length : Int) < ys.length := by omega
      simp [e0, e1, h1, w1, h2, eds, Fresh.refl, Go.undef]
      exact res
  have h1 : ¬ 4096 < (xs.length : Int) := by omega
  have h2 : ¬ 4096 - (xs.length : Int) < ys.length := by omega
  refine aw_cut (fun t => t.env 0 = .slice rx xs.length xs.length ∧ t.env 1 = .slice ry ys.length ys.length ∧ t.ds = [] ∧ t.H = H1) (by simp [e0, e1, h1, w1, h2, eds, Go.undef]) ?_
  clear e0 e1 eds
  rintro ⟨env, H2, ds⟩ ⟨e0, e1, eds, hH⟩
  simp only at e0 e1 eds hH
  subst hH
  refine aw_cut (fun t => t.env 0 = .slice rx xs.length xs.length ∧ t.env 1 = .slice ry ys.length ys.length ∧ t.env 6 = .slice none 0 0 ∧ t.ds = [] ∧ t.H = H2) (by simp [e0, e1, eds]) ?_
  clear e0 e1 eds
  rintro ⟨env, H3, ds⟩ ⟨e0, e1, e6, eds, hH⟩
  simp only at e0 e1 e6 eds hH
  subst hH
  have hmx := max_nat xs.length ys.length
  obtain ⟨m, hm⟩ : ∃ m, m = max xs.length ys.length := ⟨_, rfl⟩
  have hm5 : m ≤ 5000 := by omega
  rw [← hm] at hmx
  refine aw_cut (fun t => t.ds = [] ∧ Fresh H3 t.H ∧ AppG H3.next (merT xs ys m) t.H (t.env 6)) ?_ ?_
  · simp [e0, e1, hmx]
    refine aw_loop_to m (fun k t => t.env 0 = .slice rx xs.length xs.length ∧ t.env 1 = .slice ry ys.length ys.length ∧ t.env 23 = i64 (m : Nat) ∧ t.env 24 = i64 (k : Nat) ∧ t.ds = [] ∧ Fresh H3 t.H ∧ AppG H3.next (merT xs ys k) t.H (t.env 6)) ?_ ?_ ?_
    · clear e0 e1 e6 eds
      rintro k ⟨env, H4, ds⟩ hk ⟨e0, e1, e23, e24, eds, f4, ap⟩
      simp only at e0 e1 e23 e24 eds f4 ap
      have hkI : (k : Int) < m := by omega
      have hw : IntKind.i64.wrap ((k : Int) + 1) = ((k + 1 : Nat) : Int) := by rw [w64 (by omega)]; push_cast; rfl
      have hml := merT_len xs ys k
      have hms := merT_succ xs ys k
      generalize e6 : env 6 = v4 at ap
      have hB4 := f4.1
      by_cases hkx : k < xs.length
      · have hkxI : (k : Int) < xs.length := by omega
        have hxk : xs[k]?.toList = [xs[k]] := by rw [List.getElem?_eq_getElem hkx]; rfl
        obtain ⟨la, oa, ca, hra, g1, g2, _⟩ := (h.keep f4 (fun _ _ => id)).cell (i := k) (x := u64 (xs[k] : Nat)) (by simp [hkx])
        have hixa := ix22 la oa xs.length xs.length .i64 (k : Int) (by omega) hkxI
        rw [Int.toNat_natCast] at hixa
        obtain ⟨v5, H5, hap5, ap5, hle5, hkp5⟩ := appG ap hB4 (by omega) xs[k]
        have f5 : Fresh H3 H5 := ⟨Nat.le_trans hB4 hle5, fun x hx _ => by rw [hkp5 x hx, f4.get hx]⟩
        rw [hxk] at hms
        generalize xs[k] = xk at g2 hap5 ap5 hms
        by_cases hky : k < ys.length
        · have hkyI : (k : Int) < ys.length := by omega
          have hyk : ys[k]?.toList = [ys[k]] := by rw [List.getElem?_eq_getElem hky]; rfl
          obtain ⟨lb, ob, cb, hrb, g3, g4, _⟩ := (h'.keep f5 (fun _ _ => id)).cell (i := k) (x := u64 (ys[k] : Nat)) (by simp [hky])
          have hixb := ix22 lb ob ys.length ys.length .i64 (k : Int) (by omega) hkyI
          rw [Int.toNat_natCast] at hixb
          obtain ⟨v6, H6, hap6, ap6, hle6, hkp6⟩ := appG ap5 f5.1 (by simp; omega) ys[k]
          rw [hyk] at hms
          generalize ys[k] = yk at g4 hap6 ap6 hms
          rw [← hms] at ap6
          simp [e0, e1, e6, e23, e24, hk, hkx, hky, hra, hrb, hixa, hixb, g1, g2, g3, g4, hap5, hap6, hw, eds]
          exact ⟨⟨Nat.le_trans f5.1 hle6, fun x hx _ => by rw [hkp6 x hx, f5.get hx]⟩, ap6⟩
        · have hyk : ys[k]?.toList = [] := by rw [List.getElem?_eq_none (by omega)]; rfl
          rw [hyk, List.append_nil] at hms
          rw [← hms] at ap5
          simp [e0, e1, e6, e23, e24, hk, hkx, hky, hra, hixa, g1, g2, hap5, hw, eds]
          exact ⟨f5, ap5⟩
      · have hxk : xs[k]?.toList = [] := by rw [List.getElem?_eq_none (by omega)]; rfl
        rw [hxk, List.append_nil] at hms
        by_cases hky : k < ys.length
        · have hkyI : (k : Int) < ys.length := by omega
          have hyk : ys[k]?.toList = [ys[k]] := by rw [List.getElem?_eq_getElem hky]; rfl
          obtain ⟨lb, ob, cb, hrb, g3, g4, _⟩ := (h'.keep f4 (fun _ _ => id)).cell (i := k) (x := u64 (ys[k] : Nat)) (by simp [hky])
          have hixb := ix22 lb ob ys.length ys.length .i64 (k : Int) (by omega) hkyI
          rw [Int.toNat_natCast] at hixb
          obtain ⟨v6, H6, hap6, ap6, hle6, hkp6⟩ := appG ap hB4 (by omega) ys[k]
          rw [hyk] at hms
          generalize ys[k] = yk at g4 hap6 ap6 hms
          rw [← hms] at ap6
          simp [e0, e1, e6, e23, e24, hk, hkx, hky, hrb, hixb, g3, g4, hap6, hw, eds]
          exact ⟨⟨Nat.le_trans hB4 hle6, fun x hx _ => by rw [hkp6 x hx, f4.get hx]⟩, ap6⟩
        · omega
    · clear e0 e1 e6 eds
      rintro ⟨env, H4, ds⟩ ⟨e0, e1, e23, e24, eds, f4, ap⟩
      simp only at e0 e1 e23 e24 eds f4 ap
      simp [e23, e24, eds, f4]
      exact ap
    · simp [e0, e1, e6, eds, Fresh.refl, merT]
      exact appG_nil _ _
  clear e0 e1 e6 eds
  rintro ⟨env, H4, ds⟩ ⟨eds, f4, O4, hrow, _⟩
  simp only at eds f4 hrow
  have res : MerR xs ys H4 (.tuple #[env 6, i64 0]) := ⟨_, O4, by rw [if_pos hbig, ← hm]; exact hrow, by rw [if_pos hbig]⟩
  simp [eds, f4]
  exact res
/-- ref.Merge -/
theorem rmerge_run {w w' : Bool} {sv gv : Value} {xs ys : List Nat} {O O' : Option Nat} (h : Row 39 w H sv (gcells xs) O) (h' : Row 39 w' H gv (gcells ys) O') (hx : xs.length ≤ 5000) (hy : ys.length ≤ 5000) : CallR cx 20 #[sv, gv] H (fun v H' => Fresh H H' ∧ ∃ O4, Row 39 true H' v (gcells (merT xs ys (max xs.length ys.length))) O4) := by
  have hs1 := h.isSlice
  have hs2 := h'.isSlice
  obtain ⟨rx, rfl, _⟩ := hs1
  obtain ⟨ry, rfl, _⟩ := hs2
  simp only [List.length_map] at h h' ⊢
  refine wk20 (by simp) ?_
  unfold c20
  refine aw_cut (fun t => t.env 0 = .slice rx xs.length xs.length ∧ t.env 1 = .slice ry ys.length ys.length ∧ t.ds = [] ∧ t.H = H) (by simp) ?_
  rintro ⟨env, H1, ds⟩ ⟨e0, e1, eds, hH⟩
  simp only at e0 e1 eds hH
  subst hH
  refine aw_cut (fun t => t.env 0 = .slice rx xs.length xs.length ∧ t.env 1 = .slice ry ys.length ys.length ∧ t.env 5 = .slice none 0 0 ∧ t.ds = [] ∧ t.H = H1) (by simp [e0, e1, eds]) ?_
  clear e0 e1 eds
  rintro ⟨env, H3, ds⟩ ⟨e0, e1, e5, eds, hH⟩
  simp only at e0 e1 e5 eds hH
  subst hH
  obtain ⟨m, hm⟩ : ∃ m, m = max xs.length ys.length := ⟨_, rfl⟩
  have hm5 : m ≤ 5000 := by omega
  refine aw_cut (fun t => t.ds = [] ∧ Fresh H3 t.H ∧ AppG H3.next (merT xs ys m) t.H (t.env 5)) ?_ ?_
  · simp [e0, e1]
    refine aw_loop_to m (fun k t => t.env 0 = .slice rx xs.length xs.length ∧ t.env 1 = .slice ry ys.length ys.length ∧ t.env 6 = i64 (k : Nat) ∧ t.ds = [] ∧ Fresh H3 t.H ∧ AppG H3.next (merT xs ys k) t.H (t.env 5)) ?_ ?_ ?_
    · clear e0 e1 e5 eds
      rintro k ⟨env, H4, ds⟩ hk ⟨e0, e1, e6, eds, f4, ap⟩
      simp only at e0 e1 e6 eds f4 ap
      have hw : IntKind.i64.wrap ((k : Int) + 1) = ((k + 1 : Nat) : Int) := by rw [w64 (by omega)]; push_cast; rfl
      have hml := merT_len xs ys k
      have hms := merT_succ xs ys k
      generalize e5 : env 5 = v4 at ap
      have hB4 := f4.1
      by_cases hkx : k < xs.length
      · have hkxI : (k : Int) < xs.length := by omega
        have hxk : xs[k]?.toList = [xs[k]] := by rw [List.getElem?_eq_getElem hkx]; rfl
        obtain ⟨la, oa, ca, hra, g1, g2, _⟩ := (h.keep f4 (fun _ _ => id)).cell (i := k) (x := u64 (xs[k] : Nat)) (by simp [hkx])
        have hixa := ix22 la oa xs.length xs.length .i64 (k : Int) (by omega) hkxI
        rw [Int.toNat_natCast] at hixa
        obtain ⟨v5, H5, hap5, ap5, hle5, hkp5⟩ := appG ap hB4 (by omega) xs[k]
        have f5 : Fresh H3 H5 := ⟨Nat.le_trans hB4 hle5, fun x hx _ => by rw [hkp5 x hx, f4.get hx]⟩
        rw [hxk] at hms
        generalize xs[k] = xk at g2 hap5 ap5 hms
        by_cases hky : k < ys.length
        · have hkyI : (k : Int) < ys.length := by omega
          have hyk : ys[k]?.toList = [ys[k]] := by rw [List.getElem?_eq_getElem hky]; rfl
          obtain ⟨lb, ob, cb, hrb, g3, g4, _⟩ := (h'.keep f5 (fun _ _ => id)).cell (i := k) (x := u64 (ys[k] : Nat)) (by simp [hky])
          have hixb := ix22 lb ob ys.length ys.length .i64 (k : Int) (by omega) hkyI
          rw [Int.toNat_natCast] at hixb
          obtain ⟨v6, H6, hap6, ap6, hle6, hkp6⟩ := appG ap5 f5.1 (by simp; omega) ys[k]
          rw [hyk] at hms
          generalize ys[k] = yk at g4 hap6 ap6 hms
          rw [← hms] at ap6
          simp [e0, e1, e5, e6, hkx, hky, hra, hrb, hixa, hixb, g1, g2, g3, g4, hap5, hap6, hw, eds, Go.undef]
          exact ⟨⟨Nat.le_trans f5.1 hle6, fun x hx _ => by rw [hkp6 x hx, f5.get hx]⟩, ap6⟩
        · have hyk : ys[k]?.toList = [] := by rw [List.getElem?_eq_none (by omega)]; rfl
          rw [hyk, List.append_nil] at hms
          rw [← hms] at ap5
          simp [e0, e1, e5, e6, hkx, hky, hra, hixa, g1, g2, hap5, hw, eds, Go.undef]
          exact ⟨f5, ap5⟩
      · have hxk : xs[k]?.toList = [] := by rw [List.getElem?_eq_none (by omega)]; rfl
        rw [hxk, List.append_nil] at hms
        by_cases hky : k < ys.length
        · have hkyI : (k : Int) < ys.length := by omega
          have hyk : ys[k]?.toList = [ys[k]] := by rw [List.getElem?_eq_getElem hky]; rfl
          obtain ⟨lb, ob, cb, hrb, g3, g4, _⟩ := (h'.keep f4 (fun _ _ => id)).cell (i := k) (x := u64 (ys[k] : Nat)) (by simp [hky])
          have hixb := ix22 lb ob ys.length ys.length .i64 (k : Int) (by omega) hkyI
          rw [Int.toNat_natCast] at hixb
          obtain ⟨v6, H6, hap6, ap6, hle6, hkp6⟩ := appG ap hB4 (by omega) ys[k]
          rw [hyk] at hms
          generalize ys[k] = yk at g4 hap6 ap6 hms
          rw [← hms] at ap6
          simp [e0, e1, e5, e6, hkx, hky, hrb, hixb, g3, g4, hap6, hw, eds, Go.undef]
          exact ⟨⟨Nat.le_trans hB4 hle6, fun x hx _ => by rw [hkp6 x hx, f4.get hx]⟩, ap6⟩
        · omega
    · clear e0 e1 e5 eds
      rintro ⟨env, H4, ds⟩ ⟨e0, e1, e6, eds, f4, ap⟩
      simp only at e0 e1 e6 eds f4 ap
      have n1 : ¬ m < xs.length := by omega
      have n2 : ¬ m < ys.length := by omega
      simp [e0, e1, e6, n1, n2, eds, f4, Go.undef]
      exact ap
    · simp [e0, e1, e5, eds, Fresh.refl, merT]
      exact appG_nil _ _
  clear e0 e1 e5 eds
  rintro ⟨env, H4, ds⟩ ⟨eds, f4, O4, hrow, _⟩
  simp only at eds f4 hrow
  rw [hm] at hrow
  simp [eds, f4]
  exact ⟨O4, hrow⟩
end Go.Proofs.YtmeaeafceankkaaDoor.C

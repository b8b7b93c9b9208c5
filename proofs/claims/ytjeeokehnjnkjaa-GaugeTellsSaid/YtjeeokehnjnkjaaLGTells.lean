/- GaugeTells over the small heap. Own text of this session. -/
import Derived.Test.YtjeeokehnjnkjaaStrk2
set_option linter.unusedVariables false
set_option linter.unusedSimpArgs false
set_option maxRecDepth 4000
set_option maxHeartbeats 4000000
namespace Go.Proofs.Ytjeeokehnjnkjaa.C
open Go Go.RowKit Go.Proofs.YtjeeokehnjnkjaaA
variable {H : AH}
theorem nogs : HasG gs H := fun x hx => nomatch (show x ∈ ([] : Globs) from hx)
theorem gaugeTells_run {a0 : Int} {sv : Value} {zs : List Bool} {len : Nat} {O : Option Nat} (hg : HasG gs H) (hn : nG ≤ H.next) (hrow : Row 4 false H sv (zs.map Value.bool) O) (hlen : zs.length = len) (hwf : ∀ b ∈ zs, True) (w0 : (Lit.int .i64 a0).wf = true) :
    CallR cx 3 #[.int .i64 a0, sv] H (fun v _ => v = .bool true) := by
  obtain ⟨ra, rfl, hra⟩ := hrow.isSlice
  simp only [List.length_map] at hrow
  refine wk3 (by simp) ?_
  unfold c3
  refine aw_cut (fun t => t.env 0 = .int .i64 a0 ∧ t.env 1 = .slice ra zs.length zs.length ∧ t.ds = [] ∧ t.H = H) (by simp) ?_
  rintro ⟨env, H', ds⟩ ⟨e0, e1, eds, hH⟩
  simp only at e0 e1 eds hH
  subst hH
  by_cases hb : 1 ≤ a0 ∧ a0 ≤ 65536
  case neg =>
    refine aw_cut (fun t => t.env 0 = .int .i64 a0 ∧ t.env 5 = .pointer none ∧ t.env 6 = i64 1 ∧ t.ds = [] ∧ t.H = H') ?_ ?_
    · simp [e0]
      refine callV_R cb6 (gnew_bad hb) ?_
      rintro _ _ ⟨rfl, rfl⟩
      simp [e0, eds]
    clear e0 e1 eds
    rintro ⟨env, H, ds⟩ ⟨e0, e5, e6, eds, hH⟩
    simp only at e0 e5 e6 eds hH
    subst hH
    by_cases h1 : a0 < 1
    · simp [e0, e5, e6, h1]
      refine callV_R cba (alive_run nogs) ?_
      rintro _ _ ⟨rfl, _⟩
      simp [eds]
    · have h2 : 65536 < a0 := by omega
      simp [e0, e5, e6, h1, h2]
      refine callV_R cba (alive_run nogs) ?_
      rintro _ _ ⟨rfl, _⟩
      simp [eds]
  obtain ⟨w, rfl⟩ : ∃ w : Nat, a0 = (w : Int) := ⟨a0.toNat, by omega⟩
  have hw0 : 0 < w := by omega
  have hw1 : w ≤ 65536 := by omega
  refine aw_cut (fun t => t.env 0 = i64 w ∧ t.env 1 = .slice ra zs.length zs.length ∧ t.env 5 = ptr (H'.next + 2) ∧ t.env 6 = i64 0 ∧ t.ds = [] ∧ Fresh H' t.H ∧ IsG t.H (H'.next + 2) (H'.next + 1) H'.next w []) ?_ ?_
  · simp [e0]
    refine callV_R cb6 (gnew_run hw0 hw1) ?_
    rintro _ H1 ⟨rfl, f1, hG⟩
    simp [e0, e1, eds, f1, hG]
  clear e0 e1 eds
  rintro ⟨env, H1, ds⟩ ⟨e0, e1, e5, e6, eds, f1, hG⟩
  simp only at e0 e1 e5 e6 eds f1 hG
  generalize hgq : H'.next + 2 = g at *
  generalize hS : H'.next + 1 = S at *
  generalize hW : H'.next = W at *
  have h1 : ¬ (w : Int) < 1 := by omega
  have h1' : ¬ w = 0 := by omega
  have h2 : ¬ 65536 < (w : Int) := by omega
  have h2' : ¬ 65536 < w := by omega
  refine aw_cut (fun t => t.env 0 = i64 w ∧ t.env 1 = .slice ra zs.length zs.length ∧ t.env 5 = ptr g ∧ t.env 6 = i64 0 ∧ t.ds = [] ∧ t.H = H1) (by simp [e0, e1, e5, e6, h1, h1', h2, h2', eds]) ?_
  clear e0 e1 e5 e6 eds
  rintro ⟨env, H2, ds⟩ ⟨e0, e1, e5, e6, eds, hH⟩
  simp only at e0 e1 e5 e6 eds hH
  subst hH
  have hz : lastB [] w = [] := by simp [lastB]
  -- nothing is told yet
  refine aw_cut (fun t => t.env 0 = i64 w ∧ t.env 1 = .slice ra zs.length zs.length ∧ t.env 5 = ptr g ∧ t.ds = [] ∧ Fresh H' t.H ∧ IsG t.H g S W w []) ?_ ?_
  · have hw0' : IntKind.i64.wrap 0 = 0 := by decide
    simp [e5, e6]
    refine callV_R cb8 (glen_run hG) ?_
    rintro _ H3 ⟨rfl, hH⟩
    subst hH
    simp [e5, e6]
    refine callV_R cb9 (hits_run hG) ?_
    rintro _ H4 ⟨rfl, hH⟩
    subst hH
    simp [e5, e6, hz, hits, hw0']
    refine callV_R cb10 (mille_run hG) ?_
    rintro _ H5 ⟨rfl, hH⟩
    subst hH
    simp [e5, e6, hz, mille, hits, hw0']
    refine callV_R cb11 (streak_run hG) ?_
    rintro _ H6 ⟨rfl, f6⟩
    simp [hz, strk, lead, hw0', e0, e1, e5, e6, eds]
    exact ⟨f1.trans f6, hG.fresh f6⟩
  clear e0 e1 e5 e6 eds
  rintro ⟨env, H3, ds⟩ ⟨e0, e1, e5, eds, f3, hG3⟩
  simp only at e0 e1 e5 eds f3 hG3
  by_cases h200 : 200 < (zs.length : Int)
  · simp [e1, h200]
    refine callV_R cba (alive_run nogs) ?_
    rintro _ _ ⟨rfl, _⟩
    simp [eds]
  refine aw_cut (fun t => t.env 0 = i64 w ∧ t.env 1 = .slice ra zs.length zs.length ∧ t.env 5 = ptr g ∧ t.ds = [] ∧ t.H = H3) (by simp [e0, e1, e5, h200, eds]) ?_
  clear e0 e1 e5 eds
  rintro ⟨env, H4, ds⟩ ⟨e0, e1, e5, eds, hH⟩
  simp only at e0 e1 e5 eds hH
  subst hH
  refine aw_cut (fun t => t.env 0 = i64 w ∧ t.env 1 = .slice ra zs.length zs.length ∧ t.env 5 = ptr g ∧ t.ds = [] ∧ Fresh H' t.H ∧ IsG t.H g S W w zs) ?_ ?_
  · simp [e1]
    refine aw_loop_to zs.length (fun k t => t.env 0 = i64 w ∧ t.env 1 = .slice ra zs.length zs.length ∧ t.env 5 = ptr g ∧ t.env 56 = .slice ra zs.length zs.length ∧ t.env 57 = i64 (zs.length : Nat) ∧ t.env 58 = i64 (k : Nat) ∧ t.ds = [] ∧ Fresh H' t.H ∧ IsG t.H g S W w (zs.take k)) ?_ ?_ ?_
    · clear e0 e1 e5 eds
      rintro k ⟨env, H2, ds⟩ hk ⟨e0, e1, e5, e56, e57, e58, eds, f2, hG2⟩
      simp only at e0 e1 e5 e56 e57 e58 eds f2 hG2
      have hkN : (k : Int) < zs.length := by omega
      obtain ⟨k1, hk1⟩ : ∃ x, x = k + 1 := ⟨_, rfl⟩
      have hw : IntKind.i64.wrap ((k : Int) + 1) = (k1 : Int) := by rw [w64 (by omega)]; omega
      have hcu := wU (n := k1) (by omega)
      have hr2 := hrow.keep f2 (fun _ _ => id)
      obtain ⟨la, oa, ca, hraa, g1, g2, _⟩ := hr2.cell (i := k) (x := .bool zs[k]) (by simp [hk])
      have hix := ix22 la oa zs.length zs.length .i64 (k : Int) (by omega) hkN
      rw [Int.toNat_natCast] at hix
      skip
      simp [e0, e1, e5, e56, e57, e58, hk, hraa, hix, g1, g2]
      refine callV_R cb12 (note_run hG2 (b := zs[k]) (by simp; omega)) ?_
      rintro _ H3 ⟨rfl, k3, hn3, hG3⟩
      have hts : zs.take k ++ [zs[k]] = zs.take k1 := by rw [hk1, List.take_add_one, List.getElem?_eq_getElem hk]; rfl
      rw [hts] at hG3
      have f3 : Fresh H' H3 := ⟨by have := f2.1; omega, fun l hl _ => by rw [k3.get (by have := f2.1; omega) (by omega), f2.get hl]⟩
      have hr3 := hrow.keep f3 (fun _ _ => id)
      rw [hraa] at hr3
      obtain ⟨sv', hsl, hrow'⟩ := row_part el22 hr3 (lo := none) (hi := some (i64 (k1 : Int))) (a := 0) (b := k1) (by simp [bnd]; omega) (by simp [bnd]) (by omega) (by simp; omega)
      have hdr : ((bcells zs).take k1).drop 0 = bcells (zs.take k1) := by rw [List.drop_zero, ← List.map_take]
      rw [hdr] at hrow'
      have hkl : (zs.take k1).length = k1 := by simp; omega
      simp [e0, e1, e5, e56, e57, e58, hraa, hw, hsl]
      refine callV_R cb13 (last_run (w := w) hrow' (by omega) (by omega)) ?_
      rintro lv H4 ⟨hH, Or, hrL, _⟩
      subst hH
      have hLl := lastB_len (zs.take k1) w
      obtain ⟨rl, rfl, _⟩ := hrL.isSlice
      simp only [List.length_map] at hrL
      have hll : (lastB (zs.take k1) w).length < 1000000 := by omega
      simp [e0, e1, e5, e56, e57, e58, hraa, hw]
      refine callV_R cb8 (glen_run hG3) ?_
      rintro _ H5 ⟨rfl, hH⟩
      subst hH
      rw [← hLl]
      simp [e0, e1, e5, e56, e57, e58, hraa, hw]
      refine callV_R cb9 (hits_run hG3) ?_
      rintro _ H5 ⟨rfl, hH⟩
      subst hH
      simp [e0, e1, e5, e56, e57, e58, hraa, hw]
      refine callV_R cb14 (rhits_run hrL hll) ?_
      rintro _ H5 ⟨rfl, hH⟩
      subst hH
      simp [e0, e1, e5, e56, e57, e58, hraa, hw]
      refine callV_R cb10 (mille_run hG3) ?_
      rintro _ H5 ⟨rfl, hH⟩
      subst hH
      simp [e0, e1, e5, e56, e57, e58, hraa, hw]
      refine callV_R cb15 (rmille_run hrL hll) ?_
      rintro _ H5 ⟨rfl, hH⟩
      subst hH
      simp [e0, e1, e5, e56, e57, e58, hraa, hw]
      refine callV_R cb11 (streak_run hG3) ?_
      rintro _ H6 ⟨rfl, f6⟩
      simp [e0, e1, e5, e56, e57, e58, hraa, hw]
      refine callV_R cb16 (rstreak_run (hrL.keep f6 (fun _ _ => id)) hll) ?_
      rintro _ H7 ⟨rfl, hH⟩
      subst hH
      simp [e0, e1, e5, e56, e57, e58, hraa, hw]
      refine callV_R cb17 (total_run (hG3.fresh f6)) ?_
      rintro _ H8 ⟨rfl, hH⟩
      subst hH
      rw [hkl]
      have hcu' : IntKind.u64.wrap ((k : Int) + 1) = (k : Int) + 1 := by rw [hk1] at hcu; push_cast at hcu; exact hcu
      have hw' : IntKind.i64.wrap ((k : Int) + 1) = (k : Int) + 1 := w64 (by omega)
      simp [e0, e1, e5, e56, e57, e58, hraa, hcu', hw', eds, hk1]
      exact ⟨f3.trans f6, by rw [← hk1]; exact hG3.fresh f6⟩
    · clear e0 e1 e5 eds
      rintro ⟨env, H2, ds⟩ ⟨e0, e1, e5, e56, e57, e58, eds, f2, hG2⟩
      simp only at e0 e1 e5 e56 e57 e58 eds f2 hG2
      rw [List.take_length] at hG2
      simp [e0, e1, e5, e57, e58, eds]
      exact ⟨f2, hG2⟩
    · simp [e0, e1, e5, eds]
      exact ⟨f3, hG3⟩
  clear e0 e1 e5 eds
  rintro ⟨env, H5, ds⟩ ⟨e0, e1, e5, eds, f5, hG5⟩
  simp only at e0 e1 e5 eds f5 hG5
  have hrow5 := hrow.keep f5 (fun _ _ => id)
  have hll := lastB_len zs w
  refine aw_cut (fun t => t.env 0 = i64 w ∧ t.env 1 = .slice ra zs.length zs.length ∧ t.env 11 = .bool true ∧ t.ds = [] ∧ Fresh H5 t.H ∧ ∃ Of, Row 4 true t.H (t.env 10) (bcells (lastB zs w)) Of) ?_ ?_
  · simp [e5]
    refine callV_R cb18 (told_run (most := 1000) hG5) ?_
    rintro _ H6 ⟨tv, Of, rfl, hrT, _, f6⟩
    rw [List.take_of_length_le (by omega)] at hrT
    simp [e0, e1, eds, f6]
    exact ⟨Of, hrT⟩
  clear e0 e1 e5 eds
  rintro ⟨env, H6, ds⟩ ⟨e0, e1, e11, eds, f6, Of, hrT⟩
  simp only at e0 e1 e11 eds f6 hrT
  generalize e10 : env 10 = tv at hrT
  simp [e0, e1, e10, e11]
  refine callV_R cb13 (last_run (w := w) (hrow5.keep f6 (fun _ _ => id)) (by omega) (by omega)) ?_
  rintro lv H7 ⟨hH, Or, hrL, _⟩
  subst hH
  simp [e0, e1, e10, e11]
  refine callV_R cb19 (bools_run hrT hrL (by omega)) ?_
  rintro _ H8 ⟨rfl, hH⟩
  subst hH
  simp [e0, e1, e10, e11]
  refine callV_R cba (alive_run nogs) ?_
  rintro _ _ ⟨rfl, _⟩
  simp [eds]
end Go.Proofs.Ytjeeokehnjnkjaa.C

/- Sets at any number; copies; the document's lists. Own text of this session. -/
import Derived.Test.YtdmidlgnfepfjaaDoorLTells
set_option linter.unusedVariables false
set_option linter.unusedSimpArgs false
set_option maxRecDepth 4000
set_option maxHeartbeats 8000000
namespace Go.Proofs.YtdmidlgnfepfjaaDoor.C
open Go Go.RowKit Go.Proofs.YtdmidlgnfepfjaaDoorA Go.Proofs.YtdmidlgnfepfjaaDoor.Ones
variable {H : AH}
/-- Has, of any number -/
theorem has_gen {S W w : Nat} {ws : List Nat} (h : IsSet H S W w ws) {i : Int} : CallR cx 22 #[ptr S, i64 i] H (fun v H' => v = .bool (decide (0 ≤ i ∧ i < w) && bitAt ws i.toNat) ∧ H' = H) := by
  by_cases h0 : 0 ≤ i
  · obtain ⟨n, rfl⟩ : ∃ n : Nat, i = (n : Int) := ⟨i.toNat, by omega⟩
    by_cases h1 : n < w
    · have h1I : (n : Int) < w := by omega
      refine (has_run h h1).mono ?_
      rintro _ _ ⟨rfl, rfl⟩
      simp [h1, h1I]
    · have h1I : ¬ (n : Int) < w := by omega
      refine wk22 (by simp) ?_
      simp [c22, h0]
      refine callV_R cb18 (width_run h) ?_
      rintro _ _ ⟨rfl, rfl⟩
      simp [h1, h1I]
  · have h0' : i < 0 := by omega
    refine wk22 (by simp) ?_
    simp [c22, h0, h0']
/-- Put, of a number not below the width -/
theorem put_out {S W w : Nat} {ws : List Nat} (h : IsSet H S W w ws) {i : Nat} (hi : w ≤ i) : CallR cx 9 #[ptr S, i64 i] H (fun v H' => v = .bool false ∧ H' = H) := by
  refine wk9 (by simp) ?_
  have h0 : ¬ (i : Int) < 0 := by omega
  have h1 : (w : Int) ≤ i := by omega
  simp [c9, h0]
  refine callV_R cb18 (width_run h) ?_
  rintro _ _ ⟨rfl, rfl⟩
  simp [h1, hi]
/-- Drop, of a number not below the width -/
theorem drop_out {S W w : Nat} {ws : List Nat} (h : IsSet H S W w ws) {i : Nat} (hi : w ≤ i) : CallR cx 17 #[ptr S, i64 i] H (fun v H' => v = .bool false ∧ H' = H) := by
  refine wk17 (by simp) ?_
  have h1 : ¬ (i : Int) < w := by omega
  have hh := has_gen h (i := (i : Int))
  simp only [h1, and_false, decide_false, Bool.false_and] at hh
  simp [c17]
  refine callV_R cb22 hh ?_
  rintro _ _ ⟨rfl, rfl⟩
  simp
/-- Pick, of a number below 0 -/
theorem pick_neg {S : Nat} {k : Int} (hk : k < 0) : CallR cx 10 #[ptr S, i64 k] H (fun v H' => v = .tuple #[i64 0, .bool false] ∧ H' = H) := by
  refine wk10 (by simp) ?_
  simp [c10, hk]
theorem append_exact {H : AH} {l0 W : Nat} {ws : List Nat} (h0 : H.get l0 = some (.cells [] 50 true 1)) (hl0 : l0 < H.next) (hW : H.get W = some (.cells (wcells ws) 50 true 1)) (hlen : ws.length < 1000000) :
    ∃ l2 H2, aAppend Tryd.prog 47 47 (.slice (some ⟨l0, 0, none⟩) 0 0) (.slice (some ⟨W, 0, none⟩) ws.length ws.length) H = some (.slice (some ⟨l2, 0, none⟩) ws.length ws.length, H2) ∧ H2.get l2 = some (.cells (wcells ws) 50 true 1) ∧ (l2 = l0 ∨ l2 = H.next) ∧ l2 < H2.next ∧ H.next ≤ H2.next ∧ ∀ l, l < H.next → l ≠ l0 → H2.get l = H.get l := by
  obtain ⟨i, hi, h1, hb, hz⟩ := el47.i
  by_cases hn : ws = []
  · subst hn
    have hsc : srcCells i.size (.slice (some ⟨W, 0, none⟩) 0 0) H = some (0, []) := by simp [srcCells]
    refine ⟨l0, H, ?_, h0, .inl rfl, hl0, Nat.le_refl _, fun _ _ _ => rfl⟩
    simp [aAppend, el47.sl, hi, el47.nt, hz, hsc]
  · have hxl : 0 < ws.length := List.length_pos_iff.2 hn
    have hne : ¬ ws.length = 0 := by omega
    have hsc : srcCells i.size (.slice (some ⟨W, 0, none⟩) ws.length ws.length) H = some (ws.length, wcells ws) := by
      have : List.take ws.length (wcells ws) = wcells ws := List.take_of_length_le (by simp)
      generalize hcs : wcells ws = cs at hW this ⊢
      have hcl : cs.length = ws.length := by rw [← hcs]; simp
      simp [srcCells, hne, hn, h1, hW, hcl, this]
    have happ : appendOk 0 ws.length i.bytes = true := by
      simp only [appendOk, Bool.and_eq_true, decide_eq_true_eq]
      refine ⟨by omega, ?_⟩
      calc (2 * (0 + ws.length) + 1024) * i.bytes ≤ (2 * (0 + ws.length) + 1024) * 16 := Nat.mul_le_mul_left _ hb
        _ ≤ _ := by omega
    have hall : (wcells ws).all isCell = true := List.all_eq_true.2 (by intro x hx; obtain ⟨n, _, rfl⟩ := List.mem_map.1 hx; rfl)
    have hcl : (wcells ws).length = ws.length := by simp
    rw [h1] at hsc
    generalize wcells ws = cs at hsc hall hcl ⊢
    refine ⟨H.next, ⟨H.next + 1, upd (YtdmidlgnfepfjaaDoorA.del H.get l0) H.next (.cells cs 50 true 1)⟩, ?_, by simp, .inr rfl, by simp, by simp, fun l hl hn => ?_⟩
    · simp [aAppend, el47.sl, hi, el47.nt, hz, hsc, hne, hn, happ, h1, h0, hcl]
      exact List.all_eq_true.1 hall
    · simp [show ¬ l = H.next by omega, hn]
theorem clone_exact {S W w : Nat} {ws : List Nat} (h : IsSet H S W w ws) : CallR cx 27 #[.slice (some ⟨W, 0, none⟩) ws.length ws.length] H (fun v H' => Fresh H H' ∧ ∃ W', v = .slice (some ⟨W', 0, none⟩) ws.length ws.length ∧ H'.get W' = some (.cells (wcells ws) 50 true 1) ∧ H.next ≤ W' ∧ W' < H'.next) := by
  refine wk27 (by simp) ?_
  have hwd := h.wide
  have hlen := h.len
  have hlW := h.lW
  obtain ⟨l2, H2, a1, a2, a3, a4, a5, a6⟩ := append_exact (H := ⟨H.next + 1, upd H.get H.next (.cells [] 50 true 1)⟩) (l0 := H.next) (W := W) (ws := ws) (by simp) (by simp) (by simp [show ¬ W = H.next by omega]; exact h.hW) (by omega)
  generalize wcells ws = cs at a2
  simp [c27, sn47, bs47_0, a1]
  simp at a3 a5 a6
  refine ⟨⟨by omega, fun l hl _ => ?_⟩, a2, by omega, a4⟩
  rw [a6 l (by omega) (by omega)]
  simp [show ¬ l = H.next by omega]
/-- Copy -/
theorem copy_run {S W w : Nat} {ws : List Nat} (h : IsSet H S W w ws) : CallR cx 19 #[ptr S] H (fun v H' => Fresh H H' ∧ ∃ S' W', v = ptr S' ∧ IsSet H' S' W' w ws ∧ H.next ≤ S' ∧ H.next ≤ W') := by
  refine wk19 (by simp) ?_
  have hS := h.hS
  simp [c19, hS]
  refine callV_R cb27 (clone_exact h) ?_
  rintro cv H1 ⟨f1, W', rfl, gW, hW1, hW2⟩
  have hS1 := (h.fresh f1).hS
  simp [hS1, AH.new]
  have hf : Fresh H1 ⟨H1.next + 1, upd H1.get H1.next (.cells [i64 w, .slice (some ⟨W', 0, none⟩) ws.length ws.length] 49 true 0)⟩ := Fresh.ofNew
  refine ⟨f1.trans hf, W', ⟨by simp, ?_, h.len, h.small, h.wide, by simp, by simp; omega, by omega⟩, f1.1, hW1⟩
  simp [show ¬ W' = H1.next by omega]
  exact gW
/-- ref.Without -/
theorem without_run {wr : Bool} {sv : Value} {l : List Nat} {O : Option Nat} (h : Row 3 wr H sv (icells l) O) (hl : l.length < 1000000) {i : Nat} : CallR cx 20 #[sv, i64 i] H (fun v H' => Fresh H H' ∧ ∃ O', Row 3 true H' v (icells (l.filter (fun x => decide (x ≠ i)))) O' ∧ ∀ x, O' = some x → H.next ≤ x) := by
  obtain ⟨ra, rfl, _⟩ := h.isSlice
  simp only [List.length_map] at h ⊢
  refine wk20 (by simp) ?_
  simp [c20]
  refine aw_loop_to l.length (fun k s => s.env 0 = .slice ra l.length l.length ∧ s.env 1 = i64 i ∧ s.env 6 = i64 (k : Nat) ∧ s.ds = [] ∧ Fresh H s.H ∧ ∃ O', Row 3 true s.H (s.env 5) (icells ((l.take k).filter (fun x => decide (x ≠ i)))) O' ∧ ∀ x, O' = some x → H.next ≤ x) ?_ ?_ ?_
  · rintro k ⟨env, H2, ds⟩ hkl ⟨e0, e1, e6, eds, hf, O', hrow, hO⟩
    simp only at e0 e1 e6 eds hf hrow
    generalize e5 : env 5 = ov at hrow
    have hw := w64 (n := (k : Int) + 1) (by omega)
    have hklI : (k : Int) < l.length := by omega
    have htk : l.take (k + 1) = l.take k ++ [l[k]] := by rw [List.take_add_one, List.getElem?_eq_getElem hkl]; rfl
    obtain ⟨la, oa, ca, hra, g1, g2, _⟩ := (h.keep hf (fun _ _ => id)).cell (ic_cell hkl)
    have hix := ix34 la oa l.length l.length .i64 (k : Int) (by omega) hklI
    rw [Int.toNat_natCast] at hix
    generalize l[k] = x at htk g2
    rw [htk, List.filter_append]
    have hlen : ((l.take k).filter (fun x => decide (x ≠ i))).length ≤ 1000000 := by
      have := List.length_filter_le (fun x => decide (x ≠ i)) (l.take k)
      simp at this ⊢
      omega
    generalize (l.take k).filter (fun x => decide (x ≠ i)) = ys at hrow hlen
    by_cases hxi : x = i
    · subst hxi
      simp [e0, e1, e5, e6, hkl, hklI, hra, hix, g1, g2, hw, eds]
      exact ⟨hf, O', by simpa using hrow, hO⟩
    · have hxI : ¬ (x : Int) = i := by omega
      have hel : (icells ys).length = ys.length := by simp
      obtain ⟨H3, hap, hnx, hget, hrow3, hkp⟩ := row_append el34 hrow (by rw [hel]; omega) (v := i64 (x : Nat)) rfl
      rw [hel] at hap hrow3
      rw [← icells_snoc] at hrow3
      have he : [x].filter (fun x => decide (x ≠ i)) = [x] := by simp [hxi]
      rw [he]
      simp [e0, e1, e5, e6, hkl, hklI, hra, hix, g1, g2, hxi, hxI, hap, hw, eds, -List.map_append]
      exact ⟨⟨by have := hf.1; omega, fun z hz _ => by rw [hkp z (by have := hf.1; omega) (fun e => by have := hO z e; omega), hf.get hz]⟩, _, hrow3, fun y e => by cases e; have := hf.1; omega⟩
  · rintro ⟨env, H2, ds⟩ ⟨e0, e1, e6, eds, hf, O', hrow, hO⟩
    simp only at e0 e1 e6 eds hf hrow
    rw [List.take_length] at hrow
    simp [e0, e6, eds]
    exact ⟨hf, O', by simpa using hrow, hO⟩
  · simp [Fresh.refl]
    exact ⟨none, Row.nil, by simp⟩
/-- ref.Rank -/
def rankL (l : List Nat) (i : Int) : Nat := (l.filter (fun (x : Nat) => decide ((x : Int) < i))).length
theorem rrank_run {wr : Bool} {sv : Value} {l : List Nat} {O : Option Nat} (h : Row 3 wr H sv (icells l) O) (hl : l.length < 1000000) {i : Int} : CallR cx 29 #[sv, i64 i] H (fun v H' => v = i64 ((rankL l i : Nat) : Int) ∧ H' = H) := by
  obtain ⟨ra, rfl, _⟩ := h.isSlice
  simp only [List.length_map] at h ⊢
  refine wk29 (by simp) ?_
  simp [c29]
  refine aw_loop_to l.length (fun k s => s.env 0 = .slice ra l.length l.length ∧ s.env 1 = i64 i ∧ s.env 5 = i64 ((rankL (l.take k) i : Nat) : Int) ∧ s.env 6 = i64 (k : Nat) ∧ s.ds = [] ∧ s.H = H) ?_ ?_ ?_
  · rintro k ⟨env, H2, ds⟩ hkl ⟨e0, e1, e5, e6, eds, hH⟩
    simp only at e0 e1 e5 e6 eds hH
    subst hH
    have hw := w64 (n := (k : Int) + 1) (by omega)
    have hklI : (k : Int) < l.length := by omega
    have htk : l.take (k + 1) = l.take k ++ [l[k]] := by rw [List.take_add_one, List.getElem?_eq_getElem hkl]; rfl
    obtain ⟨la, oa, ca, hra, g1, g2, _⟩ := h.cell (ic_cell hkl)
    have hix := ix34 la oa l.length l.length .i64 (k : Int) (by omega) hklI
    rw [Int.toNat_natCast] at hix
    generalize l[k] = x at htk g2
    have hsn : rankL (l.take (k + 1)) i = rankL (l.take k) i + (if (x : Int) < i then 1 else 0) := by
      rw [htk, rankL, List.filter_append, List.length_append, rankL]
      by_cases hx : (x : Int) < i <;> simp [hx]
    have hle : rankL (l.take k) i ≤ k := by
      have := List.length_filter_le (fun (x : Nat) => decide ((x : Int) < i)) (l.take k)
      rw [rankL]
      simp at this ⊢
      omega
    generalize hB1 : rankL (l.take (k + 1)) i = B1 at hsn
    generalize rankL (l.take k) i = B at e5 hsn hle
    by_cases hx : (x : Int) < i
    · have hw2 : IntKind.i64.wrap ((B : Int) + 1) = (B1 : Int) := by rw [w64 (by omega)]; simp [hx] at hsn; omega
      simp [e0, e1, e5, e6, hkl, hklI, hra, hix, g1, g2, hx, hw, hw2, hB1, eds]
    · have hw2 : B = B1 := by simp [hx] at hsn; omega
      simp [e0, e1, e5, e6, hkl, hklI, hra, hix, g1, g2, hx, hw, hw2, hB1, eds]
  · rintro ⟨env, H2, ds⟩ ⟨e0, e1, e5, e6, eds, hH⟩
    simp only at e0 e1 e5 e6 eds hH
    rw [List.take_length] at e5
    simp [e0, e5, e6, eds, hH]
  · simp [rankL]
/-- ref.Has -/
theorem rhas_run {wr : Bool} {sv : Value} {l : List Nat} {O : Option Nat} (h : Row 3 wr H sv (icells l) O) (hl : l.length < 1000000) {i : Int} : CallR cx 30 #[sv, i64 i] H (fun v H' => v = .bool (l.any (fun (x : Nat) => decide ((x : Int) = i))) ∧ H' = H) := by
  obtain ⟨ra, rfl, _⟩ := h.isSlice
  simp only [List.length_map] at h ⊢
  refine wk30 (by simp) ?_
  simp [c30]
  refine aw_loop_to l.length (fun k s => s.env 0 = .slice ra l.length l.length ∧ s.env 1 = i64 i ∧ s.env 5 = i64 (k : Nat) ∧ s.ds = [] ∧ s.H = H ∧ ∀ m (hm : m < l.length), m < k → ¬ ((l[m] : Nat) : Int) = i) ?_ ?_ ?_
  · rintro k ⟨env, H2, ds⟩ hkl ⟨e0, e1, e5, eds, hH, hno⟩
    simp only at e0 e1 e5 eds hH
    subst hH
    have hw := w64 (n := (k : Int) + 1) (by omega)
    have hklI : (k : Int) < l.length := by omega
    obtain ⟨la, oa, ca, hra, g1, g2, _⟩ := h.cell (ic_cell hkl)
    have hix := ix34 la oa l.length l.length .i64 (k : Int) (by omega) hklI
    rw [Int.toNat_natCast] at hix
    by_cases hx : ((l[k] : Nat) : Int) = i
    · have hany : l.any (fun (x : Nat) => decide ((x : Int) = i)) = true := List.any_eq_true.2 ⟨l[k], List.getElem_mem hkl, by simp [hx]⟩
      simp [e0, e1, e5, hkl, hklI, hra, hix, g1, g2, hx, hany, eds]
    · simp [e0, e1, e5, hkl, hklI, hra, hix, g1, g2, hx, hw, eds]
      intro m hm hmk
      by_cases e : m = k
      · subst e; exact hx
      · exact hno m hm (by omega)
  · rintro ⟨env, H2, ds⟩ ⟨e0, e1, e5, eds, hH, hno⟩
    simp only at e0 e1 e5 eds hH
    have hany : l.any (fun (x : Nat) => decide ((x : Int) = i)) = false := by
      rw [List.any_eq_false]
      intro x hx
      obtain ⟨m, hm, rfl⟩ := List.getElem_of_mem hx
      simpa using hno m hm hm
    simp [e0, e5, eds, hH]
    simpa using hany
  · simp
end Go.Proofs.YtdmidlgnfepfjaaDoor.C

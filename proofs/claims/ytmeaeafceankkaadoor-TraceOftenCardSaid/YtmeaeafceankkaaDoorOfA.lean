/- The unlike keys of a trace, and how often each is there. Own text of this session. -/
import Derived.Test.YtmeaeafceankkaaDoorMkD
import Derived.Test.YtmeaeafceankkaaDoorA23
set_option linter.unusedVariables false
set_option linter.unusedSimpArgs false
set_option maxRecDepth 4000
set_option maxHeartbeats 8000000
namespace Go.Proofs.YtmeaeafceankkaaDoor.C
open Go Go.RowKit Go.Proofs.YtmeaeafceankkaaDoorA Go.Proofs.YtmeaeafceankkaaDoor.Plain
variable {H : AH}
/-- each key once -/
def unl (xs : List Nat) : List Nat := xs.foldl (fun o x => if x ∈ o then o else o ++ [x]) []
theorem unl_snoc (xs : List Nat) (x : Nat) : unl (xs ++ [x]) = if x ∈ unl xs then unl xs else unl xs ++ [x] := by
  unfold unl
  rw [List.foldl_append]
  rfl
theorem unl_mem : ∀ (n : Nat) (xs : List Nat), xs.length = n → ∀ y, y ∈ unl xs ↔ y ∈ xs
  | 0, xs, h, y => by
    have : xs = [] := List.length_eq_zero_iff.1 h
    subst this
    simp [unl]
  | n + 1, xs, h, y => by
    obtain ⟨zs, x, rfl⟩ : ∃ zs x, xs = zs ++ [x] := by
      refine ⟨xs.dropLast, xs.getLast (by intro e; rw [e] at h; cases h), (List.dropLast_concat_getLast _).symm⟩
    have ih := unl_mem n zs (by simpa using h)
    rw [unl_snoc]
    by_cases hx : x ∈ unl zs
    · rw [if_pos hx, ih]
      have := (ih x).1 hx
      simp
      rintro rfl
      exact this
    · rw [if_neg hx]
      simp [ih]
theorem mem_unl (xs : List Nat) (y : Nat) : y ∈ unl xs ↔ y ∈ xs := unl_mem _ xs rfl y
theorem unl_le : ∀ (n : Nat) (xs : List Nat), xs.length = n → (unl xs).length ≤ xs.length
  | 0, xs, h => by
    have : xs = [] := List.length_eq_zero_iff.1 h
    subst this
    simp [unl]
  | n + 1, xs, h => by
    obtain ⟨zs, x, rfl⟩ : ∃ zs x, xs = zs ++ [x] := by
      refine ⟨xs.dropLast, xs.getLast (by intro e; rw [e] at h; cases h), (List.dropLast_concat_getLast _).symm⟩
    have ih := unl_le n zs (by simpa using h)
    rw [unl_snoc]
    split <;> simp <;> omega
theorem unl_take (xs : List Nat) {k : Nat} (hk : k < xs.length) : unl (xs.take (k + 1)) = if xs[k] ∈ xs.take k then unl (xs.take k) else unl (xs.take k) ++ [xs[k]] := by
  rw [List.take_add_one, List.getElem?_eq_getElem hk]
  show unl (xs.take k ++ [xs[k]]) = _
  rw [unl_snoc]
  simp only [mem_unl]
/-- ref Has -/
theorem has_run {w : Bool} {sv : Value} {xs : List Nat} {O : Option Nat} {y : Nat} (h : Row 39 w H sv (gcells xs) O) (hl : xs.length ≤ 1000000) : CallR cx 32 #[sv, u64 (y : Int)] H (fun v H' => v = .bool (decide (y ∈ xs)) ∧ H' = H) := by
  have hs := h.isSlice
  obtain ⟨rx, rfl, _⟩ := hs
  simp only [List.length_map] at h ⊢
  refine wk32 (by simp) ?_
  simp [c32]
  refine aw_loop_to xs.length (fun k t => t.env 0 = .slice rx xs.length xs.length ∧ t.env 1 = u64 (y : Int) ∧ t.env 5 = i64 (k : Nat) ∧ t.ds = [] ∧ t.H = H ∧ y ∉ xs.take k) ?_ ?_ ?_
  · rintro k ⟨env, H1, ds⟩ hk ⟨e0, e1, e5, eds, hH, hno⟩
    simp only at e0 e1 e5 eds hH
    subst hH
    have hkI : (k : Int) < xs.length := by omega
    have hw : IntKind.i64.wrap ((k : Int) + 1) = ((k + 1 : Nat) : Int) := by rw [w64 (by omega)]; push_cast; rfl
    obtain ⟨la, oa, ca, hra, g1, g2, _⟩ := h.cell (i := k) (x := u64 (xs[k] : Nat)) (by simp [hk])
    have hixa := ix22 la oa xs.length xs.length .i64 (k : Int) (by omega) hkI
    rw [Int.toNat_natCast] at hixa
    have hmem : xs[k] ∈ xs := List.getElem_mem hk
    have htk : xs.take (k + 1) = xs.take k ++ [xs[k]] := by rw [List.take_add_one, List.getElem?_eq_getElem hk]; rfl
    generalize xs[k] = x at g2 hmem htk
    by_cases hx : x = y
    · subst hx
      simp [e0, e1, e5, hk, hra, hixa, g1, g2, hmem, eds]
    · have hxI : ¬ ((x : Int) = y) := by omega
      simp [e0, e1, e5, hk, hra, hixa, g1, g2, hx, hxI, hw, eds]
      rw [htk]
      simp
      exact ⟨hno, fun e => hx e.symm⟩
  · rintro ⟨env, H1, ds⟩ ⟨e0, e1, e5, eds, hH, hno⟩
    simp only at e0 e1 e5 eds hH
    subst hH
    rw [List.take_length] at hno
    simp [e0, e5, hno, eds]
  · simp
/-- ref.Unlike -/
theorem runlike_run {w : Bool} {sv : Value} {xs : List Nat} {O : Option Nat} (h : Row 39 w H sv (gcells xs) O) (hl : xs.length ≤ 50000) : CallR cx 13 #[sv] H (fun v H' => Fresh H H' ∧ ∃ O', Row 39 true H' v (gcells (unl xs)) O' ∧ ∀ x, O' = some x → H.next ≤ x) := by
  have hs := h.isSlice
  obtain ⟨rx, rfl, _⟩ := hs
  simp only [List.length_map] at h ⊢
  refine wk13 (by simp) ?_
  unfold c13
  refine aw_cut (fun t => t.env 0 = .slice rx xs.length xs.length ∧ t.ds = [] ∧ t.H = H) (by simp) ?_
  rintro ⟨env, H1, ds⟩ ⟨e0, eds, hH⟩
  simp only at e0 eds hH
  subst hH
  refine aw_cut (fun t => t.env 0 = .slice rx xs.length xs.length ∧ t.env 3 = .slice none 0 0 ∧ t.ds = [] ∧ t.H = H1) (by simp [e0, eds]) ?_
  clear e0 eds
  rintro ⟨env, H2, ds⟩ ⟨e0, e3, eds, hH⟩
  simp only at e0 e3 eds hH
  subst hH
  refine aw_cut (fun t => t.ds = [] ∧ Fresh H2 t.H ∧ AppG H2.next (unl xs) t.H (t.env 3)) ?_ ?_
  · simp
    refine aw_loop_to xs.length (fun k t => t.env 0 = .slice rx xs.length xs.length ∧ t.env 4 = i64 (k : Nat) ∧ t.ds = [] ∧ Fresh H2 t.H ∧ AppG H2.next (unl (xs.take k)) t.H (t.env 3)) ?_ ?_ ?_
    · clear e0 e3 eds
      rintro k ⟨env, H3, ds⟩ hk ⟨e0, e4, eds, f3, ap⟩
      simp only at e0 e4 eds f3 ap
      generalize e3 : env 3 = v3 at ap
      have hkI : (k : Int) < xs.length := by omega
      have hw : IntKind.i64.wrap ((k : Int) + 1) = ((k + 1 : Nat) : Int) := by rw [w64 (by omega)]; push_cast; rfl
      obtain ⟨la, oa, ca, hra, g1, g2, _⟩ := (h.keep f3 (fun _ _ => id)).cell (i := k) (x := u64 (xs[k] : Nat)) (by simp [hk])
      have hixa := ix22 la oa xs.length xs.length .i64 (k : Int) (by omega) hkI
      rw [Int.toNat_natCast] at hixa
      have hut := unl_take xs hk
      have hul := unl_le _ (xs.take k) rfl
      have hmu := mem_unl (xs.take k) xs[k]
      simp only [List.length_take] at hul
      generalize xs[k] = x at g2 hut hmu
      obtain ⟨O3, hrow3, hO3⟩ := id ap
      have hrs := hrow3.isSlice
      obtain ⟨r3, rfl, _⟩ := hrs
      simp [e0, e3, e4, hk, hkI, hra, hixa, g1, g2]
      simp only [List.length_map] at hrow3 ap e3 ⊢
      refine callV_R cb32 (has_run hrow3 (by omega)) ?_
      rintro _ H4 ⟨rfl, hH⟩
      subst hH
      by_cases hm : x ∈ xs.take k
      · rw [if_pos hm] at hut
        have hmm := hmu.2 hm
        simp [e0, e3, e4, hmm, hw, eds, f3]
        rw [hut]
        exact ap
      · rw [if_neg hm] at hut
        have hmm : ¬ x ∈ unl (xs.take k) := fun h => hm (hmu.1 h)
        obtain ⟨v5, H5, hap5, ap5, hle5, hkp5⟩ := appG ap f3.1 (by omega) x
        rw [← hut] at ap5
        simp [e0, e3, e4, hmm, hra, hixa, g1, g2, hap5, hw, eds]
        exact ⟨⟨Nat.le_trans f3.1 hle5, fun z hz _ => by rw [hkp5 z hz, f3.get hz]⟩, ap5⟩
    · clear e0 e3 eds
      rintro ⟨env, H3, ds⟩ ⟨e0, e4, eds, f3, ap⟩
      simp only at e0 e4 eds f3 ap
      rw [List.take_length] at ap
      simp [e0, e4, eds, f3]
      exact ap
    · simp [e0, e3, eds, Fresh.refl]
      exact appG_nil _ _
  clear e0 e3 eds
  rintro ⟨env, H4, ds⟩ ⟨eds, f4, O4, hrow, hO⟩
  simp only at eds f4 hrow
  simp [eds, f4]
  exact ⟨O4, hrow, hO⟩
/-- ref.Often -/
theorem roften_run {w : Bool} {sv : Value} {xs : List Nat} {O : Option Nat} {y : Nat} (h : Row 39 w H sv (gcells xs) O) (hl : xs.length ≤ 1000000) : CallR cx 16 #[sv, u64 (y : Int)] H (fun v H' => v = i64 ((xs.count y : Nat) : Int) ∧ H' = H) := by
  have hs := h.isSlice
  obtain ⟨rx, rfl, _⟩ := hs
  simp only [List.length_map] at h ⊢
  refine wk16 (by simp) ?_
  simp [c16]
  refine aw_loop_to xs.length (fun k t => t.env 0 = .slice rx xs.length xs.length ∧ t.env 1 = u64 (y : Int) ∧ t.env 5 = i64 (((xs.take k).count y : Nat) : Int) ∧ t.env 6 = i64 (k : Nat) ∧ t.ds = [] ∧ t.H = H) ?_ ?_ ?_
  · rintro k ⟨env, H1, ds⟩ hk ⟨e0, e1, e5, e6, eds, hH⟩
    simp only at e0 e1 e5 e6 eds hH
    subst hH
    have hkI : (k : Int) < xs.length := by omega
    have hw : IntKind.i64.wrap ((k : Int) + 1) = ((k + 1 : Nat) : Int) := by rw [w64 (by omega)]; push_cast; rfl
    obtain ⟨la, oa, ca, hra, g1, g2, _⟩ := h.cell (i := k) (x := u64 (xs[k] : Nat)) (by simp [hk])
    have hixa := ix22 la oa xs.length xs.length .i64 (k : Int) (by omega) hkI
    rw [Int.toNat_natCast] at hixa
    have htk : xs.take (k + 1) = xs.take k ++ [xs[k]] := by rw [List.take_add_one, List.getElem?_eq_getElem hk]; rfl
    have hct : (xs.take (k + 1)).count y = (xs.take k).count y + (if xs[k] = y then 1 else 0) := by
      rw [htk, List.count_append]
      simp [List.count_cons]
    have hcl : (xs.take k).count y ≤ k := Nat.le_trans List.count_le_length (by simp; omega)
    generalize (xs.take k).count y = c at e5 hct hcl
    generalize (xs.take (k + 1)).count y = c1 at hct ⊢
    generalize xs[k] = x at g2 hct
    have hw2 : IntKind.i64.wrap ((c : Int) + 1) = (c : Int) + 1 := w64 (by omega)
    by_cases hx : x = y
    · subst hx
      rw [if_pos rfl] at hct
      subst hct
      simp [e0, e1, e5, e6, hk, hra, hixa, g1, g2, hw, hw2, eds]
    · have hxI : ¬ ((x : Int) = y) := by omega
      rw [if_neg hx] at hct
      subst hct
      simp [e0, e1, e5, e6, hk, hra, hixa, g1, g2, hx, hxI, hw, eds]
  · rintro ⟨env, H1, ds⟩ ⟨e0, e1, e5, e6, eds, hH⟩
    simp only at e0 e1 e5 e6 eds hH
    subst hH
    rw [List.take_length] at e5
    simp [e0, e5, e6, eds]
  · simp
end Go.Proofs.YtmeaeafceankkaaDoor.C

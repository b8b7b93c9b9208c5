/- Counts, their fields and names, over the small heap. Own text of this session. -/
import Derived.Test.YtnnjfbnaojdloaaDoorNum2
import Derived.Test.YtnnjfbnaojdloaaDoorWords
set_option linter.unusedVariables false
set_option linter.unusedSimpArgs false
set_option maxRecDepth 4000
set_option maxHeartbeats 4000000
namespace Go.Proofs.YtnnjfbnaojdloaaDoor.C
open Go Go.RowKit Go.Proofs.YtnnjfbnaojdloaaDoorA Go.Proofs.YtnnjfbnaojdloaaDoor.Plain
variable {H : AH}
/-- the names -/
def nm : List (List UInt8) := [[104, 105, 116, 115], [109, 105, 115, 115, 101, 115], [114, 97, 105, 115, 101, 100], [108, 111, 119, 101, 114, 101, 100], [112, 114, 117, 110, 101, 100], [101, 118, 105, 99, 116, 101, 100], [102, 111, 114, 103, 111, 116, 116, 101, 110], [99, 108, 101, 97, 114, 101, 100], [101, 110, 100, 101, 100], [115, 116, 101, 112, 115]]
theorem nm_len : nm.length = 10 := rfl
theorem names_glob (hg : HasG gs H) : H.get 0 = some (.cells (strs nm) 0 false 1) := by
  have hm : ∃ x ∈ gs, x = (0, strs nm) := ⟨_, List.mem_cons_self, by kernel_rfl⟩
  obtain ⟨x, hx, rfl⟩ := hm
  exact hg _ hx
theorem nm_idx : ∀ k : Fin 10, nm.idxOf (nm[k.val]'(by have := k.isLt; simp [nm_len])) = k.val := by decide
/-- a name's place -/
def placeOf (s : List UInt8) : Int := if s ∈ nm then (nm.idxOf s : Nat) else -1
theorem place_at {s : List UInt8} {k : Nat} (hk : k < 10) (h : nm[k]'(by simp [nm_len, hk]) = s) : placeOf s = k := by
  have h1 := nm_idx ⟨k, hk⟩
  simp only at h1
  rw [h] at h1
  unfold placeOf
  rw [if_pos (by rw [← h]; exact List.getElem_mem _), h1]
theorem place_none {s : List UInt8} (h : ∀ j (hj : j < 10), nm[j]'(by simp [nm_len, hj]) ≠ s) : placeOf s = -1 := by
  unfold placeOf
  rw [if_neg]
  intro hm
  obtain ⟨j, hj, e⟩ := List.getElem_of_mem hm
  exact h j (by simpa [nm_len] using hj) e
theorem ix49 (l o : Nat) (j : Nat) (h : j < 10) : aIndexAddr Tryd.prog 49 (.pointer (some ⟨l, o, none⟩)) (.int .i64 (j : Int)) = some (.pointer (some ⟨l, o + j, none⟩)) := by
  rw [aIndexAddr_array (P := Tryd.prog) un49 sz9 l o .i64 (j : Int) (by omega) (by omega)]
  simp
theorem eqW (a b : List UInt8) (ox oy : Operand) : aBin Tryd.prog .eql 9 ox oy (.string (str a)) (.string (str b)) = some (.bool (decide (a = b))) := aBin_streqL ox oy un9 a b
theorem nm_cell (k : Nat) (hk : k < 10) : (strs nm)[k]? = some (.string (str (nm[k]'(by simp [nm_len, hk])))) := by
  simp [strs, nm_len, hk]
  rfl
/-- tally.place -/
theorem place_run {s : List UInt8} (hg : HasG gs H) : CallR cx 23 #[.string (str s)] H (fun v H' => v = i64 (placeOf s) ∧ H' = H) := by
  refine wk23 (by simp) ?_
  have hgl := names_glob hg
  simp [c23]
  refine aw_loop_to 10 (fun k t => t.env 0 = .string (str s) ∧ t.env 4 = i64 (k : Nat) ∧ t.ds = [] ∧ t.H = H ∧ ∀ j (hj : j < 10), j < k → nm[j]'(by simp [nm_len, hj]) ≠ s) ?_ ?_ ?_
  · rintro k ⟨env, H1, ds⟩ hk ⟨e0, e4, eds, hH, hno⟩
    simp only at e0 e4 eds hH
    subst hH
    have hk10 : (k : Int) < 10 := by omega
    have hw : IntKind.i64.wrap ((k : Int) + 1) = ((k + 1 : Nat) : Int) := by rw [w64 (by omega)]; push_cast; rfl
    have hix := ix49 0 0 k hk
    have hc := nm_cell k hk
    by_cases he : nm[k]'(by simp [nm_len, hk]) = s
    · have hp := place_at hk he
      simp [e0, e4, hk10, hix, hgl, hc, eqW, he, eds, hp]
    · simp [e0, e4, hk10, hix, hgl, hc, eqW, he, eds, hw]
      intro j hj hjk
      by_cases e : j = k
      · subst e; exact he
      · exact hno j hj (by omega)
  · rintro ⟨env, H1, ds⟩ ⟨e0, e4, eds, hH, hno⟩
    simp only at e0 e4 eds hH
    subst hH
    have hp := place_none (s := s) (fun j hj => hno j hj hj)
    simp [e0, e4, eds, hp]
  · simp
theorem el37 : El Tryd.prog 37 22 := ⟨un37, by kernel_rfl, (Tryd.prog.info? 22).getD default, by kernel_rfl, by kernel_rfl, of_decide_eq_true (by kernel_rfl), by kernel_rfl⟩
theorem mk35 (H : AH) : aMakeSlice Tryd.prog 35 (.int .i64 0) (.int .i64 10) H = some (.slice (some ⟨H.next, 0, none⟩) 0 0, ⟨H.next + 1, upd H.get H.next (.cells [] 9 true 1)⟩) := by kernel_rfl
theorem nm_take (k : Nat) (hk : k < 10) : nm.take (k + 1) = nm.take k ++ [nm[k]'(by simp [nm_len, hk])] := by
  rw [List.take_add_one, List.getElem?_eq_getElem (by simp [nm_len, hk])]
  rfl
/-- tally.Names -/
theorem names_run (hg : HasG gs H) (hn : nG ≤ H.next) : CallR cx 14 #[] H (fun v H' => Fresh H H' ∧ ∃ O, Row 9 true H' v (strs nm) O ∧ ∀ x, O = some x → H.next ≤ x) := by
  refine wk14 (by simp) ?_
  have hgl := names_glob hg
  have h0 : 0 < H.next := Nat.lt_of_lt_of_le (by decide) hn
  simp [c14, mk35]
  refine aw_loop_to 10 (fun k t => t.env 4 = i64 (k : Nat) ∧ t.ds = [] ∧ Fresh H t.H ∧ ∃ O, Row 9 true t.H (t.env 1) (strs (nm.take k)) O ∧ ∀ x, O = some x → H.next ≤ x) ?_ ?_ ?_
  · rintro k ⟨env, H1, ds⟩ hk ⟨e4, eds, hf, O, hrow, hO⟩
    simp only at e4 eds hf hrow
    generalize e1 : env 1 = ov at hrow
    have hk10 : (k : Int) < 10 := by omega
    have hw : IntKind.i64.wrap ((k : Int) + 1) = ((k + 1 : Nat) : Int) := by rw [w64 (by omega)]; push_cast; rfl
    have hix := ix49 0 0 k hk
    have hc := nm_cell k hk
    have hg1 : H1.get 0 = some (.cells (strs nm) 0 false 1) := by rw [hf.get h0, hgl]
    have hl : (strs (nm.take k)).length = k := by simp [nm_len]; omega
    obtain ⟨H2, hap, hnx, hget, hrow2, hkp⟩ := row_append el35 hrow (by rw [hl]; omega) (v := .string (str (nm[k]'(by simp [nm_len, hk])))) rfl
    have hOlow : ∀ z, O = some z → z < H1.next := fun z e => by subst e; exact hrow.low
    rw [hl] at hap
    simp [e1, e4, hk10, hix, hg1, hc, hap, hw, eds]
    refine ⟨⟨by have := hf.1; omega, fun z hz _ => by rw [hkp z (by have := hf.1; omega) (fun e => by have := hO z e; omega), hf.get hz]⟩, some (H1.next + 1), ?_, ?_⟩
    · rw [nm_take k hk]
      rw [hl] at hrow2
      simpa [strs] using hrow2
    · intro z e; cases e; have := hf.1; omega
  · rintro ⟨env, H1, ds⟩ ⟨e4, eds, hf, O, hrow, hO⟩
    simp only at e4 eds hf hrow
    simp [e4, eds, hf]
    exact ⟨O, hrow, hO⟩
  · simp
    exact ⟨Fresh.ofNew, some H.next, ⟨0, [], rfl, by simp, rfl, by simp, by simp⟩, by simp⟩
theorem isCell_strs {l : List (List UInt8)} : ∀ v ∈ strs l, isCell v = true := by
  intro v hv
  obtain ⟨x, _, rfl⟩ := List.mem_map.1 hv
  rfl
/-- ref.Names -/
theorem rnames_run : CallR cx 15 #[] H (fun v H' => Fresh H H' ∧ Row 9 true H' v (strs nm) (some H.next)) := by
  refine wk15 (by simp) ?_
  have hb := aBuildSliceN (P := Tryd.prog) un35 sz9 (z := .string ⟨#[]⟩) (by kernel_rfl) (strs nm) isCell_strs (by simp [nm_len]) H
  have e1 : (strs nm).length = 10 := rfl
  have e2 : ((strs nm).zipIdx.map fun x => (x.2, x.1)) = [(0, .string ⟨#[104, 105, 116, 115]⟩), (1, .string ⟨#[109, 105, 115, 115, 101, 115]⟩), (2, .string ⟨#[114, 97, 105, 115, 101, 100]⟩), (3, .string ⟨#[108, 111, 119, 101, 114, 101, 100]⟩), (4, .string ⟨#[112, 114, 117, 110, 101, 100]⟩), (5, .string ⟨#[101, 118, 105, 99, 116, 101, 100]⟩), (6, .string ⟨#[102, 111, 114, 103, 111, 116, 116, 101, 110]⟩), (7, .string ⟨#[99, 108, 101, 97, 114, 101, 100]⟩), (8, .string ⟨#[101, 110, 100, 101, 100]⟩), (9, .string ⟨#[115, 116, 101, 112, 115]⟩)] := rfl
  rw [e1, e2] at hb
  simp [c15, hb]
  exact ⟨Fresh.ofNew, 0, strs nm, rfl, by simp, rfl, by simp [nm_len], by simp⟩
/-- ref.Place -/
theorem rplace_run {s : List UInt8} : CallR cx 10 #[.string (str s)] H (fun v H' => v = i64 (placeOf s) ∧ Fresh H H') := by
  refine wk10 (by simp) ?_
  simp [c10]
  refine callV_R cb15 rnames_run ?_
  rintro v H1 ⟨hf, hrow⟩
  obtain ⟨ra, rfl, _⟩ := hrow.isSlice
  have hl : (strs nm).length = 10 := rfl
  rw [hl] at hrow ⊢
  simp
  refine aw_loop_to 10 (fun k t => t.env 0 = .string (str s) ∧ t.env 3 = .slice ra 10 10 ∧ t.env 4 = i64 (k : Nat) ∧ t.ds = [] ∧ t.H = H1 ∧ ∀ j (hj : j < 10), j < k → nm[j]'(by simp [nm_len, hj]) ≠ s) ?_ ?_ ?_
  · rintro k ⟨env, H2, ds⟩ hk ⟨e0, e3, e4, eds, hH, hno⟩
    simp only at e0 e3 e4 eds hH
    subst hH
    have hk10 : (k : Int) < 10 := by omega
    have h0k : (0 : Int) ≤ k := by omega
    have hw : IntKind.i64.wrap ((k : Int) + 1) = ((k + 1 : Nat) : Int) := by rw [w64 (by omega)]; push_cast; rfl
    obtain ⟨l, o, cs, rfl, g1, g2, _⟩ := hrow.cell (nm_cell k hk)
    have hix := ix35 l o 10 10 .i64 (k : Int) h0k (by omega)
    by_cases he : nm[k]'(by simp [nm_len, hk]) = s
    · have hp := place_at hk he
      simp [e0, e3, e4, hk10, hix, g1, g2, eqW, he, eds, hp, hf]
    · simp [e0, e3, e4, hk10, hix, g1, g2, eqW, he, eds, hw]
      intro j hj hjk
      by_cases e : j = k
      · subst e; exact he
      · exact hno j hj (by omega)
  · rintro ⟨env, H2, ds⟩ ⟨e0, e3, e4, eds, hH, hno⟩
    simp only at e0 e3 e4 eds hH
    subst hH
    have hp := place_none (s := s) (fun j hj => hno j hj hj)
    simp [e0, e3, e4, eds, hp, hf]
  · simp
end Go.Proofs.YtnnjfbnaojdloaaDoor.C

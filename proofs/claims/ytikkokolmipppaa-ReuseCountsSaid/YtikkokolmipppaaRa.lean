/- The document's Unlike, Last, Next, Distance, Recency; small things. Own text of this session. -/
import Derived.Test.YtikkokolmipppaaP
import Derived.Test.YtikkokolmipppaaCnt
import Derived.Test.YtikkokolmipppaaA23
set_option linter.unusedVariables false
set_option linter.unusedSimpArgs false
set_option maxRecDepth 4000
set_option maxHeartbeats 8000000
namespace Go.Proofs.Ytikkokolmipppaa.C
open Go Go.RowKit Go.Proofs.YtikkokolmipppaaA Go.Proofs.Ytikkokolmipppaa.Plain
variable {H : AH}
theorem el22 : El Try.prog 22 28 := ⟨un22, by kernel_rfl, (Try.prog.info? 28).getD default, by kernel_rfl, by kernel_rfl, of_decide_eq_true (by kernel_rfl), by kernel_rfl⟩
theorem el24 : El Try.prog 24 3 := ⟨un24, by kernel_rfl, (Try.prog.info? 3).getD default, by kernel_rfl, by kernel_rfl, of_decide_eq_true (by kernel_rfl), by kernel_rfl⟩
abbrev gcells (ws : List Nat) : List Value := wcells ws
def icells (ws : List Int) : List Value := ws.map (Value.int .i64)
@[simp] theorem icells_length (ws : List Int) : (icells ws).length = ws.length := by simp [icells]
theorem icells_get {ws : List Int} {i : Nat} (h : i < ws.length) : (icells ws)[i]? = some (i64 (ws.getD i 0)) := by
  rw [List.getD_eq_getElem?_getD, List.getElem?_eq_getElem h]
  simp [icells, h]
theorem icells_set (ws : List Int) (i : Nat) (v : Int) : (icells ws).set i (i64 v) = icells (ws.set i v) := by simp [icells, List.map_set]
def AppG (B : Nat) (g : List Nat) (H : AH) (v : Value) : Prop := ∃ O, Row 28 true H v (gcells g) O ∧ ∀ x, O = some x → B ≤ x
theorem appG {B : Nat} {g : List Nat} {v : Value} (h : AppG B g H v) (hB : B ≤ H.next) (hl : g.length < 100000) (x : Nat) :
    ∃ v' H2, aAppend Try.prog 22 22 v (.slice (some ⟨H.next, 0, none⟩) 1 1) ⟨H.next + 1, upd H.get H.next (.cells [u64 (x : Int)] 28 true 1)⟩ = some (v', H2) ∧ AppG B (g ++ [x]) H2 v' ∧ H.next ≤ H2.next ∧ ∀ l, l < B → H2.get l = H.get l := by
  obtain ⟨O, hrow, hO⟩ := h
  obtain ⟨H3, hap, hnx, hget, hrow3, hkp⟩ := row_append el22 hrow (by simp; omega) (v := u64 (x : Int)) rfl
  refine ⟨_, H3, hap, ⟨some (H.next + 1), ?_, fun y hy => by cases hy; omega⟩, by omega, fun l hl => hkp l (by omega) (fun e => by have := hO l e; omega)⟩
  have : gcells (g ++ [x]) = gcells g ++ [u64 (x : Int)] := by simp [gcells, wcells]
  rw [this]
  exact hrow3
theorem appG_nil (B : Nat) (H : AH) : AppG B [] H (.slice none 0 0) := ⟨none, Row.nil, by simp⟩
theorem gcell {xs : List Nat} {k : Nat} (hk : k < xs.length) : (gcells xs)[k]? = some (u64 (xs.getD k 0 : Nat)) := wcell hk
/-- ref Has -/
theorem rhas_run {w : Bool} {sv : Value} {xs : List Nat} {O : Option Nat} {y : Nat} (h : Row 28 w H sv (gcells xs) O) (hl : xs.length ≤ 1000000) : CallR cx 27 #[sv, u64 (y : Int)] H (fun v H' => v = .bool (decide (y ∈ xs)) ∧ H' = H) := by
  have hs := h.isSlice
  obtain ⟨rx, rfl, _⟩ := hs
  simp only [List.length_map] at h ⊢
  refine wk27 (by simp) ?_
  simp [c27]
  refine aw_loop_to xs.length (fun k t => t.env 0 = .slice rx xs.length xs.length ∧ t.env 1 = u64 (y : Int) ∧ t.env 5 = i64 (k : Nat) ∧ t.ds = [] ∧ t.H = H ∧ y ∉ xs.take k) ?_ ?_ ?_
  · rintro k ⟨env, H1, ds⟩ hk ⟨e0, e1, e5, eds, hH, hno⟩
    simp only at e0 e1 e5 eds hH
    subst hH
    have hkI : (k : Int) < xs.length := by omega
    have hw : IntKind.i64.wrap ((k : Int) + 1) = ((k + 1 : Nat) : Int) := by rw [w64 (by omega)]; push_cast; rfl
    obtain ⟨la, oa, ca, hra, g1, g2, _⟩ := h.cell (i := k) (x := u64 (xs[k] : Nat)) (by simp [hk])
    have hixa := ix22 la oa xs.length xs.length .i64 (k : Int) (by omega) hkI
    rw [Int.toNat_natCast] at hixa
    have hmem : xs[k] ∈ xs := List.getElem_mem hk
    have htk : xs.take (k + 1) = xs.take k ++ [xs[k]] := by rw [List.take_add_one, List.getElem?_eq_getElem hk]; rfl
    generalize xs[k] = x at g2 hmem htk
    by_cases hx : x = y
    · subst hx
      simp [e0, e1, e5, hk, hra, hixa, g1, g2, hmem, eds]
    · have hxI : ¬ ((x : Int) = y) := by omega
      simp [e0, e1, e5, hk, hra, hixa, g1, g2, hx, hxI, hw, eds]
      rw [htk]
      simp
      exact ⟨hno, fun e => hx e.symm⟩
  · rintro ⟨env, H1, ds⟩ ⟨e0, e1, e5, eds, hH, hno⟩
    simp only at e0 e1 e5 eds hH
    subst hH
    rw [List.take_length] at hno
    simp [e0, e5, hno, eds]
  · simp
theorem unl_le (xs : List Nat) : (unl xs).length ≤ xs.length := by rw [unl_length]; exact nd_le xs
/-- ref.Unlike -/
theorem runlike_run {w : Bool} {sv : Value} {xs : List Nat} {O : Option Nat} (h : Row 28 w H sv (gcells xs) O) (hl : xs.length ≤ 50000) : CallR cx 22 #[sv] H (fun v H' => Fresh H H' ∧ ∃ r, v = .slice r (nd xs) (nd xs)) := by
  have hs := h.isSlice
  obtain ⟨rx, rfl, _⟩ := hs
  simp only [List.length_map] at h ⊢
  refine wk22 (by simp) ?_
  unfold c22
  refine aw_cut (fun t => t.env 0 = .slice rx xs.length xs.length ∧ t.ds = [] ∧ t.H = H) (by simp) ?_
  rintro ⟨env, H1, ds⟩ ⟨e0, eds, hH⟩
  simp only at e0 eds hH
  subst hH
  refine aw_cut (fun t => t.env 0 = .slice rx xs.length xs.length ∧ t.env 3 = .slice none 0 0 ∧ t.ds = [] ∧ t.H = H1) (by simp [e0, eds]) ?_
  clear e0 eds
  rintro ⟨env, H2, ds⟩ ⟨e0, e3, eds, hH⟩
  simp only at e0 e3 eds hH
  subst hH
  refine aw_cut (fun t => t.ds = [] ∧ Fresh H2 t.H ∧ AppG H2.next (unl xs) t.H (t.env 3)) ?_ ?_
  · simp
    refine aw_loop_to xs.length (fun k t => t.env 0 = .slice rx xs.length xs.length ∧ t.env 4 = i64 (k : Nat) ∧ t.ds = [] ∧ Fresh H2 t.H ∧ AppG H2.next (unl (xs.take k)) t.H (t.env 3)) ?_ ?_ ?_
    · clear e0 e3 eds
      rintro k ⟨env, H3, ds⟩ hk ⟨e0, e4, eds, f3, ap⟩
      simp only at e0 e4 eds f3 ap
      generalize e3 : env 3 = v3 at ap
      have hkI : (k : Int) < xs.length := by omega
      have hw : IntKind.i64.wrap ((k : Int) + 1) = ((k + 1 : Nat) : Int) := by rw [w64 (by omega)]; push_cast; rfl
      obtain ⟨la, oa, ca, hra, g1, g2, _⟩ := (h.keep f3 (fun _ _ => id)).cell (i := k) (x := u64 (xs[k] : Nat)) (by simp [hk])
      have hixa := ix22 la oa xs.length xs.length .i64 (k : Int) (by omega) hkI
      rw [Int.toNat_natCast] at hixa
      have hut := unl_take xs hk
      have hul := unl_le (xs.take k)
      have hmu := mem_unl (xs.take k) xs[k]
      simp only [List.length_take] at hul
      generalize xs[k] = x at g2 hut hmu
      obtain ⟨O3, hrow3, hO3⟩ := id ap
      have hrs := hrow3.isSlice
      obtain ⟨r3, rfl, _⟩ := hrs
      simp [e0, e3, e4, hk, hkI, hra, hixa, g1, g2]
      simp only [List.length_map] at hrow3 ap e3 ⊢
      refine callV_R cb27 (rhas_run hrow3 (by omega)) ?_
      rintro _ H4 ⟨rfl, hH⟩
      subst hH
      by_cases hm : x ∈ xs.take k
      · rw [if_pos hm] at hut
        have hmm := hmu.2 hm
        simp [e0, e3, e4, hmm, hw, eds, f3]
        rw [hut]
        exact ap
      · rw [if_neg hm] at hut
        have hmm : ¬ x ∈ unl (xs.take k) := fun h => hm (hmu.1 h)
        obtain ⟨v5, H5, hap5, ap5, hle5, hkp5⟩ := appG ap f3.1 (by omega) x
        rw [← hut] at ap5
        simp [e0, e3, e4, hmm, hra, hixa, g1, g2, hap5, hw, eds]
        exact ⟨⟨Nat.le_trans f3.1 hle5, fun z hz _ => by rw [hkp5 z hz, f3.get hz]⟩, ap5⟩
    · clear e0 e3 eds
      rintro ⟨env, H3, ds⟩ ⟨e0, e4, eds, f3, ap⟩
      simp only at e0 e4 eds f3 ap
      rw [List.take_length] at ap
      simp [e0, e4, eds, f3]
      exact ap
    · simp [e0, e3, eds, Fresh.refl]
      exact appG_nil _ _
  clear e0 e3 eds
  rintro ⟨env, H4, ds⟩ ⟨eds, f4, O4, hrow, hO⟩
  simp only at eds f4 hrow
  have hs := hrow.isSlice
  obtain ⟨r4, he, _⟩ := hs
  simp only [List.length_map, unl_length] at he
  simp [eds, f4, he]
/-- a part of the trace, the document's Unlike of it -/
theorem part_run {w : Bool} {sv : Value} {xs : List Nat} {O : Option Nat} (h : Row 28 w H sv (gcells xs) O) (hl : xs.length ≤ 50000) {a b : Nat} (hab : a ≤ b) (hb : b ≤ xs.length) :
    ∃ sp, aSlice Try.prog 22 sv (some (i64 (a : Nat))) (some (i64 (b : Nat))) H = some sp ∧ CallR cx 22 #[sp] H (fun v H' => Fresh H H' ∧ ∃ r, v = .slice r (nd ((xs.take b).drop a)) (nd ((xs.take b).drop a))) := by
  obtain ⟨sp, hsp, hrow⟩ := row_part el22 h (lo := some (i64 (a : Nat))) (hi := some (i64 (b : Nat))) (a := a) (b := b) (by simp [bnd]; omega) (by simp [bnd]; omega) hab (by simpa using hb)
  have e : ((gcells xs).take b).drop a = gcells ((xs.take b).drop a) := by simp [gcells, wcells, List.map_take, List.map_drop]
  rw [e] at hrow
  exact ⟨sp, hsp, runlike_run hrow (by simp; omega)⟩
end Go.Proofs.Ytikkokolmipppaa.C

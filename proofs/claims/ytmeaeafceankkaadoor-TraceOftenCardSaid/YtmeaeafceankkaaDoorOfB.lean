/- How often each key is there: counts, Clone, Often. Own text of this session. -/
import Derived.Test.YtmeaeafceankkaaDoorOfA
set_option linter.unusedVariables false
set_option linter.unusedSimpArgs false
set_option maxRecDepth 4000
set_option maxHeartbeats 8000000
namespace Go.Proofs.YtmeaeafceankkaaDoor.C
open Go Go.RowKit Go.Proofs.YtmeaeafceankkaaDoorA Go.Proofs.YtmeaeafceankkaaDoor.Plain
variable {H : AH}
/-- the map has as many of each key -/
def Cnts (es : List (Int × Int)) (xs : List Nat) : Prop := ∀ y : Nat, (mget es (y : Int)).getD 0 = ((xs.count y : Nat) : Int)
theorem cnts_nil : Cnts [] [] := fun y => by simp [mget_nil]
theorem cnts_snoc {es : List (Int × Int)} {xs : List Nat} (h : Cnts es xs) (x : Nat) : Cnts (mset (x : Int) (((xs.count x : Nat) : Int) + 1) es) (xs ++ [x]) := by
  intro y
  rw [mget_mset, List.count_append]
  by_cases e : y = x
  · subst e
    simp
  · have e1 : ¬ ((y : Int) = x) := by omega
    have e2 : ¬ x = y := fun h => e h.symm
    rw [if_neg e1, h y]
    simp [e2]
def CntR (xs : List Nat) (B : Nat) (H : AH) (v : Value) : Prop := ∃ gv O m es, v = .tuple #[gv, .map (some m)] ∧ Row 39 true H gv (gcells (unl xs)) O ∧ (∀ x, O = some x → B ≤ x) ∧ B ≤ m ∧ m < H.next ∧ H.get m = some (.map .u64 .i64 es) ∧ Cnts es xs
theorem counts_run {w : Bool} {sv : Value} {xs : List Nat} {O : Option Nat} (h : Row 39 w H sv (gcells xs) O) (hl : xs.length ≤ 50000) : CallR cx 35 #[sv] H (fun v H' => Fresh H H' ∧ CntR xs H.next H' v) := by
  have hs := h.isSlice
  obtain ⟨rx, rfl, _⟩ := hs
  simp only [List.length_map] at h ⊢
  refine wk35 (by simp) ?_
  unfold c35
  refine aw_cut (fun t => t.env 0 = .slice rx xs.length xs.length ∧ t.ds = [] ∧ t.H = H) (by simp) ?_
  rintro ⟨env, H1, ds⟩ ⟨e0, eds, hH⟩
  simp only at e0 eds hH
  subst hH
  refine aw_cut (fun t => t.env 0 = .slice rx xs.length xs.length ∧ t.env 4 = .slice none 0 0 ∧ t.ds = [] ∧ t.H = H1) (by simp [e0, eds]) ?_
  clear e0 eds
  rintro ⟨env, H2, ds⟩ ⟨e0, e4, eds, hH⟩
  simp only at e0 e4 eds hH
  subst hH
  have hmm := aMakeMap_of (P := Tryd.prog) (H := H2) mk66
  refine aw_cut (fun t => t.env 0 = .slice rx xs.length xs.length ∧ t.env 4 = .slice none 0 0 ∧ t.env 5 = .map (some H2.next) ∧ t.ds = [] ∧ t.H = H2.new (.map .u64 .i64 [])) (by simp [e0, e4, hmm, eds]) ?_
  clear e0 e4 eds
  rintro ⟨env, H3, ds⟩ ⟨e0, e4, e5, eds, hH⟩
  simp only at e0 e4 e5 eds hH
  have f3 : Fresh H2 H3 := by rw [hH]; exact Fresh.ofNew
  have r3 : H3.get H2.next = some (.map .u64 .i64 []) := by rw [hH]; simp [AH.new]
  have l3 : H2.next < H3.next := by rw [hH]; simp [AH.new]
  clear hH
  refine aw_cut (fun t => t.env 5 = .map (some H2.next) ∧ t.ds = [] ∧ Fresh H2 t.H ∧ H2.next < t.H.next ∧ AppG H3.next (unl xs) t.H (t.env 4) ∧ ∃ es, t.H.get H2.next = some (.map .u64 .i64 es) ∧ Cnts es xs) ?_ ?_
  · simp [e0]
    refine aw_loop_to xs.length (fun k t => t.env 5 = .map (some H2.next) ∧ t.env 9 = .slice rx xs.length xs.length ∧ t.env 10 = i64 (xs.length : Nat) ∧ t.env 11 = i64 (k : Nat) ∧ t.ds = [] ∧ Fresh H2 t.H ∧ H3.next ≤ t.H.next ∧ AppG H3.next (unl (xs.take k)) t.H (t.env 4) ∧ ∃ es, t.H.get H2.next = some (.map .u64 .i64 es) ∧ Cnts es (xs.take k)) ?_ ?_ ?_
    · clear e0 e4 e5 eds
      rintro k ⟨env, H4, ds⟩ hk ⟨e5, e9, e10, e11, eds, f4, hn4, ap, es, r4, hcs⟩
      simp only at e5 e9 e10 e11 eds f4 hn4 ap r4
      generalize e4 : env 4 = v4 at ap
      have hkI : (k : Int) < xs.length := by omega
      have hw : IntKind.i64.wrap ((k : Int) + 1) = ((k + 1 : Nat) : Int) := by rw [w64 (by omega)]; push_cast; rfl
      obtain ⟨la, oa, ca, hra, g1, g2, _⟩ := (h.keep f4 (fun _ _ => id)).cell (i := k) (x := u64 (xs[k] : Nat)) (by simp [hk])
      have hixa := ix22 la oa xs.length xs.length .i64 (k : Int) (by omega) hkI
      rw [Int.toNat_natCast] at hixa
      have hut := unl_take xs hk
      have hul := unl_le _ (xs.take k) rfl
      simp only [List.length_take] at hul
      have htk : xs.take (k + 1) = xs.take k ++ [xs[k]] := by rw [List.take_add_one, List.getElem?_eq_getElem hk]; rfl
      have hcn := cnts_snoc hcs xs[k]
      have hck := hcs xs[k]
      rw [← htk] at hcn
      have hcl : (xs.take k).count xs[k] ≤ k := Nat.le_trans List.count_le_length (by simp; omega)
      have hcm : xs[k] ∈ xs.take k ↔ 0 < (xs.take k).count xs[k] := List.count_pos_iff.symm
      generalize xs[k] = x at g2 hut hcn hck hcl hcm
      generalize (xs.take k).count x = c at hcn hck hcl hcm
      have hlk := aLookup_of (P := Tryd.prog) (t := 66) mk66 r4 (x : Int) false
      rw [lkV_eq, hck] at hlk
      simp only [Bool.false_eq_true, if_false] at hlk
      have hw2 : IntKind.i64.wrap ((c : Int) + 1) = (c : Int) + 1 := w64 (by omega)
      by_cases hm : 0 < c
      · rw [if_pos (hcm.2 hm)] at hut
        have hc0 : ¬ (c : Int) = 0 := by omega
        have hc0' : ¬ c = 0 := by omega
        have hup := aMapUpdate_of (P := Tryd.prog) (t := 66) mk66 r4 (x : Int) ((c : Int) + 1)
        simp [e4, e5, e9, e10, e11, hk, hkI, hra, hixa, g1, g2, hlk, hc0, hc0', hw2, hup, hw, eds]
        refine ⟨⟨f4.1, fun z hz _ => ?_⟩, hn4, ?_, hcn⟩
        · have : ¬ z = H2.next := by omega
          simp [this]
          exact f4.get hz
        · rw [hut]
          obtain ⟨O4, hrow4, hO4⟩ := ap
          exact ⟨O4, hrow4.keep (S := fun z => z = H2.next) ⟨Nat.le_refl _, fun z _ hz => by simp at hz; simp [hz]⟩ (fun z hz hzz => by have := hO4 z hz; omega), hO4⟩
      · have hc0 : c = 0 := by omega
        subst hc0
        rw [if_neg (fun h => hm (hcm.1 h))] at hut
        obtain ⟨v5, H5, hap5, ap5, hle5, hkp5⟩ := appG ap hn4 (by omega) x
        have r5 : H5.get H2.next = some (.map .u64 .i64 es) := by rw [hkp5 _ l3, r4]
        have hlk5 := aLookup_of (P := Tryd.prog) (t := 66) mk66 r5 (x : Int) false
        rw [lkV_eq, hck] at hlk5
        simp only [Bool.false_eq_true, if_false] at hlk5
        have hup := aMapUpdate_of (P := Tryd.prog) (t := 66) mk66 r5 (x : Int) 1
        have hw1 : IntKind.i64.wrap (1 : Int) = 1 := by decide
        simp at hlk hlk5
        simp [e4, e5, e9, e10, e11, hk, hkI, hra, hixa, g1, g2, hlk, hlk5, hap5, hup, hw, hw1, eds]
        refine ⟨⟨Nat.le_trans f4.1 hle5, fun z hz _ => ?_⟩, Nat.le_trans hn4 hle5, ?_, by simpa using hcn⟩
        · have : ¬ z = H2.next := by omega
          simp [this]
          rw [hkp5 z (by omega), f4.get hz]
        · rw [hut]
          obtain ⟨O5, hrow5, hO5⟩ := ap5
          exact ⟨O5, hrow5.keep (S := fun z => z = H2.next) ⟨Nat.le_refl _, fun z _ hz => by simp at hz; simp [hz]⟩ (fun z hz hzz => by have := hO5 z hz; omega), hO5⟩
    · clear e0 e4 e5 eds
      rintro ⟨env, H4, ds⟩ ⟨e5, e9, e10, e11, eds, f4, hn4, ap, es, r4, hcs⟩
      simp only at e5 e9 e10 e11 eds f4 hn4 ap r4
      rw [List.take_length] at ap hcs
      simp [e5, e10, e11, eds, f4, r4]
      exact ⟨by omega, ap, hcs⟩
    · simp [e0, e4, e5, eds, f3, r3]
      exact ⟨appG_nil _ _, cnts_nil⟩
  clear e0 e4 e5 eds
  rintro ⟨env, H4, ds⟩ ⟨e5, eds, f4, l4, ⟨O4, hrow, hO⟩, es, r4, hcs⟩
  simp only at e5 eds f4 l4 hrow r4
  have res : CntR xs H2.next H4 (.tuple #[env 4, .map (some H2.next)]) := ⟨_, O4, H2.next, es, rfl, hrow, fun x hx => by have := hO x hx; omega, Nat.le_refl _, l4, r4, hcs⟩
  simp [e5, eds, f4]
  exact res
theorem sn22 (ox oy : Operand) (a : Option Addr) (n c : Nat) : aBin Tryd.prog .eql 22 ox oy (.slice a n c) (.slice none 0 0) = some (.bool a.isNone) := by simp [aBin, aNil, un22, nilFits, nilCmp]
theorem bs22_0 (H : AH) : aBuildSlice Tryd.prog 22 0 [] H = some (.slice (some ⟨H.next, 0, none⟩) 0 0, ⟨H.next + 1, upd H.get H.next (.cells [] 39 true 1)⟩) := by kernel_rfl
/-- slices.Clone -/
theorem clone_run {w : Bool} {sv : Value} {xs : List Nat} {O : Option Nat} (h : Row 39 w H sv (gcells xs) O) (hl : xs.length ≤ 50000) : CallR cx 33 #[sv] H (fun v H' => Fresh H H' ∧ ∃ Oc, Row 39 true H' v (gcells xs) Oc ∧ ∀ o, Oc = some o → H.next ≤ o) := by
  have hs := h.isSlice
  obtain ⟨rx, rfl, _⟩ := hs
  simp only [List.length_map] at h ⊢
  refine wk33 (by simp) ?_
  cases rx with
  | none =>
    have hx : xs = [] := by
      cases O with
      | none => simpa [gcells] using h.2
      | some l => obtain ⟨o, cs, h1, _⟩ := h; cases h1
    subst hx
    simp [c33, sn22, Fresh.refl]
    exact ⟨none, Row.nil, by simp⟩
  | some a =>
    have hr1 : Row 39 true ⟨H.next + 1, upd H.get H.next (.cells [] 39 true 1)⟩ (.slice (some ⟨H.next, 0, none⟩) 0 0) [] (some H.next) := ⟨0, [], by simp, by simp, by simp, by simp, by simp⟩
    have hr2 := h.keep (H' := ⟨H.next + 1, upd H.get H.next (.cells [] 39 true 1)⟩) (Fresh.ofNew : Fresh H _) (fun _ _ => id)
    obtain ⟨sr, H2, O2, a1, a2, a3, a4⟩ := row_append_row el22 hr1 hr2 (by simp; omega) (fun x hx => List.all_eq_true.1 (gcells_cell _) x hx)
    simp [c33, sn22, bs22_0, a1]
    rw [List.nil_append] at a2
    refine ⟨⟨?_, fun l hl _ => ?_⟩, O2, a2, fun o ho => ?_⟩
    · rcases a3 with ⟨_, rfl⟩ | ⟨_, h2⟩
      · simp
      · simp at h2; omega
    · rw [a4 l (by simp; omega) (by simp; omega)]
      simp [show ¬ l = H.next by omega]
    · rcases a3 with ⟨h1, _⟩ | ⟨h1, _⟩
      · rw [h1] at ho; cases ho; exact Nat.le_refl _
      · rw [h1] at ho; cases ho; simp
theorem updd7 (g : Nat → Option ABlk) (l : Nat) (a b : ABlk) : upd (upd g l a) l b = upd g l b := by
  funext x
  simp only [upd_get]
  split <;> rfl
theorem alloc22 (H : AH) : aAlloc Tryd.prog 22 H = some (ptr H.next, ⟨H.next + 1, upd H.get H.next (.cells [.slice none 0 0] 22 true 0)⟩) := by kernel_rfl
/-- trace.Often: a function that has a row of its own -/
def OftR (xs : List Nat) (B : Nat) (H : AH) (c : Nat) : Prop := ∃ mv Oc, B ≤ c ∧ c < H.next ∧ H.get c = some (.cells [mv] 22 true 0) ∧ Row 39 true H mv (gcells xs) Oc ∧ (∀ o, Oc = some o → B ≤ o) ∧ Oc ≠ some c
theorem often_run {w : Bool} {sv : Value} {xs : List Nat} {O : Option Nat} (h : Row 39 w H sv (gcells xs) O) (hl : xs.length ≤ 50000) : CallR cx 14 #[sv] H (fun v H' => Fresh H H' ∧ ∃ c, v = .func (.func 34) #[] #[ptr c] ∧ OftR xs H.next H' c) := by
  have hs := h.isSlice
  obtain ⟨rx, rfl, _⟩ := hs
  simp only [List.length_map] at h ⊢
  refine wk14 (by simp) ?_
  simp [c14]
  refine callV_R cb33 (clone_run h hl) ?_
  rintro v H1 ⟨f1, Oc, hrow, hO⟩
  have hs := hrow.isSlice
  obtain ⟨rv, rfl, _⟩ := hs
  simp only [List.length_map] at hrow ⊢
  have hst : aStore Tryd.prog 22 (ptr H1.next) (.slice rv xs.length xs.length) ⟨H1.next + 1, upd H1.get H1.next (.cells [.slice none 0 0] 22 true 0)⟩ = some ⟨H1.next + 1, upd H1.get H1.next (.cells [.slice rv xs.length xs.length] 22 true 0)⟩ := by
    rw [st22 _ _ _ rfl, wrs_of (cs := [.slice none 0 0]) (T := 22) (z := 0) (by simp) (by simp) (by simp)]
    simp [setAll, updd7]
  have k1 : Fresh H1 ⟨H1.next + 1, upd H1.get H1.next (.cells [.slice rv xs.length xs.length] 22 true 0)⟩ := Fresh.ofNew
  have hlow : ∀ o, Oc = some o → o < H1.next := fun o e => by subst e; exact hrow.low
  have hrow1 := hrow.keep k1 (fun _ _ => id)
  have res : OftR xs H.next ⟨H1.next + 1, upd H1.get H1.next (.cells [.slice rv xs.length xs.length] 22 true 0)⟩ H1.next := ⟨_, Oc, f1.1, by simp, by simp, hrow1, hO, fun e => by have := hlow _ e; omega⟩
  simp [alloc22, hst, -st22]
  exact ⟨f1.trans k1, res⟩
end Go.Proofs.YtmeaeafceankkaaDoor.C

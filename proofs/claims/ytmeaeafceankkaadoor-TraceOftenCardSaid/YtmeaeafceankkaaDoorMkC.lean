/- Loops and merged traces. Own text of this session. -/
import Derived.Test.YtmeaeafceankkaaDoorMkB
set_option linter.unusedVariables false
set_option linter.unusedSimpArgs false
set_option maxRecDepth 4000
set_option maxHeartbeats 8000000
namespace Go.Proofs.YtmeaeafceankkaaDoor.C
open Go Go.RowKit Go.Proofs.YtmeaeafceankkaaDoorA Go.Proofs.YtmeaeafceankkaaDoor.Plain
variable {H : AH}
/-- is a loop too long -/
def longP (xs : List Nat) (r : Int) : Prop := 0 < xs.length ∧ 1 ≤ r ∧ ((4096 / xs.length : Nat) : Int) < r
instance (xs : List Nat) (r : Int) : Decidable (longP xs r) := by unfold longP; infer_instance
theorem quo4096 (n : Nat) (h : 0 < n) (ox oy : Operand) : aBin Tryd.prog .quo 3 ox oy (i64 4096) (i64 (n : Int)) = some (i64 ((4096 / n : Nat) : Int)) := by
  rw [aBin_quo (P := Tryd.prog) 3 ox oy .i64 4096 (n : Int) (by omega)]
  have h1 : (4096 : Int).tdiv (n : Int) = ((4096 / n : Nat) : Int) := rfl
  have h2 : 4096 / n ≤ 4096 := Nat.div_le_self _ _
  rw [h1]
  generalize 4096 / n = d at h2 ⊢
  rw [w64 (by omega)]
def LoopR (xs : List Nat) (r : Int) (H : AH) (v : Value) : Prop := ∃ gv O ys e, v = .tuple #[gv, i64 e] ∧ Row 39 true H gv (gcells ys) O ∧ ((longP xs r ∧ ys = [] ∧ e = 6) ∨ (¬ longP xs r ∧ ys = rep r.toNat xs ∧ e = 0 ∧ ys.length ≤ 4096))
theorem loop_run {w : Bool} {sv : Value} {xs : List Nat} {O : Option Nat} {r : Int} (h : Row 39 w H sv (gcells xs) O) (hl : xs.length ≤ 5000) : CallR cx 17 #[sv, i64 r] H (fun v H' => Fresh H H' ∧ LoopR xs r H' v) := by
  have hsl := h.isSlice
  obtain ⟨rx, rfl, _⟩ := hsl
  simp only [List.length_map] at h ⊢
  refine wk17 (by simp) ?_
  unfold c17
  refine aw_cut (fun t => t.env 0 = .slice rx xs.length xs.length ∧ t.env 1 = i64 r ∧ t.ds = [] ∧ t.H = H) (by simp) ?_
  rintro ⟨env, H1, ds⟩ ⟨e0, e1, eds, hH⟩
  simp only at e0 e1 eds hH
  subst hH
  by_cases hx : xs.length = 0
  · have hx0 : xs = [] := List.length_eq_zero_iff.1 hx
    have hnl : ¬ longP xs r := fun h => by have := h.1; omega
    have res : LoopR xs r H1 (.tuple #[.slice none 0 0, i64 0]) := ⟨_, none, [], 0, rfl, Row.nil, .inr ⟨hnl, by rw [hx0, rep_nil], rfl, by simp⟩⟩
    simp [e0, e1, hx, eds, Fresh.refl]
    exact res
  by_cases hr : r < 1
  · have hnl : ¬ longP xs r := fun h => by have := h.2.1; omega
    have hrz : r.toNat = 0 := by omega
    have res : LoopR xs r H1 (.tuple #[.slice none 0 0, i64 0]) := ⟨_, none, [], 0, rfl, Row.nil, .inr ⟨hnl, by rw [hrz]; rfl, rfl, by simp⟩⟩
    simp [e0, e1, hx, hr, eds, Fresh.refl, Go.undef]
    exact res
  refine aw_cut (fun t => t.env 0 = .slice rx xs.length xs.length ∧ t.env 1 = i64 r ∧ t.ds = [] ∧ t.H = H1) (by simp [e0, e1, hx, hr, eds, Go.undef]) ?_
  clear e0 e1 eds
  rintro ⟨env, H2, ds⟩ ⟨e0, e1, eds, hH⟩
  simp only at e0 e1 eds hH
  subst hH
  have hq := quo4096 xs.length (by omega)
  by_cases hlong : ((4096 / xs.length : Nat) : Int) < r
  · have hnl : longP xs r := ⟨by omega, by omega, hlong⟩
    have res : LoopR xs r H2 (.tuple #[.slice none 0 0, i64 6]) := ⟨_, none, [], 6, rfl, Row.nil, .inl ⟨hnl, rfl, rfl⟩⟩
    simp [e0, e1, hq, hlong, eds, Fresh.refl, -Int.natCast_ediv]
    exact res
  have hnl : ¬ longP xs r := fun h => hlong h.2.2
  obtain ⟨k, rfl⟩ : ∃ k : Nat, r = (k : Int) := ⟨r.toNat, by omega⟩
  have hk : k ≤ 4096 / xs.length := by omega
  have hkm : xs.length * k ≤ 4096 := Nat.le_trans (Nat.mul_le_mul_left _ hk) (by rw [Nat.mul_comm]; exact Nat.div_mul_le_self _ _)
  refine aw_cut (fun t => t.env 0 = .slice rx xs.length xs.length ∧ t.env 1 = i64 k ∧ t.ds = [] ∧ t.H = H2) (by simp [e0, e1, hq, hlong, eds, -Int.natCast_ediv]) ?_
  clear e0 e1 eds
  rintro ⟨env, H3, ds⟩ ⟨e0, e1, eds, hH⟩
  simp only at e0 e1 eds hH
  subst hH
  simp [e0, e1]
  refine callV_R cb36 (repeat_run h (fun e => hx (by rw [e]; rfl)) (by omega) hkm) ?_
  rintro v H4 ⟨f4, O', hrow, _⟩
  have res : LoopR xs (k : Int) H4 (.tuple #[v, i64 0]) := ⟨_, O', _, 0, rfl, hrow, .inr ⟨hnl, by rw [Int.toNat_natCast], rfl, by rw [rep_len, Nat.mul_comm]; exact hkm⟩⟩
  simp [eds, f4]
  exact res
/-- ref.Loop -/
theorem rloop_run {w : Bool} {sv : Value} {xs : List Nat} {O : Option Nat} {r : Int} (h : Row 39 w H sv (gcells xs) O) (hl : xs.length ≤ 5000) (hr64 : I64 r) (hnl : ¬ longP xs r) : CallR cx 19 #[sv, i64 r] H (fun v H' => Fresh H H' ∧ ∃ O', Row 39 true H' v (gcells (rep r.toNat xs)) O') := by
  have hsl := h.isSlice
  obtain ⟨rx, rfl, _⟩ := hsl
  simp only [List.length_map] at h ⊢
  unfold I64 at hr64
  refine wk19 (by simp) ?_
  unfold c19
  refine aw_cut (fun t => t.env 0 = .slice rx xs.length xs.length ∧ t.env 1 = i64 r ∧ t.ds = [] ∧ t.H = H) (by simp) ?_
  rintro ⟨env, H1, ds⟩ ⟨e0, e1, eds, hH⟩
  simp only at e0 e1 eds hH
  subst hH
  refine aw_cut (fun t => t.env 0 = .slice rx xs.length xs.length ∧ t.env 1 = i64 r ∧ t.env 5 = .slice none 0 0 ∧ t.ds = [] ∧ t.H = H1) (by simp [e0, e1, eds]) ?_
  clear e0 e1 eds
  rintro ⟨env, H2, ds⟩ ⟨e0, e1, e5, eds, hH⟩
  simp only at e0 e1 e5 eds hH
  subst hH
  by_cases hx : xs.length = 0
  · have hx0 : xs = [] := List.length_eq_zero_iff.1 hx
    refine aw_cut (fun t => t.ds = [] ∧ t.H = H2 ∧ t.env 5 = .slice none 0 0) ?_ ?_
    · simp
      refine aw_loop_to 0 (fun k t => t.env 0 = .slice rx xs.length xs.length ∧ t.env 1 = i64 r ∧ t.env 5 = .slice none 0 0 ∧ t.env 6 = i64 0 ∧ t.ds = [] ∧ t.H = H2) (fun k s hk => by omega) ?_ ?_
      · clear e0 e1 e5 eds
        rintro ⟨env, H3, ds⟩ ⟨e0, e1, e5, e6, eds, hH⟩
        simp only at e0 e1 e5 e6 eds hH
        subst hH
        by_cases hr0 : (0 : Int) < r
        · simp [e0, e1, e5, e6, hr0, hx, eds, Go.undef]
        · simp [e0, e1, e5, e6, hr0, hx, eds, Go.undef]
      · simp [e0, e1, e5, eds]
    clear e0 e1 e5 eds
    rintro ⟨env, H3, ds⟩ ⟨eds, hH, e5⟩
    simp only at eds hH e5
    subst hH
    simp [e5, eds, Fresh.refl]
    exact ⟨none, by rw [hx0, rep_nil]; exact Row.nil⟩
  have hx1 : 0 < xs.length := by omega
  have hxI : (0 : Int) < xs.length := by omega
  have hbig : r.toNat * xs.length ≤ 4096 := by
    by_cases h1 : 1 ≤ r
    · have : ¬ ((4096 / xs.length : Nat) : Int) < r := fun hc => hnl ⟨hx1, h1, hc⟩
      exact Nat.le_trans (Nat.mul_le_mul_right _ (by omega : r.toNat ≤ 4096 / xs.length)) (Nat.div_mul_le_self _ _)
    · have : r.toNat = 0 := by omega
      rw [this]; omega
  refine aw_cut (fun t => t.ds = [] ∧ Fresh H2 t.H ∧ ∃ O', Row 39 true t.H (t.env 5) (gcells (rep r.toNat xs)) O') ?_ ?_
  · simp
    refine aw_loop_to r.toNat (fun k t => t.env 0 = .slice rx xs.length xs.length ∧ t.env 1 = i64 r ∧ t.env 6 = i64 (k : Nat) ∧ t.ds = [] ∧ Fresh H2 t.H ∧ ∃ O', Row 39 true t.H (t.env 5) (gcells (rep k xs)) O' ∧ ∀ x, O' = some x → H2.next ≤ x) ?_ ?_ ?_
    · clear e0 e1 e5 eds
      rintro k ⟨env, H3, ds⟩ hk ⟨e0, e1, e6, eds, f3, O', hrow, hO⟩
      simp only at e0 e1 e6 eds f3 hrow
      generalize e5 : env 5 = gv at hrow
      have hkI : (k : Int) < r := by omega
      have hkl : (k + 1) * xs.length ≤ 4096 := Nat.le_trans (Nat.mul_le_mul_right _ (by omega)) hbig
      rw [Nat.add_mul] at hkl
      have hk4 : k ≤ 4096 := by
        have : k * 1 ≤ k * xs.length := Nat.mul_le_mul_left _ hx1
        omega
      have hw : IntKind.i64.wrap ((k : Int) + 1) = ((k + 1 : Nat) : Int) := by rw [w64 (by omega)]; push_cast; rfl
      obtain ⟨sr, H4, O4, hap, hrow4, hO4, hkp⟩ := row_append_row el22 hrow (h.keep f3 (fun _ _ => id)) (by simp [rep_len]; omega) (fun x hx => List.all_eq_true.1 (gcells_cell _) x hx)
      have hle : H3.next ≤ H4.next := by
        rcases hO4 with ⟨_, rfl⟩ | ⟨_, h⟩
        · exact Nat.le_refl _
        · omega
      simp [e0, e1, e5, e6, hkI, hx1, hxI, hap, hw, eds]
      refine ⟨⟨Nat.le_trans f3.1 hle, fun y hy _ => by rw [hkp y (Nat.lt_of_lt_of_le hy f3.1) (fun e => by have := hO y e; omega), f3.get hy]⟩, O4, ?_, ?_⟩
      · rw [rep_succ]
        simpa [gcells] using hrow4
      · intro x hx
        rcases hO4 with ⟨h1, _⟩ | ⟨h1, _⟩
        · exact hO x (by rw [← h1]; exact hx)
        · rw [h1] at hx
          cases hx
          exact f3.1
    · clear e0 e1 e5 eds
      rintro ⟨env, H3, ds⟩ ⟨e0, e1, e6, eds, f3, O', hrow, hO⟩
      simp only at e0 e1 e6 eds f3 hrow
      have hkI : ¬ max r 0 < r := by omega
      simp [e0, e1, e6, hkI, eds, f3, Go.undef]
      exact ⟨O', hrow⟩
    · simp [e0, e1, e5, eds, Fresh.refl]
      exact ⟨none, Row.nil, by simp⟩
  clear e0 e1 e5 eds
  rintro ⟨env, H3, ds⟩ ⟨eds, f3, O', hrow⟩
  simp only at eds f3 hrow
  simp [eds, f3]
  exact ⟨O', hrow⟩
/-- two traces by turns, so many rounds -/
def merT (xs ys : List Nat) (k : Nat) : List Nat := (List.range k).flatMap fun i => xs[i]?.toList ++ ys[i]?.toList
theorem merT_succ (xs ys : List Nat) (k : Nat) : merT xs ys (k + 1) = merT xs ys k ++ xs[k]?.toList ++ ys[k]?.toList := by
  unfold merT
  rw [List.range_succ, List.flatMap_append]
  simp
theorem merT_len (xs ys : List Nat) (k : Nat) : (merT xs ys k).length ≤ 2 * k := by
  induction k with
  | zero => simp [merT]
  | succ k ih =>
    rw [merT_succ, List.length_append, List.length_append]
    have h1 : (xs[k]?.toList).length ≤ 1 := by cases xs[k]? <;> simp
    have h2 : (ys[k]?.toList).length ≤ 1 := by cases ys[k]? <;> simp
    omega
def AppG (B : Nat) (g : List Nat) (H : AH) (v : Value) : Prop := ∃ O, Row 39 true H v (gcells g) O ∧ ∀ x, O = some x → B ≤ x
theorem appG {B : Nat} {g : List Nat} {v : Value} (h : AppG B g H v) (hB : B ≤ H.next) (hl : g.length < 100000) (x : Nat) :
    ∃ v' H2, aAppend Tryd.prog 22 22 v (.slice (some ⟨H.next, 0, none⟩) 1 1) ⟨H.next + 1, upd H.get H.next (.cells [u64 (x : Int)] 39 true 1)⟩ = some (v', H2) ∧ AppG B (g ++ [x]) H2 v' ∧ H.next ≤ H2.next ∧ ∀ l, l < B → H2.get l = H.get l := by
  obtain ⟨O, hrow, hO⟩ := h
  obtain ⟨H3, hap, hnx, hget, hrow3, hkp⟩ := row_append el22 hrow (by simp; omega) (v := u64 (x : Int)) rfl
  refine ⟨_, H3, hap, ⟨some (H.next + 1), ?_, fun y hy => by cases hy; omega⟩, by omega, fun l hl => hkp l (by omega) (fun e => by have := hO l e; omega)⟩
  have : gcells (g ++ [x]) = gcells g ++ [u64 (x : Int)] := by simp [gcells]
  rw [this]
  exact hrow3
theorem AppG.fresh {B : Nat} {g : List Nat} {H H' : AH} {v : Value} (h : AppG B g H v) (f : Fresh H H') : AppG B g H' v := by
  obtain ⟨O, h1, h2⟩ := h
  exact ⟨O, h1.keep f (fun _ _ => id), h2⟩
theorem appG_nil (B : Nat) (H : AH) : AppG B [] H (.slice none 0 0) := ⟨none, Row.nil, by simp⟩
end Go.Proofs.YtmeaeafceankkaaDoor.C

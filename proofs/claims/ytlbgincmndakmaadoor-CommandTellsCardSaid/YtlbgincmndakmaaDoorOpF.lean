/- command.Print; what is read without an error is told as it was. Own text of this session. -/
import Derived.Test.YtlbgincmndakmaaDoorOpE
set_option linter.unusedVariables false
set_option linter.unusedSimpArgs false
set_option maxRecDepth 4000
set_option maxHeartbeats 8000000
namespace Go.Proofs.YtlbgincmndakmaaDoor.C
open Go Go.RowKit Go.Proofs.YtlbgincmndakmaaDoorA Go.Proofs.YtlbgincmndakmaaDoor.Plain
variable {H : AH}
def prW (k : Int) (n : Nat) (val : List UInt8) (p c q g : Int) : List (List UInt8) := wordL k :: ((if keyP k then [dec n] else []) ++ ((if val = [] then [] else [hex val]) ++ (if k = 4 then [textOf p c q g] else [])))
def prL (k : Int) (n : Nat) (val : List UInt8) (p c q g : Int) : List UInt8 := Lib.join (prW k n val p c q g) [32]
theorem kind_cases (w : List UInt8) : kindL w = 0 ∨ (1 ≤ kindL w ∧ kindL w ≤ 6 ∧ w = wordL (kindL w)) := by
  by_cases h1 : w = getW
  · subst h1; right; decide
  by_cases h2 : w = putW
  · subst h2; right; decide
  by_cases h3 : w = delW
  · subst h3; right; decide
  by_cases h4 : w = resW
  · subst h4; right; decide
  by_cases h5 : w = staW
  · subst h5; right; decide
  by_cases h6 : w = dumW
  · subst h6; right; decide
  left
  unfold kindL
  rw [if_neg h1, if_neg h2, if_neg h3, if_neg h4, if_neg h5, if_neg h6]
theorem valOf_ok {w : List UInt8} (h : (valOf w).2 = 0) : w = hex (valOf w).1 ∧ (valOf w).1 ≠ [] ∧ (valOf w).1.length ≤ 1024 := by
  unfold valOf at h ⊢
  cases hu : unhex w with
  | none => rw [hu] at h; cases h
  | some l =>
    rw [hu] at h
    simp only at h ⊢
    by_cases h0 : l = []
    · rw [if_pos h0] at h; cases h
    · rw [if_neg h0] at h ⊢
      by_cases h1 : 1024 < l.length
      · rw [if_pos h1] at h; cases h
      · rw [if_neg h1]
        exact ⟨unhex_some hu, h0, by show l.length ≤ 1024; omega⟩
theorem op_back {s : List UInt8} (h : (opOf s).e = 0) : MayO (opOf s).k (opOf s).n (opOf s).val.length (opOf s).p (opOf s).c (opOf s).q (opOf s).g ∧ prL (opOf s).k (opOf s).n (opOf s).val (opOf s).p (opOf s).c (opOf s).q (opOf s).g = s ∧ (opOf s).n < 18446744073709551616 := by
  obtain ⟨w0, tl, hw⟩ := words_cons s
  have hjs := join_splitL 32 s
  rw [hw] at hjs
  by_cases hf : fitsP (kindL w0) tl.length
  case neg => rw [opOf_not hw hf] at h; cases h
  rcases kind_cases w0 with h0 | ⟨h1, h6, hwd⟩
  · rw [h0] at hf; unfold fitsP at hf; simp at hf
  rw [opOf_fits hw hf] at h ⊢
  generalize kindL w0 = k at *
  subst hwd
  have keyed : ∀ {w1 : List UInt8}, keyP k → tl = [w1] → MayO (opT k tl).k (opT k tl).n (opT k tl).val.length (opT k tl).p (opT k tl).c (opT k tl).q (opT k tl).g ∧ prL (opT k tl).k (opT k tl).n (opT k tl).val (opT k tl).p (opT k tl).c (opT k tl).q (opT k tl).g = s ∧ (opT k tl).n < 18446744073709551616 := by
    rintro w1 hk rfl
    have ho := opT_keyed hk (w1 := w1) (r := []) (by simp)
    cases hb : okN w1 with
    | false => rw [hb] at ho; rw [ho] at h; cases h
    | true =>
      rw [hb] at ho
      rw [ho]
      simp only [if_true]
      have hd : dec (rdN w1) = w1 := (okN_is hb).2.symm
      refine ⟨?_, ?_, rdN_lt w1⟩
      · unfold MayO
        rcases hk with rfl | rfl | rfl <;> simp
      · have h4 : ¬ k = 4 := by unfold keyP at hk; omega
        unfold prL prW
        rw [if_pos hk, if_pos rfl, if_neg h4, hd]
        simpa using hjs
  have hk6 : k = 1 ∨ k = 2 ∨ k = 3 ∨ k = 4 ∨ k = 5 ∨ k = 6 := by omega
  rcases hk6 with rfl | rfl | rfl | rfl | rfl | rfl
  · unfold fitsP at hf
    simp at hf
    obtain ⟨w1, hw1⟩ : ∃ w1, tl = [w1] := List.length_eq_one_iff.1 (by omega)
    exact keyed (by decide) hw1
  · by_cases hl : tl.length = 1
    · obtain ⟨w1, hw1⟩ : ∃ w1, tl = [w1] := List.length_eq_one_iff.1 hl
      exact keyed (by decide) hw1
    · unfold fitsP at hf
      simp at hf
      obtain ⟨w1, w2, rfl⟩ : ∃ w1 w2, tl = [w1, w2] := by
        match tl, (by omega : tl.length = 2) with
        | [w1, w2], _ => exact ⟨w1, w2, rfl⟩
      have ho := opT_put (w1 := w1) (w2 := w2)
      cases hb : okN w1 with
      | false => rw [hb] at ho; rw [ho] at h; cases h
      | true =>
        rw [hb, if_pos rfl] at ho
        by_cases hv : (valOf w2).2 = 0
        case neg => rw [if_neg hv] at ho; rw [ho] at h; exact absurd h hv
        rw [if_pos hv] at ho
        obtain ⟨v1, v2, v3⟩ := valOf_ok hv
        rw [ho]
        have hd : dec (rdN w1) = w1 := (okN_is hb).2.symm
        refine ⟨?_, ?_, rdN_lt w1⟩
        · unfold MayO
          simp
          exact v3
        · unfold prL prW
          simp only
          rw [if_pos (by decide), if_neg v2, if_neg (by decide), hd, ← v1]
          exact hjs
  · unfold fitsP at hf
    simp at hf
    obtain ⟨w1, hw1⟩ : ∃ w1, tl = [w1] := List.length_eq_one_iff.1 (by omega)
    exact keyed (by decide) hw1
  · have ho := opT_res (tl := tl)
    by_cases he : (outOf (Lib.join tl [32])).2.2.2.2 = 0
    case neg => rw [if_neg he] at ho; rw [ho] at h; exact absurd h he
    rw [if_pos he] at ho
    obtain ⟨m1, m2⟩ := out_text he
    rw [ho]
    have hne : tl ≠ [] := by
      rintro rfl
      have h1 := text_out m1
      rw [m2] at h1
      have : (splitL 32 (Lib.join ([] : List (List UInt8)) [32])).length ≠ 4 := by decide
      rw [out_len this] at he
      cases he
    refine ⟨?_, ?_, by show (0 : Nat) < 18446744073709551616; decide⟩
    · unfold MayO
      simp
      exact m1
    · unfold prL prW
      simp only
      rw [if_neg (by decide), if_pos trivial, if_pos trivial, m2]
      cases tl with
      | nil => exact absurd rfl hne
      | cons a b =>
        rw [← hjs]
        show Lib.join [wordL 4, Lib.join (a :: b) [32]] [32] = Lib.join (wordL 4 :: a :: b) [32]
        rw [join_cons2, join_cons2, Lib.join_one]
  · unfold fitsP at hf
    simp at hf
    subst hf
    have ho := opT_bare (k := 5) (by decide)
    rw [ho]
    refine ⟨by unfold MayO; simp, ?_, by decide⟩
    unfold prL prW
    simp only
    rw [if_neg (by decide), if_pos trivial, if_neg (by decide)]
    exact hjs
  · unfold fitsP at hf
    simp at hf
    subst hf
    have ho := opT_bare (k := 6) (by decide)
    rw [ho]
    refine ⟨by unfold MayO; simp, ?_, by decide⟩
    unfold prL prW
    simp only
    rw [if_neg (by decide), if_pos trivial, if_neg (by decide)]
    exact hjs
theorem join_le5 : ∀ (xs : List (List UInt8)), (∀ x ∈ xs, x.length ≤ 5000) → (Lib.join xs [32]).length ≤ xs.length * 5001
  | [], _ => by simp [Lib.join_nil]
  | [a], h => by
    have := h a (by simp)
    simp [Lib.join_one]; omega
  | a :: b :: r, h => by
    have h1 := h a (by simp)
    have h2 := join_le5 (b :: r) (fun x hx => h x (List.mem_cons_of_mem _ hx))
    rw [join_cons2]
    simp only [List.length_append, List.length_cons] at h2 ⊢
    simp
    omega
def AppI (B : Nat) (ws : List (List UInt8)) (H : AH) (v : Value) : Prop := ∃ O, Row 9 true H v (strs ws) O ∧ ∀ x, O = some x → B ≤ x
theorem app_step {B : Nat} {ws : List (List UInt8)} {v : Value} (h : AppI B ws H v) (hB : B ≤ H.next) (hl : ws.length < 1000) (x : List UInt8) :
    ∃ v' H2, aAppend Tryd.prog 54 54 v (.slice (some ⟨H.next, 0, none⟩) 1 1) ⟨H.next + 1, upd H.get H.next (.cells [.string (str x)] 9 true 1)⟩ = some (v', H2) ∧ AppI B (ws ++ [x]) H2 v' ∧ H.next ≤ H2.next ∧ ∀ l, l < B → H2.get l = H.get l := by
  obtain ⟨O, hrow, hO⟩ := h
  obtain ⟨H3, hap, hnx, hget, hrow3, hkp⟩ := row_append el54 hrow (by rw [strs_length]; omega) (v := .string (str x)) rfl
  refine ⟨_, H3, hap, ⟨some (H.next + 1), ?_, fun y hy => by cases hy; omega⟩, by omega, fun l hl => hkp l (by omega) (fun e => by have := hO l e; omega)⟩
  have : strs (ws ++ [x]) = strs ws ++ [.string (str x)] := by simp [strs]
  rw [this]
  exact hrow3
theorem AppI.fresh {B : Nat} {ws : List (List UInt8)} {H H' : AH} {v : Value} (h : AppI B ws H v) (f : Fresh H H') : AppI B ws H' v := by
  obtain ⟨O, h1, h2⟩ := h
  exact ⟨O, h1.keep f (fun _ _ => id), h2⟩
theorem oprint_run {k : Int} {n : Nat} {sv : Value} {val : List UInt8} {O : Option Nat} {w : Bool} {p c q g : Int} (hg : HasG gs H) (hn : nG ≤ H.next) (hv : Row 5 w H sv (val.map u8v) O) (hnn : n < 18446744073709551616) :
    CallR cx 7 #[opV k n sv p c q g] H (fun v H' => Fresh H H' ∧ (MayO k n val.length p c q g → v = .tuple #[.string (str (prL k n val p c q g)), i64 0]) ∧ (¬ MayO k n val.length p c q g → v = .tuple #[.string (str []), i64 1])) := by
  obtain ⟨ra, rfl, _⟩ := hv.isSlice
  simp only [List.length_map] at hv ⊢
  refine wk7 (by simp) ?_
  unfold c7
  refine aw_cut (fun t => t.env 1 = ptr H.next ∧ t.ds = [] ∧ t.H = H.new (opB k n (.slice ra val.length val.length) p c q g)) (by simp [box29]) ?_
  rintro ⟨env, H1, ds⟩ ⟨e1, eds, hH⟩
  simp only at e1 eds hH
  have f1 : Fresh H H1 := by rw [hH]; exact Fresh.ofNew
  have r1 : H1.get H.next = some (opB k n (.slice ra val.length val.length) p c q g) := by rw [hH]; simp [AH.new]
  have l1 : H.next < H1.next := by rw [hH]; simp [AH.new]
  have hg1 := hg.fresh gs_lt hn f1
  have hn1 : nG ≤ H1.next := Nat.le_trans hn f1.1
  have hv1 := hv.keep f1 (fun _ _ => id)
  clear hH
  have a0 := ld29b r1
  by_cases hM : MayO k n val.length p c q g
  case neg =>
    simp [e1, a0, -ld29]
    refine callV_R cb18 tellable_run ?_
    rintro _ H2 ⟨b, rfl, hb, f2⟩
    have hbf : b = false := by cases b with | false => rfl | true => exact absurd (hb.1 rfl) hM
    subst hbf
    simp [eds, hM, f1.trans f2]
  refine aw_cut (fun t => t.env 1 = ptr H.next ∧ t.ds = [] ∧ Fresh H1 t.H) ?_ ?_
  · simp [e1, a0, -ld29]
    refine callV_R cb18 tellable_run ?_
    rintro _ H2 ⟨b, rfl, hb, f2⟩
    obtain rfl : b = true := hb.2 hM
    simp [e1, eds, f2]
  clear e1 eds
  rintro ⟨env, H2, ds⟩ ⟨e1, eds, f2⟩
  simp only at e1 eds f2
  have r2 : H2.get H.next = some (opB k n (.slice ra val.length val.length) p c q g) := by rw [f2.get l1, r1]
  -- the first word
  refine aw_cut (fun t => t.env 1 = ptr H.next ∧ t.ds = [] ∧ Fresh H1 t.H ∧ AppI H1.next [wordL k] t.H (t.env 4)) ?_ ?_
  · simp [e1, r2]
    refine callV_R cb19 word_run ?_
    rintro _ H3 ⟨rfl, hH⟩
    subst hH
    simp [e1, eds]
    exact ⟨f2.trans Fresh.ofNew, some H3.next, ⟨0, [.string (str (wordL k))], rfl, by simp, rfl, by simp [strs], by simp⟩, fun x hx => by cases hx; exact f2.1⟩
  clear e1 eds
  rintro ⟨env, H3, ds⟩ ⟨e1, eds, f3, ap3⟩
  simp only at e1 eds f3 ap3
  have r3 : H3.get H.next = some (opB k n (.slice ra val.length val.length) p c q g) := by rw [f3.get l1, r1]
  generalize e4 : env 4 = v4 at ap3
  -- the key
  refine aw_cut (fun t => t.env 1 = ptr H.next ∧ t.ds = [] ∧ Fresh H1 t.H ∧ AppI H1.next (wordL k :: (if keyP k then [dec n] else [])) t.H (t.env 4)) ?_ ?_
  · simp [e1, r3]
    refine callV_R cb20 keyed_run ?_
    rintro _ H4 ⟨rfl, hH⟩
    subst hH
    by_cases hk : keyP k
    · simp [hk, e1, e4, r3]
      refine callV_R cb21 (print_run hnn) ?_
      rintro _ H5 ⟨rfl, f5⟩
      obtain ⟨v5, H6, hap, ap6, hle, hkp⟩ := app_step (ap3.fresh f5) (Nat.le_trans f3.1 f5.1) (by simp) (dec n)
      simp [e1, e4, hap, eds]
      exact ⟨⟨Nat.le_trans f3.1 (Nat.le_trans f5.1 hle), fun x hx _ => by rw [hkp x hx, (f3.trans f5).get hx]⟩, by rw [if_pos hk]; exact ap6⟩
    · simp [hk, e1, e4, eds, f3]
      exact ap3
  clear e1 e4 eds
  rintro ⟨env, H4, ds⟩ ⟨e1, eds, f4, ap4⟩
  simp only at e1 eds f4 ap4
  have r4 : H4.get H.next = some (opB k n (.slice ra val.length val.length) p c q g) := by rw [f4.get l1, r1]
  generalize e4 : env 4 = v4 at ap4
  have hv4 := hv1.keep f4 (fun _ _ => id)
  have hm : val.length ≤ 1024 := hM.1
  -- the value
  refine aw_cut (fun t => t.env 1 = ptr H.next ∧ t.ds = [] ∧ Fresh H1 t.H ∧ AppI H1.next (wordL k :: ((if keyP k then [dec n] else []) ++ (if val = [] then [] else [hex val]))) t.H (t.env 4)) ?_ ?_
  · by_cases hv0 : val = []
    · subst hv0
      simp [e1, e4, r4, eds, f4]
      exact ap4
    · have hln : 0 < val.length := List.length_pos_iff.2 hv0
      simp [e1, e4, r4, hln, hv0]
      refine callV_R cb22 (hex_run hv4 (by omega)) ?_
      rintro _ H5 ⟨rfl, f5⟩
      obtain ⟨v5, H6, hap, ap6, hle, hkp⟩ := app_step (ap4.fresh f5) (Nat.le_trans f4.1 f5.1) (by split <;> simp) (hex val)
      simp [e1, e4, hap, eds]
      exact ⟨⟨Nat.le_trans f4.1 (Nat.le_trans f5.1 hle), fun x hx _ => by rw [hkp x hx, (f4.trans f5).get hx]⟩, by rw [if_neg hv0]; exact ap6⟩
  clear e1 e4 eds
  rintro ⟨env, H5, ds⟩ ⟨e1, eds, f5, ap5⟩
  simp only at e1 eds f5 ap5
  have r5 : H5.get H.next = some (opB k n (.slice ra val.length val.length) p c q g) := by rw [f5.get l1, r1]
  generalize e4 : env 4 = v4 at ap5
  have lc := ld27at r5
  have hg5 := hg1.fresh gs_lt hn1 f5
  have hn5 : nG ≤ H5.next := Nat.le_trans hn1 f5.1
  -- the config
  refine aw_cut (fun t => t.env 1 = ptr H.next ∧ t.ds = [] ∧ Fresh H1 t.H ∧ AppI H1.next (prW k n val p c q g) t.H (t.env 4)) ?_ ?_
  · unfold prW
    by_cases hk : k = 4
    · have hmc : May p c q g := by
        unfold MayO at hM
        rw [if_neg (by omega), if_neg (by omega), if_pos hk] at hM
        exact hM.2.2.2
      simp [e1, e4, r5, hk, lc]
      refine callV_R cb23 (cprint_run hg5 hn5) ?_
      rintro _ H6 ⟨f6, rfl⟩
      rw [if_pos hmc, if_pos hmc]
      obtain ⟨v5, H7, hap, ap7, hle, hkp⟩ := app_step (ap5.fresh f6) (Nat.le_trans f5.1 f6.1) (by split <;> split <;> simp) (textOf p c q g)
      simp [e1, e4, hap, eds]
      refine ⟨⟨Nat.le_trans f5.1 (Nat.le_trans f6.1 hle), fun x hx _ => by rw [hkp x hx, (f5.trans f6).get hx]⟩, ?_⟩
      rw [if_pos hk]
      have e : (wordL k :: ((if keyP k then [dec n] else []) ++ (if val = [] then [] else [hex val]))) ++ [textOf p c q g] = wordL k :: ((if keyP k then [dec n] else []) ++ ((if val = [] then [] else [hex val]) ++ [textOf p c q g])) := by simp
      rw [e] at ap7
      exact ap7
    · simp [e1, e4, r5, hk, eds, f5]
      exact ap5
  clear e1 e4 eds
  rintro ⟨env, H6, ds⟩ ⟨e1, eds, f6, O6, hrow, _⟩
  simp only at e1 eds f6 hrow
  generalize e4 : env 4 = v4 at hrow
  have hwl : (prW k n val p c q g).length ≤ 4 := by
    unfold prW
    simp only [List.length_cons, List.length_append]
    have h1 : (if keyP k then [dec n] else []).length ≤ 1 := by split <;> simp
    have h2 : (if val = [] then [] else [hex val]).length ≤ 1 := by split <;> simp
    have h3 : (if k = 4 then [textOf p c q g] else []).length ≤ 1 := by split <;> simp
    omega
  have hjl : (Lib.join (prW k n val p c q g) [32]).length ≤ 1000000000 := by
    have := join_le5 (prW k n val p c q g) (fun x hx => ?_)
    · have h4 : (prW k n val p c q g).length * 5001 ≤ 4 * 5001 := Nat.mul_le_mul_right _ hwl
      omega
    · unfold prW at hx
      rcases List.mem_cons.1 hx with rfl | hx
      · unfold wordL
        repeat' split
        all_goals decide
      rcases List.mem_append.1 hx with hx | hx
      · split at hx
        · obtain rfl := List.mem_singleton.1 hx
          have := dec_len (n := n) (k := 20) (by omega) (by omega)
          omega
        · cases hx
      rcases List.mem_append.1 hx with hx | hx
      · split at hx
        · cases hx
        · obtain rfl := List.mem_singleton.1 hx
          rw [hex_len]
          omega
      · split at hx
        · rename_i hk
          obtain rfl := List.mem_singleton.1 hx
          unfold MayO at hM
          rw [if_neg (by omega), if_neg (by omega), if_pos hk] at hM
          have := text_len hM.2.2.2
          omega
        · cases hx
  simp [e4]
  refine callV_R cb24 (join_row hrow (by omega) hjl) ?_
  rintro _ _ ⟨rfl, rfl⟩
  simp [eds, hM, f1.trans f6]
  rfl
end Go.Proofs.YtlbgincmndakmaaDoor.C

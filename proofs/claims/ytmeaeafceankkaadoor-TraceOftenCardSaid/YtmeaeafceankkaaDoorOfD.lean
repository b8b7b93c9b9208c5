/- trace.Unlike. Own text of this session. -/
import Derived.Test.YtmeaeafceankkaaDoorOfC
set_option linter.unusedVariables false
set_option linter.unusedSimpArgs false
set_option maxRecDepth 4000
set_option maxHeartbeats 8000000
namespace Go.Proofs.YtmeaeafceankkaaDoor.C
open Go Go.RowKit Go.Proofs.YtmeaeafceankkaaDoorA Go.Proofs.YtmeaeafceankkaaDoor.Plain
variable {H : AH}
theorem OftR.fresh {xs : List Nat} {B c : Nat} {H H' : AH} (h : OftR xs B H c) (f : Fresh H H') : OftR xs B H' c := by
  obtain ⟨mv, Oc, h1, h2, h3, h4, h5, h6⟩ := h
  exact ⟨mv, Oc, h1, Nat.lt_of_lt_of_le h2 f.1, by rw [f.get h2, h3], h4.keep f (fun _ _ => id), h5, h6⟩
/-- what Unlike's loop keeps -/
def UnlI (E L mk : Nat) (xs : List Nat) (env1 : Env) (k : Nat) (H : AH) (Ok : Nat → Prop) : Prop :=
  ∃ sv O, (∀ x, Ok x ↔ (x = E ∨ x = L ∨ O = some x)) ∧ k ≤ (unl xs).length ∧ H.get E = some (.cells [sv] 22 true 0) ∧ H.get L = some (.loop env1 14 #[7, 8] c15_0as c15_0bd .ready none mk) ∧
    Row 39 true H sv (gcells ((unl xs).take k)) O ∧ (∀ o, O = some o → o ≠ E ∧ o ≠ L) ∧ E < H.next ∧ L < H.next ∧ E ≠ L
theorem UnlI.stable {E L mk : Nat} {xs : List Nat} {env1 : Env} {k : Nat} {H H' : AH} {Ok : Nat → Prop} (h : UnlI E L mk xs env1 k H Ok) (hk : ∀ l, Ok l → H'.get l = H.get l) (hn : H.next ≤ H'.next) : UnlI E L mk xs env1 k H' Ok := by
  obtain ⟨sv, O, h1, h2, h3, h4, h5, h6, h7, h8, h9⟩ := h
  refine ⟨sv, O, h1, h2, ?_, ?_, h5.same (fun l hl => hk l ((h1 l).2 (by simp [hl]))) hn, h6, by omega, by omega, h9⟩
  · rw [hk _ ((h1 _).2 (by simp)), h3]
  · rw [hk _ ((h1 _).2 (by simp)), h4]
theorem UnlI.low {E L mk : Nat} {xs : List Nat} {env1 : Env} {k : Nat} {H : AH} {Ok : Nat → Prop} (h : UnlI E L mk xs env1 k H Ok) : ∀ l, Ok l → l < H.next := by
  obtain ⟨sv, O, h1, h2, h3, h4, h5, h6, h7, h8, h9⟩ := h
  intro l hl
  rcases (h1 l).1 hl with h | h | h
  · omega
  · omega
  · subst h; exact h5.low
theorem unl_client {E L mk : Nat} {xs : List Nat} {env1 : Env} (e3 : env1 3 = ptr E) (hl : xs.length ≤ 50000) :
    Client cx (.func (.yield L) #[] #[]) (kv xs) (unl xs).length (fun k => UnlI E L mk xs env1 k) (fun _ _ => False) := by
  have hul := unl_le _ xs rfl
  refine ⟨fun h => h.stable, fun h => h.elim, fun h => h.low, fun h => h.elim, ?_⟩
  rintro k H Ok hk ⟨sv, O, h1, h2, h3, h4, h5, h6, h7, h8, h9⟩
  have hgd : (unl xs).getD k 0 = (unl xs)[k] := by rw [List.getD_eq_getElem?_getD, List.getElem?_eq_getElem hk]; rfl
  have htk : (unl xs).take (k + 1) = (unl xs).take k ++ [(unl xs)[k]] := by rw [List.take_add_one, List.getElem?_eq_getElem hk]; rfl
  have htl : ((unl xs).take k).length = k := by simp; omega
  unfold kv
  rw [hgd]
  generalize (unl xs)[k] = x at htk
  refine yield_go h4 rfl c15_0as_c_code c15_0bd_c_code c15_0as_c_ok c15_0bd_c_ok ?_
  simp [c15_0as_c, bindAll, h4]
  generalize hHb : upd H.get L (.loop env1 14 #[7, 8] c15_0as c15_0bd .busy none mk) = gb
  have hgb : ∀ y, y ≠ L → gb y = H.get y := fun y hy => by rw [← hHb]; simp [hy]
  have hgl : gb L = some (.loop env1 14 #[7, 8] c15_0as c15_0bd .busy none mk) := by rw [← hHb]; simp
  have hrow : Row 39 true ⟨H.next, gb⟩ sv (gcells ((unl xs).take k)) O := h5.same (fun o ho => hgb o (h6 o ho).2) (Nat.le_refl _)
  obtain ⟨H2, hap, hn2, hget, hrow2, hkeep⟩ := row_append el22 hrow (by simp; omega) (v := u64 (x : Int)) rfl
  simp at hn2
  have hl2 : ∀ y, y < H.next → O ≠ some y → H2.get y = gb y := fun y h1 h2 => hkeep y h1 h2
  have oE : O ≠ some E := fun e => (h6 _ e).1 rfl
  have oL : O ≠ some L := fun e => (h6 _ e).2 rfl
  have hsv := hrow.isSlice
  obtain ⟨ra, rfl, _⟩ := hsv
  have hlen : (gcells ((unl xs).take k)).length = k := by simp; omega
  simp only [hlen] at hap hrow2 h3
  simp [c15_0bd_c, e3, hgb, h9, h3, hap, hl2 E h7 oE, hl2 L h8 oL, hgl, h9.symm, Ex.isNormal, Ex.jump]
  refine ⟨fun y => y = E ∨ y = L ∨ some (H.next + 1) = some y, ?_, ⟨by simp; omega, fun l hl hn => ?_⟩, ?_⟩
  · intro l hl
    rcases hl with h | h | h
    · exact .inl ((h1 l).2 (by simp [h]))
    · exact .inl ((h1 l).2 (by simp [h]))
    · right; cases h; omega
  · have nE : ¬ l = E := fun e => hn ((h1 l).2 (by simp [e]))
    have nL : ¬ l = L := fun e => hn ((h1 l).2 (by simp [e]))
    have nO : O ≠ some l := fun e => hn ((h1 l).2 (by simp [e]))
    simp [nE, nL, hl2 l hl nO, hgb l nL]
  · refine ⟨sl (H.next + 1) 0 (k + 1), some (H.next + 1), fun y => Iff.rfl, by omega, by simp [h9], by simp, ?_, ?_, by simp; omega, by simp; omega, h9⟩
    · rw [htk]
      have : gcells ((unl xs).take k ++ [x]) = gcells ((unl xs).take k) ++ [u64 (x : Int)] := by simp [gcells]
      rw [this]
      refine hrow2.same (fun o e => ?_) (by simp)
      cases e
      simp [show ¬ H.next + 1 = E by omega, show ¬ H.next + 1 = L by omega]
    · intro o e
      cases e
      omega
/-- trace.Unlike -/
theorem unlike_run {w : Bool} {sv : Value} {xs : List Nat} {O : Option Nat} (h : Row 39 w H sv (gcells xs) O) (hl : xs.length ≤ 50000) : CallR cx 15 #[sv] H (fun v H' => Fresh H H' ∧ ∃ O', Row 39 true H' v (gcells (unl xs)) O' ∧ ∀ x, O' = some x → H.next ≤ x) := by
  have hs := h.isSlice
  obtain ⟨rx, rfl, _⟩ := hs
  simp only [List.length_map] at h ⊢
  refine wk15 (by simp) ?_
  unfold c15
  refine aw_cut (fun t => t.env 0 = .slice rx xs.length xs.length ∧ t.ds = [] ∧ t.H = H) (by simp) ?_
  rintro ⟨env, H1, ds⟩ ⟨e0, eds, hH⟩
  simp only at e0 eds hH
  subst hH
  refine aw_cut (fun t => t.env 0 = .slice rx xs.length xs.length ∧ t.env 3 = ptr H1.next ∧ t.ds = [] ∧ t.H = ⟨H1.next + 1, upd H1.get H1.next (.cells [.slice none 0 0] 22 true 0)⟩) (by simp [e0, alloc22, eds]) ?_
  clear e0 eds
  rintro ⟨env, H2, ds⟩ ⟨e0, e3, eds, hH⟩
  simp only at e0 e3 eds hH
  have f2 : Fresh H1 H2 := by rw [hH]; exact Fresh.ofNew
  have r2 : H2.get H1.next = some (.cells [.slice none 0 0] 22 true 0) := by rw [hH]; simp
  have l2 : H1.next < H2.next := by rw [hH]; simp
  clear hH
  have h2 := h.keep f2 (fun _ _ => id)
  refine aw_cut (fun t => t.env 3 = ptr H1.next ∧ (∃ mk, t.ds = [mk] ∧ t.H.get mk = some .mark ∧ H1.next < mk) ∧ Fresh H1 t.H ∧ ∃ sv O', t.H.get H1.next = some (.cells [sv] 22 true 0) ∧ Row 39 true t.H sv (gcells (unl xs)) O' ∧ (∀ x, O' = some x → H1.next < x) ∧ ∀ mk, t.ds = [mk] → O' ≠ some mk) ?_ ?_
  · simp [e0]
    refine callV_R cb14 (often_run h2 hl) ?_
    rintro _ H3 ⟨f3, c, rfl, hof⟩
    simp
    generalize henv : put _ 14 (some 6) _ = env1
    have g3 : env1 3 = ptr H1.next := by rw [← henv]; simp [e3]
    have g6 : env1 6 = .func (.func 34) #[] #[ptr c] := by rw [← henv]; simp
    clear henv
    have r3 : H3.get H1.next = some (.cells [.slice none 0 0] 22 true 0) := by rw [f3.get l2, r2]
    have l3 : H1.next < H3.next := Nat.lt_of_lt_of_le l2 f3.1
    have fb : Fresh H3 ⟨H3.next + 2, upd (upd H3.get H3.next .mark) (H3.next + 1) (.loop env1 14 #[7, 8] c15_0as c15_0bd .ready none H3.next)⟩ := ⟨by simp, fun l hl _ => by
      simp [show ¬ l = H3.next + 1 by omega, show ¬ l = H3.next by omega]⟩
    refine range_go (f := 34) (fs := #[]) (cs := #[ptr c]) g6 (by kernel_rfl) (R := _) (often1_run (c := c) (B := H2.next) (O := fun x => x = H1.next ∨ x = H3.next + 1 ∨ (none : Option Nat) = some x) (unl_client (E := H1.next) (L := H3.next + 1) (mk := H3.next) (env1 := env1) g3 hl) (hof.fresh fb) hl ?_) ?_
    · refine ⟨.slice none 0 0, none, fun y => Iff.rfl, by omega, ?_, by simp, (by simp; exact Row.nil), (fun o h => by cases h), (by simp; omega), (by simp), by omega⟩
      simp [show ¬ H1.next = H3.next + 1 by omega, show ¬ H1.next = H3.next by omega, r3]
    · rintro v H4 ⟨rfl, O', hO', hk, hcase⟩
      rcases hcase with ⟨sv, O4, q1, q2, q3, q4, q5, q6, q7, q8, q9⟩ | hF
      case inr => exact hF.elim
      rw [List.take_length] at q5
      show withLoop (H4.get (H3.next + 1)) _
      rw [q4, withLoop_some]
      have hk1 := hk.1
      simp at hk1
      have hmk : H4.get H3.next = some .mark := by
        rw [hk.get (by simp) (by simp; omega)]
        simp
      have hO4 : ∀ x, O4 = some x → H1.next < x ∧ x ≠ H3.next := by
        intro x hx
        have h1 := (q1 x).2 (.inr (.inr hx))
        have h6 := q6 x hx
        rcases hO' x h1 with h | h
        · rcases h with h | h | h
          · exact absurd h h6.1
          · exact absurd h h6.2
          · cases h
        · simp at h; omega
      refine ⟨by simp, .normal, rfl, ?_⟩
      simp [g3, show ¬ H3.next = H3.next + 1 by omega, hmk, eds, l3]
      refine ⟨⟨by simp; omega, fun l hl _ => ?_⟩, sv, ?_, O4, ?_, fun x hx => (hO4 x hx).1, fun e => (hO4 _ e).2 rfl⟩
      · have n1 : ¬ l = H3.next + 1 := by omega
        have n2 : ¬ l = H3.next := by omega
        simp [n1]
        rw [hk.get (by simp; omega) (by simp; omega)]
        simp [n1, n2]
        rw [f3.get (by omega), f2.get hl]
      · simp [show ¬ H1.next = H3.next + 1 by omega, q3]
      · exact q5.same (fun o ho => by simp [(q6 o ho).2]) (Nat.le_refl _)
  clear e0 e3 eds
  rintro ⟨env, H3, ds⟩ ⟨e3, ⟨mk, eds, hmk, hmk1⟩, f3, sv, O', r3, hrow, hO, hOm⟩
  simp only at e3 eds hmk f3 r3 hrow hOm
  have hOm' := hOm mk eds
  simp [e3, r3, eds, takeMarks, hmk]
  refine ⟨⟨f3.1, fun l hl _ => ?_⟩, O', hrow.same (fun o ho => ?_) (Nat.le_refl _), fun x hx => by have := hO x hx; omega⟩
  · have n1 : ¬ l = mk := by omega
    simp [n1]
    exact f3.get hl
  · have n1 : ¬ o = mk := fun e => hOm' (by rw [← e]; exact ho)
    simp [n1]
end Go.Proofs.YtmeaeafceankkaaDoor.C

/- A gauge's Streak, over the small heap. Own text of this session. -/
import Derived.Test.YtjeeokehnjnkjaaStrk
set_option linter.unusedVariables false
set_option linter.unusedSimpArgs false
set_option maxRecDepth 4000
set_option maxHeartbeats 4000000
namespace Go.Proofs.Ytjeeokehnjnkjaa.C
open Go Go.RowKit Go.Proofs.YtjeeokehnjnkjaaA
variable {H : AH}
theorem alloc3 (H : AH) : aAlloc Try.prog 3 H = some (ptr H.next, ⟨H.next + 1, upd H.get H.next (.cells [i64 0] 3 true 0)⟩) := by kernel_rfl
theorem newest_run {H : AH} {a : Option Addr} : CallR cx 23 #[.pointer a] H (fun v H' => v = .func (.func 30) #[] #[ptr H.next] ∧ H' = ⟨H.next + 1, upd H.get H.next (.cells [.pointer a] 23 true 0)⟩) := by
  refine wk23 (by simp) ?_
  simp [c23, AH.new]
theorem rev_at (bs : List Bool) (w : Nat) {k : Nat} (hk : k < min bs.length w) : (lastB bs w).reverse[k]? = some (bs.getD (bs.length - 1 - k) false) := by
  have hl := lastB_len bs w
  rw [List.getElem?_reverse (by omega), hl]
  have := lastB_at bs w (k := min bs.length w - 1 - k) (by omega)
  rw [this]
  congr 2
  omega
/-- newest's function -/
theorem newest1_run {H0 : AH} {O : Nat → Prop} {g : Value} {gq S W w b : Nat} {bs : List Bool} {I : Nat → AH → (Nat → Prop) → Prop} {K : AH → (Nat → Prop) → Prop}
    (hc : Client cx g (fun k => #[((bcells (lastB bs w).reverse)[k]?).getD default]) (min bs.length w) I K) (hG : IsG H0 gq S W w bs) (hbl : b < H0.next) (hb : H0.get b = some (.cells [ptr gq] 23 true 0)) (h0 : I 0 H0 O) (hOb : ¬ O b) (hOg : ∀ l, Ft gq S W l → ¬ O l) :
    CallR cx 30 #[g, ptr b] H0 (fun v H' => v = .tuple #[] ∧ TellEnd (min bs.length w) I K H0 O H') := by
  have hlow := hc.low h0
  have hfew := hG.few
  have hGl := hG.low
  have hat := @rev_at bs w
  obtain ⟨m, hm⟩ : ∃ m, m = min bs.length w := ⟨_, rfl⟩
  rw [← hm] at hc hat ⊢
  have hmb : m ≤ bs.length := by omega
  have hmw : m ≤ w := by omega
  generalize (lastB bs w).reverse = xs at hc hat
  refine wk30 (by simp) ?_
  simp [c30, hb]
  refine callV_R cb8 (glen_run hG) ?_
  rintro _ H1 ⟨rfl, hH⟩
  subst hH
  rw [← hm]
  simp
  refine aw_loop_to m (fun k s => s.env 0 = g ∧ s.env 1 = ptr b ∧ s.env 5 = i64 m ∧ s.env 6 = i64 k ∧ s.ds = [] ∧ ∃ Ok, I k s.H Ok ∧ (∀ l, Ok l → O l ∨ H1.next ≤ l) ∧ Keep O H1 s.H) ?_ ?_ ?_
  · rintro k ⟨env, H2, ds⟩ hk ⟨f0, f1, f5, f6, fds, Ok, hik, hok, hkeep⟩
    simp only at f0 f1 f5 f6 fds hik hkeep
    have hkN : (k : Int) < m := by omega
    have hw : IntKind.i64.wrap ((k : Int) + 1) = (k : Int) + 1 := w64 (by omega)
    have hx := hat hk
    have hb2 : H2.get b = some (.cells [ptr gq] 23 true 0) := by rw [hkeep.get hbl hOb, hb]
    have hG2 : IsG H2 gq S W w bs := hG.keep hkeep hOg
    have hback := back_run hG2 (i := k) (by omega) (by omega)
    generalize bs.getD (bs.length - 1 - k) false = x at hx hback
    have hxc : (bcells xs)[k]? = some (.bool x) := by simp [hx]
    simp [f0, f1, f5, f6, hk, hb2]
    refine callV_R cb27 hback ?_
    rintro _ H3 ⟨rfl, hH⟩
    subst hH
    simp [f0]
    have hst := hc.step hk hik
    simp only [hxc, Option.getD_some] at hst
    obtain ⟨v, H4, hcall, O', hO', hk', hv⟩ := callV_of hst
    have hok' : ∀ l, O' l → O l ∨ H1.next ≤ l := fun l hl => by
      rcases hO' l hl with h | h
      · exact hok l h
      · exact .inr (Nat.le_trans hkeep.1 h)
    have hkp : Keep O H1 H4 := ⟨Nat.le_trans hkeep.1 hk'.1, fun l hl hn => by
      rw [hk'.get (Nat.lt_of_lt_of_le hl hkeep.1) (fun h => by rcases hok l h with h | h; exact hn h; omega), hkeep.get hl hn]⟩
    refine callV_G hcall ?_
    rcases hv with ⟨rfl, hv⟩ | ⟨rfl, hv⟩
    · simp [f0, f1, f5, f6, hw, fds]
      exact ⟨O', hv, hok', hkp⟩
    · simp [f0, f1, f5, f6, fds]
      exact ⟨O', hok', hkp, .inr hv⟩
  · rintro ⟨env, H2, ds⟩ ⟨f0, f1, f5, f6, fds, Ok, hik, hok, hkeep⟩
    simp only at f0 f1 f5 f6 fds hik hkeep
    simp [f5, f6, fds]
    exact ⟨Ok, hok, hkeep, .inl hik⟩
  · simp
    exact ⟨O, h0, fun l hl => .inl hl, Keep.refl⟩
/-- what Streak's loop keeps -/
def StreakI (n : Nat) (rv : List Bool) (env1 : Env) (st : LoopState) (pd : Option Code) (k : Nat) (H : AH) (Ok : Nat → Prop) : Prop :=
  (∀ x, Ok x ↔ (x = n ∨ x = n + 3)) ∧ k ≤ rv.length ∧ (∀ j, j < k → rv[j]? = some true) ∧ H.get n = some (.cells [i64 k] 3 true 0) ∧ H.get (n + 3) = some (.loop env1 13 #[7] c11_0as c11_0bd st pd (n + 2)) ∧ n + 4 ≤ H.next
theorem StreakI.stable {n : Nat} {rv : List Bool} {env1 : Env} {st : LoopState} {pd : Option Code} {k : Nat} {H H' : AH} {Ok : Nat → Prop} (h : StreakI n rv env1 st pd k H Ok) (hk : ∀ l, Ok l → H'.get l = H.get l) (hn : H.next ≤ H'.next) : StreakI n rv env1 st pd k H' Ok := by
  obtain ⟨h1, h2, h3, h4, h5, h6⟩ := h
  exact ⟨h1, h2, h3, by rw [hk _ ((h1 _).2 (by simp)), h4], by rw [hk _ ((h1 _).2 (by simp)), h5], by omega⟩
theorem StreakI.low {n : Nat} {rv : List Bool} {env1 : Env} {st : LoopState} {pd : Option Code} {k : Nat} {H : AH} {Ok : Nat → Prop} (h : StreakI n rv env1 st pd k H Ok) : ∀ l, Ok l → l < H.next := by
  obtain ⟨h1, h2, h3, h4, h5, h6⟩ := h
  intro l hl
  rcases (h1 l).1 hl with h | h <;> omega
theorem streak_client {n : Nat} {rv : List Bool} {env1 : Env} {m : Nat} (hm : rv.length = m) (e3 : env1 3 = ptr n) (hsm : rv.length ≤ 1000000) :
    Client cx (.func (.yield (n + 3)) #[] #[]) (fun k => #[((bcells rv)[k]?).getD default]) m (fun k => StreakI n rv env1 .ready none k) (fun H Ok => ∃ k, StreakI n rv env1 .done (some (.exit 0)) k H Ok ∧ rv[k]? = some false) := by
  subst hm
  refine ⟨fun h => h.stable, ?_, fun h => h.low, ?_, ?_⟩
  · rintro H H' O ⟨k, h, hx⟩ h1 h2
    exact ⟨k, h.stable h1 h2, hx⟩
  · rintro H O ⟨k, h, hx⟩
    exact h.low
  rintro k H Ok hk ⟨h1, h2, h3, h4, h5, h6⟩
  have hx : (bcells rv)[k]? = some (.bool rv[k]) := by simp [hk]
  have hx0 : rv[k]? = some rv[k] := List.getElem?_eq_getElem hk
  generalize rv[k] = x at hx hx0
  refine yield_go h5 rfl c11_0as_c_code c11_0bd_c_code c11_0as_c_ok c11_0bd_c_ok ?_
  rw [hx]
  simp [c11_0as_c, bindAll, h5]
  generalize hHb : upd H.get (n + 3) (.loop env1 13 #[7] c11_0as c11_0bd .busy none (n + 2)) = gb
  have hgb : ∀ y, y ≠ n + 3 → gb y = H.get y := fun y hy => by rw [← hHb]; simp [hy]
  have hgl : gb (n + 3) = some (.loop env1 13 #[7] c11_0as c11_0bd .busy none (n + 2)) := by rw [← hHb]; simp
  cases x with
  | false =>
    simp [c11_0bd_c, e3, hgb, h4, hgl, Ex.isNormal, Ex.jump]
    refine ⟨Ok, fun l hl => .inl hl, ⟨Nat.le_refl _, fun l hl hn => ?_⟩, k, ⟨h1, h2, h3, ?_, by simp, h6⟩, hx0⟩
    · have : ¬ l = n + 3 := fun e => hn ((h1 l).2 (by simp [e]))
      simp [this, hgb]
    · simp [hgb, h4]
  | true =>
    have hw := w64 (n := (k : Int) + 1) (by omega)
    simp [c11_0bd_c, e3, hgb, h4, hgl, hw, Ex.isNormal, Ex.jump]
    refine ⟨Ok, fun l hl => .inl hl, ⟨Nat.le_refl _, fun l hl hn => ?_⟩, h1, by omega, fun j hj => ?_, by simp, by simp, h6⟩
    · have n1 : ¬ l = n + 3 := fun e => hn ((h1 l).2 (by simp [e]))
      have n2 : ¬ l = n := fun e => hn ((h1 l).2 (by simp [e]))
      simp [n1, n2, hgb]
    · by_cases e : j = k
      · subst e; exact hx0
      · exact h3 j (by omega)
/-- Streak -/
theorem streak_run {H0 : AH} {g S W w : Nat} {bs : List Bool} (hq : IsG H0 g S W w bs) : CallR cx 11 #[ptr g] H0 (fun v H' => v = i64 ((strk (lastB bs w) : Nat) : Int) ∧ Fresh H0 H') := by
  have hfew := hq.few
  have hxl := lastB_len bs w
  have hlow := hq.low
  refine wk11 (by simp) ?_
  simp [c11, alloc3]
  rw [upd_twice]
  refine callV_R cb23 newest_run ?_
  rintro _ _ ⟨rfl, rfl⟩
  simp
  generalize henv : put _ 13 (some 6) _ = env1
  have e3 : env1 3 = ptr H0.next := by rw [← henv]; simp
  have e6 : env1 6 = .func (.func 30) #[] #[ptr (H0.next + 1)] := by rw [← henv]; simp
  clear henv
  have hfr : ∀ b, Fresh H0 ⟨H0.next + 1 + 1 + 2, upd (upd (upd (upd H0.get H0.next (.cells [i64 0] 3 true 0)) (H0.next + 1) (.cells [ptr g] 23 true 0)) (H0.next + 1 + 1) .mark) (H0.next + 1 + 1 + 1) b⟩ := fun b => ⟨by simp; omega, fun l hl _ => by
    simp [show ¬ l = H0.next + 1 + 1 + 1 by omega, show ¬ l = H0.next + 1 + 1 by omega, show ¬ l = H0.next + 1 by omega, show ¬ l = H0.next by omega]⟩
  refine range_go (f := 30) (fs := #[]) (cs := #[ptr (H0.next + 1)]) e6 (by kernel_rfl) (R := _) (newest1_run (gq := g) (S := S) (W := W) (w := w) (bs := bs) (b := H0.next + 1) (O := fun x => x = H0.next ∨ x = H0.next + 3)
    (streak_client (n := H0.next) (rv := (lastB bs w).reverse) (env1 := env1) (by rw [List.length_reverse]; exact hxl) e3 (by simp; omega)) ?_ ?_ ?_ ?_ ?_ ?_) ?_
  · exact hq.fresh (hfr _)
  · simp
  · simp
  · refine ⟨fun y => Iff.rfl, by omega, fun j hj => by omega, ?_, ?_, by simp⟩
    all_goals simp [Nat.add_assoc]
  · omega
  · intro l hf h
    have := hlow l hf
    omega
  · rintro v H3 ⟨rfl, O', hO', hk, hcase⟩
    have hfin : ∃ e : Ex, (e = .normal ∨ e = .exit 0) ∧ ∃ st, st ≠ .busy ∧ StreakI H0.next (lastB bs w).reverse env1 st e.jump (strk (lastB bs w)) H3 O' := by
      rcases hcase with h | ⟨k, h, hx⟩
      · have : strk (lastB bs w) = min bs.length w := lead_all _ _ h.2.2.1 (.inr (by simp; omega))
        rw [this]
        exact ⟨.normal, .inl rfl, _, by simp, h⟩
      · have : strk (lastB bs w) = k := lead_all _ _ h.2.2.1 (.inl hx)
        rw [this]
        exact ⟨.exit 0, .inr rfl, _, by simp, h⟩
    clear hcase
    obtain ⟨e, he, st, hst, h1, h2, h3, h4, h5, h6⟩ := hfin
    show withLoop (H3.get (H0.next + 3)) _
    rw [h5, withLoop_some]
    refine ⟨hst, e, rfl, ?_⟩
    have hmk : H3.get (H0.next + 2) = some .mark := by
      rw [hk.get (by simp) (by omega)]
      simp [Nat.add_assoc]
    have old : ∀ l, l < H0.next → H3.get l = H0.get l := by
      intro l hl
      rw [hk.get (by simp; omega) (by omega)]
      simp [show ¬ l = H0.next + 1 + 1 + 1 by omega, show ¬ l = H0.next + 1 + 1 by omega, show ¬ l = H0.next + 1 by omega, show ¬ l = H0.next by omega]
    rcases he with rfl | rfl
    all_goals
      simp [e3, h4, takeMarks, hmk, Nat.add_assoc]
      refine ⟨by simp; omega, fun l hl _ => ?_⟩
      simp [show ¬ l = H0.next + 2 by omega, show ¬ l = H0.next + 3 by omega, old l hl]
end Go.Proofs.Ytjeeokehnjnkjaa.C

import Derived.Test.YtfbepkamckpofaaQ2
set_option linter.unusedVariables false
set_option linter.unusedSimpArgs false
set_option maxRecDepth 4000
set_option maxHeartbeats 2000000
namespace Go.Proofs.Ytfbepkamckpofaa.C
open Go Go.RowKit Go.Proofs.YtfbepkamckpofaaA

/-- what told's loop keeps -/
def ToldI (n : Nat) (most : Nat) (xs : List Value) (env1 : Env) (st : LoopState) (pd : Option Code) (k : Nat) (H : AH) (Ok : Nat → Prop) : Prop :=
  ∃ sv O, (∀ x, Ok x ↔ (x = n ∨ x = n + 1 ∨ x = n + 2 ∨ x = n + 4 ∨ x = n + 6 ∨ O = some x)) ∧ k ≤ most ∧ k ≤ xs.length ∧ H.get n = some (.cells [i64 most] 3 true 0) ∧ H.get (n + 1) = some (.cells [.slice none 0 0] 32 true 0) ∧ H.get (n + 2) = some (.cells [.bool false] 4 true 0) ∧
    H.get (n + 4) = some (.cells [sv] 32 true 0) ∧ H.get (n + 6) = some (.loop env1 30 #[15, 16] c16_0as c16_0bd st pd (n + 5)) ∧ Row 2 true H sv (xs.take k) O ∧ (∀ o, O = some o → n + 7 ≤ o) ∧ n + 7 ≤ H.next
theorem ToldI.stable {n most : Nat} {xs : List Value} {env1 : Env} {st : LoopState} {pd : Option Code} {k : Nat} {H H' : AH} {Ok : Nat → Prop} (h : ToldI n most xs env1 st pd k H Ok) (hk : ∀ l, Ok l → H'.get l = H.get l) (hn : H.next ≤ H'.next) : ToldI n most xs env1 st pd k H' Ok := by
  obtain ⟨sv, O, h1, h2, h2', h3, h4, h5, h6, h7, h8, h9, h10⟩ := h
  refine ⟨sv, O, h1, h2, h2', ?_, ?_, ?_, ?_, ?_, h8.same (fun l hl => hk l ((h1 l).2 (by simp [hl]))) hn, h9, by omega⟩
  · rw [hk _ ((h1 _).2 (by simp)), h3]
  · rw [hk _ ((h1 _).2 (by simp)), h4]
  · rw [hk _ ((h1 _).2 (by simp)), h5]
  · rw [hk _ ((h1 _).2 (by simp)), h6]
  · rw [hk _ ((h1 _).2 (by simp)), h7]
theorem ToldI.low {n most : Nat} {xs : List Value} {env1 : Env} {st : LoopState} {pd : Option Code} {k : Nat} {H : AH} {Ok : Nat → Prop} (h : ToldI n most xs env1 st pd k H Ok) : ∀ l, Ok l → l < H.next := by
  obtain ⟨sv, O, h1, h2, h2', h3, h4, h5, h6, h7, h8, h9, h10⟩ := h
  intro l hl
  rcases (h1 l).1 hl with h | h | h | h | h | h
  all_goals try omega
  subst h
  exact h8.low
theorem told_client {n most : Nat} {xs : List Value} {env1 : Env} (e3 : env1 3 = ptr n) (e4 : env1 4 = ptr (n + 1)) (e5 : env1 5 = ptr (n + 2)) (e7 : env1 7 = ptr (n + 4)) (hsm : xs.length ≤ 65536) (hcell : ∀ x ∈ xs, isCell x = true) :
    Client cx (.func (.yield (n + 6)) #[] #[]) (fun k => #[i64 k, (xs[k]?).getD default]) xs.length (fun k => ToldI n most xs env1 .ready none k) (ToldI n most xs env1 .done (some (.exit 0)) most) := by
  refine ⟨fun h => h.stable, fun h => h.stable, fun h => h.low, fun h => h.low, ?_⟩
  rintro k H Ok hk ⟨sv, O, h1, h2, h2', h3, h4, h5, h6, h7, h8, h9, h10⟩
  obtain ⟨x, hx⟩ : ∃ x, xs[k]? = some x := ⟨xs[k], List.getElem?_eq_getElem (by omega)⟩
  have hxc : isCell x = true := hcell x (List.mem_of_getElem? hx)
  have hlen : (xs.take k).length = k := by simp; omega
  obtain ⟨ra, hra, hra2⟩ := h8.isSlice
  subst hra
  simp only [hlen] at h6 h8
  refine yield_go h7 rfl c16_0as_c_code c16_0bd_c_code c16_0as_c_ok c16_0bd_c_ok ?_
  have hne : ∀ y, y ≠ n + 6 → ∀ b, (upd H.get (n + 6) b) y = H.get y := fun y hy b => by simp [hy]
  simp [c16_0as_c, bindAll, h7, hx]
  generalize hHb : upd H.get (n + 6) (.loop env1 30 #[15, 16] c16_0as c16_0bd .busy none (n + 5)) = gb
  have hgb : ∀ y, y ≠ n + 6 → gb y = H.get y := fun y hy => by rw [← hHb]; simp [hy]
  have hgl : gb (n + 6) = some (.loop env1 30 #[15, 16] c16_0as c16_0bd .busy none (n + 5)) := by rw [← hHb]; simp
  by_cases hm : most ≤ k
  · obtain rfl : k = most := by omega
    simp [c16_0bd_c, e3, e4, e5, e7, hgb, h3, h4, h5, h6, hgl, Ex.isNormal, Ex.jump]
    refine ⟨Ok, fun l hl => .inl hl, ⟨Nat.le_refl _, fun l hl hn => ?_⟩, _, O, h1, Nat.le_refl _, h2', ?_, ?_, ?_, ?_, by simp, h8.same (fun o ho => ?_) (Nat.le_refl _), h9, h10⟩
    · have : ¬ l = n + 6 := fun e => hn ((h1 l).2 (by simp [e]))
      simp [this, hgb]
    · simp [hgb, h3]
    · simp [hgb, h4]
    · simp [hgb, h5]
    · simp [hgb, h6]
    · have := h9 o ho
      simp [show ¬ o = n + 6 by omega, hgb o (by omega)]
  · have hmk : ¬ (most : Int) ≤ k := by omega
    have hrow : Row 2 true ⟨H.next, gb⟩ (.slice ra k k) (xs.take k) O := h8.same (fun o ho => hgb o (by have := h9 o ho; omega)) (Nat.le_refl _)
    obtain ⟨H2, hap, hn2, hget, hrow2, hkeep⟩ := row_append el32 hrow (by omega) hxc
    have hl2 : ∀ y, y < H.next → O ≠ some y → H2.get y = gb y := fun y h1 h2 => hkeep y h1 h2
    have hOn : ∀ y, y < n + 7 → O ≠ some y := fun y hy e => by have := h9 y e; omega
    simp only [hlen] at hap hrow2
    simp [c16_0bd_c, e3, e4, e5, e7, hgb, h3, h4, h5, h6, hgl, hmk, hxc, hap, hl2 (n + 4) (by omega) (hOn _ (by omega)), hl2 (n + 6) (by omega) (hOn _ (by omega)), Ex.isNormal, Ex.jump]
    have htk : xs.take (k + 1) = xs.take k ++ [x] := by rw [List.take_add_one, hx]; rfl
    simp at hn2
    refine ⟨fun y => y = n ∨ y = n + 1 ∨ y = n + 2 ∨ y = n + 4 ∨ y = n + 6 ∨ some (H.next + 1) = some y, ?_, ⟨by simp; omega, ?_⟩, sl (H.next + 1) 0 (k + 1), some (H.next + 1), fun y => Iff.rfl, by omega, by omega, ?_, ?_, ?_, by simp, by simp, ?_, fun o e => by cases e; omega, by simp; omega⟩
    · intro l hl
      rcases hl with h | h | h | h | h | h
      · exact .inl ((h1 l).2 (by simp [h]))
      · exact .inl ((h1 l).2 (by simp [h]))
      · exact .inl ((h1 l).2 (by simp [h]))
      · exact .inl ((h1 l).2 (by simp [h]))
      · exact .inl ((h1 l).2 (by simp [h]))
      · right; cases h; omega
    · intro l hl hn
      have h6' : ¬ l = n + 6 := fun e => hn ((h1 l).2 (by simp [e]))
      have h4' : ¬ l = n + 4 := fun e => hn ((h1 l).2 (by simp [e]))
      have hO : O ≠ some l := fun e => hn ((h1 l).2 (by simp [e]))
      simp [h6', h4', hl2 l hl hO, hgb l h6']
    · simp [hl2 n (by omega) (hOn _ (by omega)), hgb, h3]
    · simp [hl2 (n + 1) (by omega) (hOn _ (by omega)), hgb, h4]
    · simp [hl2 (n + 2) (by omega) (hOn _ (by omega)), hgb, h5]
    · rw [htk]
      refine hrow2.same (fun o e => ?_) (by simp)
      cases e
      simp [show ¬ H.next = n + 5 by omega, show ¬ H.next = n + 3 by omega]

/-- told: the first things, as far as one asks -/
theorem told_run {H0 : AH} {a0 : Option Addr} {xs : List Value} {most : Nat} (hq : QV H0 (.pointer a0) xs) :
    CallR cx 16 #[.pointer a0, i64 most] H0 (fun v H' => ∃ sv O, v = .tuple #[sv, .bool true] ∧ Row 2 true H' sv (xs.take most) O ∧ (∀ o, O = some o → H0.next ≤ o) ∧ Fresh H0 H') := by
  have hsm := hq.small
  have hcell := hq.cell
  refine wk16 (by simp) ?_
  simp [c16, alloc32, alloc4]
  refine callV_R cb20 all_run ?_
  rintro _ _ ⟨rfl, rfl⟩
  simp [alloc32]
  generalize henv : put _ 30 (some 14) _ = env1
  have e3 : env1 3 = ptr H0.next := by rw [← henv]; simp
  have e4 : env1 4 = ptr (H0.next + 1) := by rw [← henv]; simp
  have e5 : env1 5 = ptr (H0.next + 2) := by rw [← henv]; simp
  have e7 : env1 7 = ptr (H0.next + 4) := by rw [← henv]; simp
  have e14 : env1 14 = .func (.func 26) #[] #[ptr (H0.next + 3)] := by rw [← henv]; simp
  clear henv
  refine range_go (f := 26) (fs := #[]) (cs := #[ptr (H0.next + 3)]) e14 (by kernel_rfl) (R := _) (all1_run (a0 := a0) (xs := xs) (b := H0.next + 3) (O := fun x => x = H0.next ∨ x = H0.next + 1 ∨ x = H0.next + 2 ∨ x = H0.next + 4 ∨ x = H0.next + 6 ∨ (none : Option Nat) = some x)
    (told_client (n := H0.next) (most := most) (env1 := env1) e3 e4 e5 e7 hsm hcell) ?_ ?_ ?_ ?_) ?_
  · refine hq.fresh ⟨by simp; omega, fun l hl _ => ?_⟩
    simp [show ¬ l = H0.next + 1 + 1 + 1 + 1 + 1 + 1 by omega, show ¬ l = H0.next + 1 + 1 + 1 + 1 + 1 by omega, show ¬ l = H0.next + 1 + 1 + 1 + 1 by omega, show ¬ l = H0.next + 1 + 1 + 1 by omega, show ¬ l = H0.next + 1 + 1 by omega, show ¬ l = H0.next + 1 by omega, show ¬ l = H0.next by omega]
  · simp
  · simp
  · refine ⟨.slice none 0 0, none, fun y => Iff.rfl, by omega, by omega, ?_, ?_, ?_, ?_, by simp, ⟨⟨none, rfl, .inl rfl⟩, by simp⟩, fun o h => by (cases h), by simp⟩
    all_goals simp [Nat.add_assoc]
  · rintro v H3 ⟨rfl, O', hO', hk, hcase⟩
    have hfin : ∃ e : Ex, (e = .normal ∨ e = .exit 0) ∧ ∃ st, st ≠ .busy ∧ ∃ k, xs.take k = xs.take most ∧ ToldI H0.next most xs env1 st e.jump k H3 O' := by
      rcases hcase with h | h
      · refine ⟨.normal, .inl rfl, _, by simp, _, ?_, h⟩
        obtain ⟨_, _, _, h2, _⟩ := h
        rw [List.take_length, List.take_of_length_le h2]
      · exact ⟨.exit 0, .inr rfl, _, by simp, _, rfl, h⟩
    clear hcase
    obtain ⟨e, he, st, hst, k, hkt, sv, O, h1, h2, h2', h3, h4, h5, h6, h7, h8, h9, h10⟩ := hfin
    rw [hkt] at h8
    show withLoop (H3.get (H0.next + 6)) _
    rw [h7, withLoop_some]
    refine ⟨hst, e, rfl, ?_⟩
    have hmk : H3.get (H0.next + 5) = some .mark := by
      rw [hk.get (by simp) (by simp)]
      simp [Nat.add_assoc]
    obtain ⟨ra, hra, hra2⟩ := h8.isSlice
    subst hra
    have hk1 := hk.1
    simp at hk1
    have fin : ∀ Q : Ex → St → Prop, Q .normal = Q .normal := fun _ => rfl
    have old : ∀ l, l < H0.next → H3.get l = H0.get l := by
      intro l hl
      rw [hk.get (by simp; omega) (by simp; omega)]
      simp [show ¬ l = H0.next + 1 + 1 + 1 + 1 + 1 + 1 by omega, show ¬ l = H0.next + 1 + 1 + 1 + 1 + 1 by omega, show ¬ l = H0.next + 1 + 1 + 1 + 1 by omega, show ¬ l = H0.next + 1 + 1 + 1 by omega, show ¬ l = H0.next + 1 + 1 by omega, show ¬ l = H0.next + 1 by omega, show ¬ l = H0.next by omega]
    rcases he with rfl | rfl
    all_goals
      simp [e4, e5, e7, h4, h5, h6, takeMarks, hmk, Nat.add_assoc]
      simp only [List.length_take] at h8
      refine ⟨O, h8.same (fun o ho => ?_) (Nat.le_refl _), fun o ho => by have := h9 o ho; omega, ⟨by simp; omega, fun l hl _ => ?_⟩⟩
      · have := h9 o ho
        simp [show ¬ o = H0.next + 5 by omega, show ¬ o = H0.next + 2 by omega, show ¬ o = H0.next + 1 by omega, show ¬ o = H0.next + 6 by omega]
      · simp [show ¬ l = H0.next + 5 by omega, show ¬ l = H0.next + 2 by omega, show ¬ l = H0.next + 1 by omega, show ¬ l = H0.next + 6 by omega, old l hl]
end Go.Proofs.Ytfbepkamckpofaa.C

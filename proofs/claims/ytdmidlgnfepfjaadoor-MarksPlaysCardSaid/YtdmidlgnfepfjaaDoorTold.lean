/- The first numbers that a set tells; lists of numbers. Own text of this session. -/
import Derived.Test.YtdmidlgnfepfjaaDoorAll2
set_option linter.unusedVariables false
set_option linter.unusedSimpArgs false
set_option maxRecDepth 4000
set_option maxHeartbeats 4000000
namespace Go.Proofs.YtdmidlgnfepfjaaDoor.C
open Go Go.RowKit Go.Proofs.YtdmidlgnfepfjaaDoorA Go.Proofs.YtdmidlgnfepfjaaDoor.Ones
variable {H : AH}
abbrev icells (xs : List Nat) : List Value := xs.map fun (n : Nat) => i64 (n : Int)
theorem el34 : El Tryd.prog 34 3 := ⟨un34, by kernel_rfl, (Tryd.prog.info? 3).getD default, by kernel_rfl, by kernel_rfl, of_decide_eq_true (by kernel_rfl), by kernel_rfl⟩
theorem alloc34 (H : AH) : aAlloc Tryd.prog 34 H = some (ptr H.next, ⟨H.next + 1, upd H.get H.next (.cells [.slice none 0 0] 34 true 0)⟩) := by kernel_rfl
theorem alloc23 (H : AH) : aAlloc Tryd.prog 23 H = some (ptr H.next, ⟨H.next + 1, upd H.get H.next (.cells [.pointer none] 23 true 0)⟩) := by kernel_rfl
/-- what told's loop keeps -/
def ToldI (n : Nat) (most : Nat) (xs : List Nat) (env1 : Env) (st : LoopState) (pd : Option Code) (k : Nat) (H : AH) (Ok : Nat → Prop) : Prop :=
  ∃ sv O, (∀ x, Ok x ↔ (x = n ∨ x = n + 1 ∨ x = n + 4 ∨ O = some x)) ∧ k ≤ most ∧ k ≤ xs.length ∧ H.get n = some (.cells [i64 most] 3 true 0) ∧
    H.get (n + 1) = some (.cells [sv] 34 true 0) ∧ H.get (n + 4) = some (.loop env1 24 #[14] c14_0as c14_0bd st pd (n + 3)) ∧ Row 3 true H sv (icells (xs.take k)) O ∧ (∀ o, O = some o → n + 5 ≤ o) ∧ n + 5 ≤ H.next
theorem ToldI.stable {n most : Nat} {xs : List Nat} {env1 : Env} {st : LoopState} {pd : Option Code} {k : Nat} {H H' : AH} {Ok : Nat → Prop} (h : ToldI n most xs env1 st pd k H Ok) (hk : ∀ l, Ok l → H'.get l = H.get l) (hn : H.next ≤ H'.next) : ToldI n most xs env1 st pd k H' Ok := by
  obtain ⟨sv, O, h1, h2, h2', h3, h6, h7, h8, h9, h10⟩ := h
  refine ⟨sv, O, h1, h2, h2', ?_, ?_, ?_, h8.same (fun l hl => hk l ((h1 l).2 (by simp [hl]))) hn, h9, by omega⟩
  · rw [hk _ ((h1 _).2 (by simp)), h3]
  · rw [hk _ ((h1 _).2 (by simp)), h6]
  · rw [hk _ ((h1 _).2 (by simp)), h7]
theorem ToldI.low {n most : Nat} {xs : List Nat} {env1 : Env} {st : LoopState} {pd : Option Code} {k : Nat} {H : AH} {Ok : Nat → Prop} (h : ToldI n most xs env1 st pd k H Ok) : ∀ l, Ok l → l < H.next := by
  obtain ⟨sv, O, h1, h2, h2', h3, h6, h7, h8, h9, h10⟩ := h
  intro l hl
  rcases (h1 l).1 hl with h | h | h | h
  all_goals try omega
  subst h
  exact h8.low
theorem told_client {n most : Nat} {xs : List Nat} {env1 : Env} {m : Nat} (hm : xs.length = m) (e3 : env1 3 = ptr n) (e6 : env1 6 = ptr (n + 1)) (hsm : xs.length ≤ 1000000) :
    Client cx (.func (.yield (n + 4)) #[] #[]) (fun k => #[i64 ((xs[k]?).getD 0 : Nat)]) m (fun k => ToldI n most xs env1 .ready none k) (ToldI n most xs env1 .done (some (.exit 0)) most) := by
  subst hm
  refine ⟨fun h => h.stable, fun h => h.stable, fun h => h.low, fun h => h.low, ?_⟩
  rintro k H Ok hk ⟨sv, O, h1, h2, h2', h3, h6, h7, h8, h9, h10⟩
  have hx0 : xs[k]? = some xs[k] := List.getElem?_eq_getElem hk
  generalize xs[k] = x at hx0
  have hlen : (icells (xs.take k)).length = k := by simp; omega
  obtain ⟨ra, hra, hra2⟩ := h8.isSlice
  subst hra
  simp only [hlen] at h6 h8
  refine yield_go h7 rfl c14_0as_c_code c14_0bd_c_code c14_0as_c_ok c14_0bd_c_ok ?_
  have hne : ∀ y, y ≠ n + 4 → ∀ b, (upd H.get (n + 4) b) y = H.get y := fun y hy b => by simp [hy]
  rw [hx0]
  simp [c14_0as_c, bindAll, h7]
  generalize hHb : upd H.get (n + 4) (.loop env1 24 #[14] c14_0as c14_0bd .busy none (n + 3)) = gb
  have hgb : ∀ y, y ≠ n + 4 → gb y = H.get y := fun y hy => by rw [← hHb]; simp [hy]
  have hgl : gb (n + 4) = some (.loop env1 24 #[14] c14_0as c14_0bd .busy none (n + 3)) := by rw [← hHb]; simp
  by_cases hm : most ≤ k
  · obtain rfl : k = most := by omega
    simp [c14_0bd_c, e3, e6, hgb, h3, h6, hgl, Ex.isNormal, Ex.jump]
    refine ⟨Ok, fun l hl => .inl hl, ⟨Nat.le_refl _, fun l hl hn => ?_⟩, _, O, h1, Nat.le_refl _, h2', ?_, ?_, by simp, h8.same (fun o ho => ?_) (Nat.le_refl _), h9, h10⟩
    · have : ¬ l = n + 4 := fun e => hn ((h1 l).2 (by simp [e]))
      simp [this, hgb]
    · simp [hgb, h3]
    · simp [hgb, h6]
    · have := h9 o ho
      simp [show ¬ o = n + 4 by omega, hgb o (by omega)]
  · have hmk : ¬ (most : Int) ≤ k := by omega
    have hrow : Row 3 true ⟨H.next, gb⟩ (.slice ra k k) (icells (xs.take k)) O := h8.same (fun o ho => hgb o (by have := h9 o ho; omega)) (Nat.le_refl _)
    obtain ⟨H2, hap, hn2, hget, hrow2, hkeep⟩ := row_append el34 hrow (by omega) (v := i64 (x : Nat)) rfl
    have hl2 : ∀ y, y < H.next → O ≠ some y → H2.get y = gb y := fun y h1 h2 => hkeep y h1 h2
    have hOn : ∀ y, y < n + 5 → O ≠ some y := fun y hy e => by have := h9 y e; omega
    simp only [hlen] at hap hrow2
    simp [c14_0bd_c, e3, e6, hgb, h3, h6, hgl, hm, hmk, hap, hl2 (n + 1) (by omega) (hOn _ (by omega)), hl2 (n + 4) (by omega) (hOn _ (by omega)), Ex.isNormal, Ex.jump]
    have htk : icells (xs.take (k + 1)) = icells (xs.take k) ++ [i64 (x : Nat)] := by rw [List.take_add_one, hx0, Option.toList, icells, List.map_append]; rfl
    simp at hn2
    refine ⟨fun y => y = n ∨ y = n + 1 ∨ y = n + 4 ∨ some (H.next + 1) = some y, ?_, ⟨by simp; omega, ?_⟩, sl (H.next + 1) 0 (k + 1), some (H.next + 1), fun y => Iff.rfl, by omega, by omega, ?_, by simp, by simp, ?_, fun o e => by cases e; omega, by simp; omega⟩
    · intro l hl
      rcases hl with h | h | h | h
      · exact .inl ((h1 l).2 (by simp [h]))
      · exact .inl ((h1 l).2 (by simp [h]))
      · exact .inl ((h1 l).2 (by simp [h]))
      · right; cases h; omega
    · intro l hl hn
      have h6' : ¬ l = n + 4 := fun e => hn ((h1 l).2 (by simp [e]))
      have h4' : ¬ l = n + 1 := fun e => hn ((h1 l).2 (by simp [e]))
      have hO : O ≠ some l := fun e => hn ((h1 l).2 (by simp [e]))
      simp [h6', h4', hl2 l hl hO, hgb l h6']
    · simp [hl2 n (by omega) (hOn _ (by omega)), hgb, h3]
    · rw [htk]
      refine hrow2.same (fun o e => ?_) (by simp)
      cases e
      simp [show ¬ H.next = n + 3 by omega, show ¬ H.next = n by omega]
/-- told: the first numbers, as far as one asks -/
theorem told_run {H0 : AH} {S W w : Nat} {ws : List Nat} {most : Nat} (hq : IsSet H0 S W w ws) (hg : HasG gs H0) (hgn : nG ≤ H0.next) :
    CallR cx 14 #[ptr S, i64 most] H0 (fun v H' => ∃ sv O, v = .tuple #[sv, .bool true] ∧ Row 3 true H' sv (icells ((elemsB ws (64 * ws.length)).take most)) O ∧ (∀ o, O = some o → H0.next ≤ o) ∧ Fresh H0 H') := by
  have hwd := hq.wide
  have hlen := hq.len
  have hxl := elemsB_len ws (64 * ws.length)
  have hble := below_le ws (64 * ws.length)
  generalize hxs : elemsB ws (64 * ws.length) = xs at hxl ⊢
  refine wk14 (by simp) ?_
  simp [c14, alloc34]
  refine callV_R cb15 all_run ?_
  rintro _ _ ⟨rfl, rfl⟩
  simp
  generalize henv : put _ 24 (some 13) _ = env1
  have e3 : env1 3 = ptr H0.next := by rw [← henv]; simp
  have e6 : env1 6 = ptr (H0.next + 1) := by rw [← henv]; simp
  have e13 : env1 13 = .func (.func 26) #[] #[ptr (H0.next + 2)] := by rw [← henv]; simp
  clear henv
  have hfr : ∀ b, Fresh H0 ⟨H0.next + 1 + 1 + 1 + 2, upd (upd (upd (upd (upd H0.get H0.next (.cells [i64 most] 3 true 0)) (H0.next + 1) (.cells [.slice none 0 0] 34 true 0)) (H0.next + 1 + 1) (.cells [ptr S] 23 true 0)) (H0.next + 1 + 1 + 1) .mark) (H0.next + 1 + 1 + 1 + 1) b⟩ := fun b => ⟨by simp; omega, fun l hl _ => by
    simp [show ¬ l = H0.next + 1 + 1 + 1 + 1 by omega, show ¬ l = H0.next + 1 + 1 + 1 by omega, show ¬ l = H0.next + 1 + 1 by omega, show ¬ l = H0.next + 1 by omega, show ¬ l = H0.next by omega]⟩
  have hcl := told_client (n := H0.next) (most := most) (env1 := env1) hxl e3 e6 (by omega)
  rw [← hxs] at hcl
  refine range_go (f := 26) (fs := #[]) (cs := #[ptr (H0.next + 2)]) e13 (by kernel_rfl) (R := _) (all1_run (S := S) (W := W) (w := w) (ws := ws) (b := H0.next + 2) (O := fun x => x = H0.next ∨ x = H0.next + 1 ∨ x = H0.next + 4 ∨ (none : Option Nat) = some x)
    hcl ?_ ?_ ?_ ?_ ?_ ?_ ?_ ?_) ?_
  · exact hq.fresh (hfr _)
  · exact hg.fresh gs_lt hgn (hfr _)
  · simp; omega
  · intro l hl h
    rcases h with h | h | h | h
    · omega
    · omega
    · omega
    · cases h
  · rfl
  · simp
  · simp
  · refine ⟨.slice none 0 0, none, fun y => Iff.rfl, by omega, by omega, ?_, ?_, by simp, ⟨⟨none, rfl, .inl rfl⟩, by simp⟩, fun o h => by (cases h), by simp⟩
    all_goals simp [Nat.add_assoc]
  · rintro v H3 ⟨rfl, O', hO', hk, hcase⟩
    rw [hxs] at hcase
    have hfin : ∃ e : Ex, (e = .normal ∨ e = .exit 0) ∧ ∃ st, st ≠ .busy ∧ ∃ k, xs.take k = xs.take most ∧ ToldI H0.next most xs env1 st e.jump k H3 O' := by
      rcases hcase with h | h
      · refine ⟨.normal, .inl rfl, _, by simp, _, ?_, h⟩
        obtain ⟨_, _, _, h2, _⟩ := h
        rw [List.take_of_length_le (by omega), List.take_of_length_le (by omega)]
      · exact ⟨.exit 0, .inr rfl, _, by simp, _, rfl, h⟩
    clear hcase
    obtain ⟨e, he, st, hst, k, hkt, sv, O, h1, h2, h2', h3, h6, h7, h8, h9, h10⟩ := hfin
    rw [hkt] at h8
    show withLoop (H3.get (H0.next + 4)) _
    rw [h7, withLoop_some]
    refine ⟨hst, e, rfl, ?_⟩
    have hmk : H3.get (H0.next + 3) = some .mark := by
      rw [hk.get (by simp) (by simp)]
      simp [Nat.add_assoc]
    obtain ⟨ra, hra, hra2⟩ := h8.isSlice
    subst hra
    have hk1 := hk.1
    simp at hk1
    have old : ∀ l, l < H0.next → H3.get l = H0.get l := by
      intro l hl
      rw [hk.get (by simp; omega) (by simp; omega)]
      simp [show ¬ l = H0.next + 1 + 1 + 1 + 1 by omega, show ¬ l = H0.next + 1 + 1 + 1 by omega, show ¬ l = H0.next + 1 + 1 by omega, show ¬ l = H0.next + 1 by omega, show ¬ l = H0.next by omega]
    rcases he with rfl | rfl
    all_goals
      simp [e6, h6, takeMarks, hmk, Nat.add_assoc]
      simp only [icells, List.map_take, List.length_map, List.length_take] at h8
      refine ⟨O, h8.same (fun o ho => ?_) (Nat.le_refl _), fun o ho => by have := h9 o ho; omega, ⟨by simp; omega, fun l hl _ => ?_⟩⟩
      · have := h9 o ho
        simp [show ¬ o = H0.next + 3 by omega, show ¬ o = H0.next + 4 by omega]
      · simp [show ¬ l = H0.next + 3 by omega, show ¬ l = H0.next + 4 by omega, old l hl]
/-- Ints -/
theorem ints_run {wa wb : Bool} {sa sb : Value} {xs ys : List Nat} {Oa Ob : Option Nat} (ha : Row 3 wa H sa (icells xs) Oa) (hb : Row 3 wb H sb (icells ys) Ob) (hl : xs.length < 1000000000) : CallR cx 16 #[sa, sb] H (fun v H' => v = .bool (decide (xs = ys)) ∧ H' = H) := by
  obtain ⟨ra, rfl, _⟩ := ha.isSlice
  obtain ⟨rb, rfl, _⟩ := hb.isSlice
  simp only [List.length_map] at ha hb ⊢
  refine wk16 (by simp) ?_
  by_cases hlen : xs.length = ys.length
  case neg =>
    have : ¬ xs = ys := fun e => hlen (by rw [e])
    have h1 : ¬ (xs.length : Int) = ys.length := by omega
    simp [c16, h1, this]
  have h1 : (xs.length : Int) = ys.length := by omega
  simp [c16, h1]
  rw [← hlen]
  refine aw_loop_to xs.length (fun k t => t.env 0 = .slice ra xs.length xs.length ∧ t.env 1 = .slice rb xs.length xs.length ∧ t.env 5 = i64 (k : Nat) ∧ t.ds = [] ∧ t.H = H ∧ xs.take k = ys.take k) ?_ ?_ ?_
  · rintro k ⟨env, H1, ds⟩ hk ⟨e0, e1, e5, eds, rfl, htk⟩
    simp only at e0 e1 e5 eds
    have hk' : k < ys.length := by omega
    have hkN : (k : Int) < xs.length := by omega
    have h0k : (0 : Int) ≤ k := by omega
    have hw : IntKind.i64.wrap ((k : Int) + 1) = ((k + 1 : Nat) : Int) := by rw [w64 (by omega)]; push_cast; rfl
    rw [← hlen] at hb
    obtain ⟨la, oa, ca, rfl, g1, g2, _⟩ := ha.cell (i := k) (x := i64 (xs[k] : Nat)) (by simp [hk])
    obtain ⟨lb, ob, cb, rfl, g3, g4, _⟩ := hb.cell (i := k) (x := i64 (ys[k] : Nat)) (by simp [hk'])
    simp only at g1 g3
    have e1' : xs.take (k + 1) = xs.take k ++ [xs[k]] := by rw [List.take_add_one, List.getElem?_eq_getElem hk]; rfl
    have e2' : ys.take (k + 1) = ys.take k ++ [ys[k]] := by rw [List.take_add_one, List.getElem?_eq_getElem hk']; rfl
    by_cases heq : xs[k] = ys[k]
    · simp [e0, e1, e5, hk, ix34 _ _ _ _ _ _ h0k hkN, g1, g2, g3, g4, heq, hw, eds]
      rw [e1', e2', htk, heq]
    · have hne : ¬ xs = ys := fun e => heq (by subst e; rfl)
      have hI : ¬ ((xs[k] : Nat) : Int) = ((ys[k] : Nat) : Int) := by omega
      simp [e0, e1, e5, hk, ix34 _ _ _ _ _ _ h0k hkN, g1, g2, g3, g4, heq, hI, hne, eds]
  · rintro ⟨env, H1, ds⟩ ⟨e0, e1, e5, eds, rfl, htk⟩
    simp only at e0 e1 e5 eds
    rw [List.take_length, hlen, List.take_length] at htk
    simp [e0, e5, eds, htk]
  · simp [hlen]
end Go.Proofs.YtdmidlgnfepfjaaDoor.C

/- GaugeGoes over the small heap. Own text of this session. -/
import Derived.Test.YtjeeokehnjnkjaaTold
set_option linter.unusedVariables false
set_option linter.unusedSimpArgs false
set_option maxRecDepth 4000
set_option maxHeartbeats 4000000
namespace Go.Proofs.Ytjeeokehnjnkjaa.C
open Go Go.RowKit Go.Proofs.YtjeeokehnjnkjaaA
variable {H : AH}
/-- what the law's loop keeps: the row of what was seen, and the gauge, which was told of the contrary as often -/
def GoesI (D E L mk g S W w : Nat) (bs xs : List Bool) (env1 : Env) (k : Nat) (H : AH) (Ok : Nat → Prop) : Prop :=
  ∃ sv O, (∀ x, Ok x ↔ (x = D ∨ x = E ∨ x = L ∨ O = some x ∨ Ft g S W x)) ∧ k ≤ xs.length ∧ H.get D = some (.cells [ptr g] 23 true 0) ∧ H.get E = some (.cells [sv] 22 true 0) ∧
    H.get L = some (.loop env1 92 #[77] c4_0as c4_0bd .ready none mk) ∧ Row 4 true H sv (bcells (xs.take k)) O ∧ IsG H g S W w (bs ++ (xs.take k).map not) ∧
    (∀ o, O = some o → o ≠ D ∧ o ≠ E ∧ o ≠ L ∧ ¬ Ft g S W o) ∧ (¬ Ft g S W D ∧ ¬ Ft g S W E ∧ ¬ Ft g S W L) ∧ (D < H.next ∧ E < H.next ∧ L < H.next) ∧ D ≠ E ∧ D ≠ L ∧ E ≠ L
theorem GoesI.stable {D E L mk g S W w : Nat} {bs xs : List Bool} {env1 : Env} {k : Nat} {H H' : AH} {Ok : Nat → Prop} (h : GoesI D E L mk g S W w bs xs env1 k H Ok) (hk : ∀ l, Ok l → H'.get l = H.get l) (hn : H.next ≤ H'.next) : GoesI D E L mk g S W w bs xs env1 k H' Ok := by
  obtain ⟨sv, O, h1, h2, h3, h4, h5, h6, h7, h8, h9, h10, h11⟩ := h
  have hkp : Keep (fun l => ¬ Ok l) H H' := ⟨hn, fun l _ hl => hk l (Classical.not_not.1 hl)⟩
  refine ⟨sv, O, h1, h2, ?_, ?_, ?_, h6.same (fun l hl => hk l ((h1 l).2 (by simp [hl]))) hn, h7.keep hkp (fun l hf hn => hn ((h1 l).2 (by simp [hf]))), h8, h9, by omega, h11⟩
  · rw [hk _ ((h1 _).2 (by simp)), h3]
  · rw [hk _ ((h1 _).2 (by simp)), h4]
  · rw [hk _ ((h1 _).2 (by simp)), h5]
theorem GoesI.low {D E L mk g S W w : Nat} {bs xs : List Bool} {env1 : Env} {k : Nat} {H : AH} {Ok : Nat → Prop} (h : GoesI D E L mk g S W w bs xs env1 k H Ok) : ∀ l, Ok l → l < H.next := by
  obtain ⟨sv, O, h1, h2, h3, h4, h5, h6, h7, h8, h9, h10, h11⟩ := h
  intro l hl
  rcases (h1 l).1 hl with h | h | h | h | h
  · omega
  · omega
  · omega
  · subst h; exact h6.low
  · exact h7.low l h
theorem goes_client {D E L mk g S W w : Nat} {bs xs : List Bool} {env1 : Env} {m : Nat} (hm : xs.length = m) (e8 : env1 8 = ptr D) (e16 : env1 16 = ptr E) (hb : bs.length ≤ 1000) (hx1 : xs.length ≤ 1000) :
    Client cx (.func (.yield L) #[] #[]) (fun k => #[((bcells xs)[k]?).getD default]) m (fun k => GoesI D E L mk g S W w bs xs env1 k) (fun _ _ => False) := by
  subst hm
  refine ⟨fun h => h.stable, fun h => h.elim, fun h => h.low, fun h => h.elim, ?_⟩
  rintro k H Ok hk ⟨sv, O, h1, h2, h3, h4, h5, h6, h7, h8, h9, h10, h11⟩
  have hx : (bcells xs)[k]? = some (.bool xs[k]) := by simp [hk]
  have hx0 : xs[k]? = some xs[k] := List.getElem?_eq_getElem hk
  generalize xs[k] = x at hx hx0
  have hlen : (bcells (xs.take k)).length = k := by simp; omega
  refine yield_go h5 rfl c4_0as_c_code c4_0bd_c_code c4_0as_c_ok c4_0bd_c_ok ?_
  rw [hx]
  simp [c4_0as_c, bindAll, h5]
  generalize hHb : upd H.get L (.loop env1 92 #[77] c4_0as c4_0bd .busy none mk) = gb
  have hgb : ∀ y, y ≠ L → gb y = H.get y := fun y hy => by rw [← hHb]; simp [hy]
  have hgl : gb L = some (.loop env1 92 #[77] c4_0as c4_0bd .busy none mk) := by rw [← hHb]; simp
  have hrow : Row 4 true ⟨H.next, gb⟩ sv (bcells (xs.take k)) O := h6.same (fun o ho => hgb o (h8 o ho).2.2.1) (Nat.le_refl _)
  have hkb : Keep (fun l => l = L) H ⟨H.next, gb⟩ := ⟨Nat.le_refl _, fun l _ hn => hgb l hn⟩
  have hFt : ∀ l, Ft g S W l → l ≠ L ∧ l ≠ D ∧ l ≠ E ∧ l < H.next ∧ O ≠ some l := fun l hf =>
    ⟨fun e => h9.2.2 (e ▸ hf), fun e => h9.1 (e ▸ hf), fun e => h9.2.1 (e ▸ hf), h7.low l hf, fun e => (h8 l e).2.2.2 hf⟩
  have hq1 : IsG ⟨H.next, gb⟩ g S W w (bs ++ (xs.take k).map not) := h7.keep hkb (fun l hf e => (hFt l hf).1 e)
  obtain ⟨H2, hap, hn2, hget, hrow2, hkeep⟩ := row_append el22 hrow (by rw [hlen]; omega) (v := .bool x) rfl
  simp at hn2
  have hl2 : ∀ y, y < H.next → O ≠ some y → H2.get y = gb y := fun y h1 h2 => hkeep y h1 h2
  have oD : O ≠ some D := fun e => (h8 _ e).1 rfl
  have oE : O ≠ some E := fun e => (h8 _ e).2.1 rfl
  have oL : O ≠ some L := fun e => (h8 _ e).2.2.1 rfl
  simp only [hlen] at hap hrow2
  simp [c4_0bd_c, e8, e16, hgb, h11, h3, h4, hap, hl2 E h10.2.1 oE, hl2 D h10.1 oD]
  have hq2 : IsG ⟨H2.next, upd H2.get E (.cells [sl (H.next + 1) 0 (k + 1)] 22 true 0)⟩ g S W w (bs ++ (xs.take k).map not) := by
    refine hq1.keep (F := fun l => l = E ∨ O = some l) ⟨by simp; omega, fun l hl hn => ?_⟩ ?_
    · simp at hl hn
      simp [hn.1, hl2 l hl hn.2]
    · intro l hf e
      rcases e with e | e
      · exact (hFt l hf).2.2.1 e
      · exact (hFt l hf).2.2.2.2 e
  have gD : (⟨H2.next, upd H2.get E (.cells [sl (H.next + 1) 0 (k + 1)] 22 true 0)⟩ : AH).get D = some (.cells [ptr g] 23 true 0) := by simp [h11, hl2 D h10.1 oD, hgb, h3]
  have gE : (⟨H2.next, upd H2.get E (.cells [sl (H.next + 1) 0 (k + 1)] 22 true 0)⟩ : AH).get E = some (.cells [sl (H.next + 1) 0 (k + 1)] 22 true 0) := by simp
  have gL : (⟨H2.next, upd H2.get E (.cells [sl (H.next + 1) 0 (k + 1)] 22 true 0)⟩ : AH).get L = some (.loop env1 92 #[77] c4_0as c4_0bd .busy none mk) := by simp [h11.2.2.symm, hl2 L h10.2.2 oL, hgl]
  have gR : Row 4 true ⟨H2.next, upd H2.get E (.cells [sl (H.next + 1) 0 (k + 1)] 22 true 0)⟩ (sl (H.next + 1) 0 (k + 1)) (bcells (xs.take (k + 1))) (some (H.next + 1)) := by
    have : bcells (xs.take (k + 1)) = bcells (xs.take k) ++ [.bool x] := by rw [List.take_add_one, hx0, Option.toList, bcells, List.map_append]; rfl
    rw [this]
    refine hrow2.same (fun o e => ?_) (Nat.le_refl _)
    cases e
    simp [show ¬ H.next + 1 = E by omega]
  have gK : ∀ l, l < H.next → ¬ Ok l → (⟨H2.next, upd H2.get E (.cells [sl (H.next + 1) 0 (k + 1)] 22 true 0)⟩ : AH).get l = H.get l := by
    intro l hl hn
    have n12 : ¬ l = E := fun e => hn ((h1 l).2 (by simp [e]))
    have nL : ¬ l = L := fun e => hn ((h1 l).2 (by simp [e]))
    have nO : O ≠ some l := fun e => hn ((h1 l).2 (by simp [e]))
    simp [n12, hl2 l hl nO, hgb l nL]
  have gn : (⟨H2.next, upd H2.get E (.cells [sl (H.next + 1) 0 (k + 1)] 22 true 0)⟩ : AH).next = H.next + 2 := by simp [hn2]
  generalize (⟨H2.next, upd H2.get E (.cells [sl (H.next + 1) 0 (k + 1)] 22 true 0)⟩ : AH) = H3 at *
  have hfewk : (bs ++ (xs.take k).map not).length + 1 < 1000000 := by simp; omega
  refine callV_R cb12 (note_run (show IsG H3 g S W w (bs ++ (xs.take k).map not) from hq2) (b := !x) hfewk) ?_
  rintro _ H4 ⟨rfl, hk4, hn4, hq4⟩
  have hsn : bs ++ (xs.take k).map not ++ [!x] = bs ++ (xs.take (k + 1)).map not := by
    rw [List.append_assoc, List.take_add_one, hx0, Option.toList, List.map_append]; rfl
  rw [hsn] at hq4
  have nF : ∀ l, (l = D ∨ l = E ∨ l = L ∨ H.next ≤ l) → ¬ (l = g ∨ l = W) := fun l h hf => by
    have hf' : Ft g S W l := by rcases hf with h | h <;> simp [Ft, h]
    have := hFt l hf'
    rcases h with h | h | h | h
    · exact this.2.1 h
    · exact this.2.2.1 h
    · exact this.1 h
    · have := this.2.2.2.1; omega
  have kD : H4.get D = some (.cells [ptr g] 23 true 0) := by rw [hk4.get (by omega) (nF _ (by simp)), gD]
  have kE : H4.get E = some (.cells [sl (H.next + 1) 0 (k + 1)] 22 true 0) := by rw [hk4.get (by omega) (nF _ (by simp)), gE]
  have kL : H4.get L = some (.loop env1 92 #[77] c4_0as c4_0bd .busy none mk) := by rw [hk4.get (by omega) (nF _ (by simp)), gL]
  have kR := gR.keep hk4 (fun l e => nF l (by cases e; omega))
  simp [kL, Ex.isNormal, Ex.jump]
  have hU : Keep (fun l => l = L) H4 ⟨H4.next, upd H4.get L (.loop env1 92 #[77] c4_0as c4_0bd .ready none mk)⟩ := ⟨Nat.le_refl _, fun l _ hn => by simp at hn; simp [hn]⟩
  refine ⟨fun y => y = D ∨ y = E ∨ y = L ∨ some (H.next + 1) = some y ∨ Ft g S W y, ?_, ⟨by simp; omega, fun l hl hn => ?_⟩, ?_⟩
  · intro l hl
    rcases hl with h | h | h | h | h
    · exact .inl ((h1 l).2 (by simp [h]))
    · exact .inl ((h1 l).2 (by simp [h]))
    · exact .inl ((h1 l).2 (by simp [h]))
    · right; cases h; omega
    · exact .inl ((h1 l).2 (by simp [h]))
  · have nL : ¬ l = L := fun e => hn ((h1 l).2 (by simp [e]))
    have nf : ¬ (l = g ∨ l = W) := fun e => hn ((h1 l).2 (by rcases e with e | e <;> simp [Ft, e]))
    simp [nL]
    rw [hk4.get (by omega) nf, gK l hl hn]
  · refine ⟨_, some (H.next + 1), fun y => Iff.rfl, by omega, ?_, ?_, by simp, kR.keep hU (fun l e h => by cases e; omega), hq4.keep hU (fun l hf h => (hFt l hf).1 h), ?_, h9, by simp; omega, h11⟩
    · simp [h11.2.1, kD]
    · simp [h11.2.2, kE]
    · intro o e
      cases e
      refine ⟨by omega, by omega, by omega, fun e => ?_⟩
      have := (hFt _ e).2.2.2.1; omega
theorem u8_wf {a : Int} (h : (Lit.int .u8 a).wf = true) : 0 ≤ a ∧ a ≤ 255 := by
  simp [Lit.wf, IntKind.min, IntKind.max, IntKind.signed, IntKind.bits] at h
  exact h
theorem gaugeGoes_run {sv : Value} {zs : List Bool} {len : Nat} {O : Option Nat} {a0 a2 : Int} (hg : HasG gs H) (hn : nG ≤ H.next) (hrow : Row 4 false H sv (zs.map Value.bool) O) (hlen : zs.length = len) (hwf : ∀ b ∈ zs, True) (w0 : (Lit.int .u8 a0).wf = true) (w2 : (Lit.int .u8 a2).wf = true) :
    CallR cx 4 #[.int .u8 a0, sv, .int .u8 a2] H (fun v _ => v = .bool true) := by
  have b0 := u8_wf w0
  have b2 := u8_wf w2
  obtain ⟨w, hw⟩ : ∃ w : Nat, (w : Int) = 1 + a0 := ⟨(1 + a0).toNat, by omega⟩
  obtain ⟨most, hmost⟩ : ∃ w : Nat, (w : Int) = a2 := ⟨a2.toNat, by omega⟩
  have hw1 : IntKind.i64.wrap a0 = a0 := w64 (by omega)
  have hw2 : IntKind.i64.wrap (1 + a0) = (w : Int) := by rw [w64 (by omega)]; omega
  have hw3 : IntKind.i64.wrap a2 = (most : Int) := by rw [w64 (by omega)]; omega
  obtain ⟨ra, rfl, hra⟩ := hrow.isSlice
  simp only [List.length_map] at hrow
  refine wk4 (by simp) ?_
  unfold c4
  refine aw_cut (fun t => t.env 0 = .int .u8 a0 ∧ t.env 1 = .slice ra zs.length zs.length ∧ t.env 2 = .int .u8 a2 ∧ t.ds = [] ∧ t.H = H) (by simp) ?_
  rintro ⟨env, H', ds⟩ ⟨e0, e1, e2, eds, hH⟩
  simp only at e0 e1 e2 eds hH
  subst hH
  refine aw_cut (fun t => t.env 1 = .slice ra zs.length zs.length ∧ t.env 2 = .int .u8 a2 ∧ t.env 7 = i64 w ∧ t.ds = [] ∧ t.H = H') (by simp [e0, e1, e2, hw1, hw2, eds]) ?_
  clear e0 e1 e2 eds
  rintro ⟨env, H, ds⟩ ⟨e1, e2, e7, eds, hH⟩
  simp only at e1 e2 e7 eds hH
  subst hH
  -- the gauge
  refine aw_cut (fun t => t.env 1 = .slice ra zs.length zs.length ∧ t.env 2 = .int .u8 a2 ∧ t.env 7 = i64 w ∧ t.env 9 = i64 0 ∧ t.ds = [] ∧ Fresh H t.H ∧ ∃ D, t.env 8 = ptr D ∧ H.next + 2 < D ∧ D < t.H.next ∧ t.H.get D = some (.cells [ptr (H.next + 2)] 23 true 0) ∧ IsG t.H (H.next + 2) (H.next + 1) H.next w []) ?_ ?_
  · simp [e7]
    refine callV_R cb6 (gnew_run (by omega) (by omega)) ?_
    rintro _ H1 ⟨rfl, f1, hG⟩
    have hl := hG.lg
    simp [alloc23, e1, e2, e7, eds]
    refine ⟨⟨by have := f1.1; simp; omega, fun l hl2 _ => ?_⟩, hl, ?_⟩
    · simp [show ¬ l = H1.next by have := f1.1; omega]; exact f1.get hl2
    · refine hG.keep (F := fun _ => False) ⟨by simp, fun l hl2 _ => ?_⟩ (fun _ _ h => h)
      simp [show ¬ l = H1.next by omega]
  clear e1 e2 e7 eds
  rintro ⟨env, H1, ds⟩ ⟨e1, e2, e7, e9, eds, f1, D, e8, hD, hDl, gD, hG⟩
  simp only at e1 e2 e7 e8 e9 eds f1 hDl gD hG
  generalize hgq : H.next + 2 = g at *
  generalize hS : H.next + 1 = S at *
  generalize hW : H.next = W at *
  refine aw_cut (fun t => t.env 1 = .slice ra zs.length zs.length ∧ t.env 2 = .int .u8 a2 ∧ t.env 7 = i64 w ∧ t.env 8 = ptr D ∧ t.ds = [] ∧ t.H = H1) (by simp [e1, e2, e7, e8, e9, gD, eds]) ?_
  clear e1 e2 e7 e8 e9 eds
  rintro ⟨env, H2, ds⟩ ⟨e1, e2, e7, e8, eds, hH⟩
  simp only at e1 e2 e7 e8 eds hH
  subst hH
  by_cases h100 : 100 < (zs.length : Int)
  · simp [e1, h100]
    refine callV_R cba (alive_run (fun x hx => nomatch (show x ∈ ([] : Globs) from hx))) ?_
    rintro _ _ ⟨rfl, _⟩
    simp [eds]
  refine aw_cut (fun t => t.env 1 = .slice ra zs.length zs.length ∧ t.env 2 = .int .u8 a2 ∧ t.env 7 = i64 w ∧ t.env 8 = ptr D ∧ t.ds = [] ∧ t.H = H2) (by simp [e1, e2, e7, e8, h100, eds]) ?_
  clear e1 e2 e7 e8 eds
  rintro ⟨env, H1, ds⟩ ⟨e1, e2, e7, e8, eds, hH⟩
  simp only at e1 e2 e7 e8 eds hH
  subst hH
  -- the askings are noted
  have hnD : ¬ (D = g ∨ D = W) := by omega
  refine aw_cut (fun t => t.env 1 = .slice ra zs.length zs.length ∧ t.env 2 = .int .u8 a2 ∧ t.env 7 = i64 w ∧ t.env 8 = ptr D ∧ t.ds = [] ∧ Fresh H t.H ∧ D < t.H.next ∧ t.H.get D = some (.cells [ptr g] 23 true 0) ∧ IsG t.H g S W w zs) ?_ ?_
  · simp [e1]
    refine aw_loop_to zs.length (fun k t => t.env 1 = .slice ra zs.length zs.length ∧ t.env 2 = .int .u8 a2 ∧ t.env 7 = i64 w ∧ t.env 8 = ptr D ∧ t.env 36 = .slice ra zs.length zs.length ∧ t.env 37 = i64 (zs.length : Nat) ∧ t.env 38 = i64 (k : Nat) ∧ t.ds = [] ∧ Fresh H t.H ∧ D < t.H.next ∧ t.H.get D = some (.cells [ptr g] 23 true 0) ∧ IsG t.H g S W w (zs.take k)) ?_ ?_ ?_
    · clear e1 e2 e7 e8 eds
      rintro k ⟨env, H2, ds⟩ hk ⟨e1, e2, e7, e8, e36, e37, e38, eds, f2, hD2, gD2, hG2⟩
      simp only at e1 e2 e7 e8 e36 e37 e38 eds f2 hD2 gD2 hG2
      have hkN : (k : Int) < zs.length := by omega
      have hw : IntKind.i64.wrap ((k : Int) + 1) = (k : Int) + 1 := w64 (by omega)
      have hr2 := hrow.keep f2 (fun _ _ => id)
      obtain ⟨la, oa, ca, rfl, g1, g2, _⟩ := hr2.cell (i := k) (x := .bool zs[k]) (by simp [hk])
      have hix := ix22 la oa zs.length zs.length .i64 (k : Int) (by omega) hkN
      rw [Int.toNat_natCast] at hix
      simp [e8, e36, e37, e38, hk, hix, g1, g2, gD2]
      refine callV_R cb12 (note_run hG2 (b := zs[k]) (by simp; omega)) ?_
      rintro _ H3 ⟨rfl, k3, hn3, hG3⟩
      have hts : zs.take k ++ [zs[k]] = zs.take (k + 1) := by rw [List.take_add_one, List.getElem?_eq_getElem hk]; rfl
      rw [hts] at hG3
      simp [e1, e2, e7, e8, e36, e37, e38, hw, eds]
      refine ⟨⟨by have := f2.1; omega, fun l hl _ => ?_⟩, by omega, by rw [k3.get hD2 hnD, gD2], hG3⟩
      rw [k3.get (by have := f2.1; omega) (by omega), f2.get hl]
    · clear e1 e2 e7 e8 eds
      rintro ⟨env, H2, ds⟩ ⟨e1, e2, e7, e8, e36, e37, e38, eds, f2, hD2, gD2, hG2⟩
      simp only at e1 e2 e7 e8 e36 e37 e38 eds f2 hD2 gD2 hG2
      rw [List.take_length] at hG2
      simp [e1, e2, e7, e8, e37, e38, eds]
      exact ⟨f2, hD2, gD2, hG2⟩
    · simp [e1, e2, e7, e8, eds]
      exact ⟨f1, hDl, gD, hG⟩
  clear e1 e2 e7 e8 eds
  rintro ⟨env, H2, ds⟩ ⟨e1, e2, e7, e8, eds, f2, hD2, gD2, hG2⟩
  simp only at e1 e2 e7 e8 eds f2 hD2 gD2 hG2
  have hrow2 := hrow.keep f2 (fun _ _ => id)
  -- ref.Last
  refine aw_cut (fun t => t.env 2 = .int .u8 a2 ∧ t.env 8 = ptr D ∧ t.ds = [] ∧ t.H = H2 ∧ ∃ Or, Row 4 false H2 (t.env 12) (bcells (lastB zs w)) Or ∧ ∀ x, Or = some x → O = some x) ?_ ?_
  · simp [e1, e7]
    refine callV_R cb13 (last_run hrow2 (by omega) (by omega)) ?_
    rintro v H3 ⟨rfl, Or, hr, hO⟩
    simp [e2, e8, eds]
    exact ⟨Or, hr, hO⟩
  clear e1 e2 e7 e8 eds
  rintro ⟨env, H3, ds⟩ ⟨e2, e8, eds, hH, Or, hrL, hOr⟩
  simp only at e2 e8 eds hH hrL
  subst hH
  generalize e12 : env 12 = lv at hrL
  obtain ⟨rl, rfl, _⟩ := hrL.isSlice
  have hll := lastB_len zs w
  simp only [List.length_map] at e12 hrL
  -- told
  refine aw_cut (fun t => t.env 2 = .int .u8 a2 ∧ t.env 8 = ptr D ∧ t.env 12 = .slice rl (lastB zs w).length (lastB zs w).length ∧ t.env 14 = .bool true ∧ t.ds = [] ∧ Fresh H3 t.H ∧ ∃ Of, Row 4 true t.H (t.env 13) (bcells ((lastB zs w).take most)) Of) ?_ ?_
  · simp [e2, e8, gD2, hw3]
    refine callV_R cb18 (told_run (most := most) hG2) ?_
    rintro _ H4 ⟨tv, Of, rfl, hrT, _, f4⟩
    simp [e2, e8, e12, eds, f4]
    exact ⟨Of, by simpa using hrT⟩
  clear e2 e8 e12 eds
  rintro ⟨env, H4, ds⟩ ⟨e2, e8, e12, e14, eds, f4, Of, hrT⟩
  simp only at e2 e8 e12 e14 eds f4 hrT
  generalize e13 : env 13 = tv at hrT
  have gD4 : H4.get D = some (.cells [ptr g] 23 true 0) := by rw [f4.get hD2, gD2]
  have hG4 := hG2.fresh f4
  have f24 := f2.trans f4
  -- All
  refine aw_cut (fun t => t.env 2 = .int .u8 a2 ∧ t.env 8 = ptr D ∧ t.env 12 = .slice rl (lastB zs w).length (lastB zs w).length ∧ t.env 13 = tv ∧ t.env 14 = .bool true ∧ t.env 15 = .func (.func 26) #[] #[ptr H4.next] ∧ t.ds = [] ∧ t.H = ⟨H4.next + 1, upd H4.get H4.next (.cells [ptr g] 23 true 0)⟩) ?_ ?_
  · simp [e8, gD4]
    refine callV_R cb20 all_run ?_
    rintro _ _ ⟨rfl, rfl⟩
    simp [e2, e8, e12, e13, e14, eds]
  clear e2 e8 e12 e13 e14 eds
  rintro ⟨env, H5, ds⟩ ⟨e2, e8, e12, e13, e14, e15, eds, hH⟩
  simp only at e2 e8 e12 e13 e14 e15 eds hH
  have f5 : Fresh H4 H5 := by rw [hH]; exact Fresh.ofNew
  have gB : H5.get H4.next = some (.cells [ptr g] 23 true 0) := by rw [hH]; simp
  have hB : H4.next < H5.next := by rw [hH]; simp
  clear hH
  have hD4 : D < H4.next := Nat.lt_of_lt_of_le hD2 f4.1
  have gD5 : H5.get D = some (.cells [ptr g] 23 true 0) := by rw [f5.get hD4, gD4]
  have hG5 := hG4.fresh f5
  have hrL5 := hrL.keep (f4.trans f5) (fun _ _ => id)
  have hrT5 := hrT.keep f5 (fun _ _ => id)
  have hOlow : ∀ x, Or = some x → x < H.next := fun x h => by have := hOr x h; subst this; exact hrow.low
  -- the first ones are as they should be
  refine aw_cut (fun t => t.env 8 = ptr D ∧ t.env 12 = .slice rl (lastB zs w).length (lastB zs w).length ∧ t.env 15 = .func (.func 26) #[] #[ptr H4.next] ∧ t.ds = [] ∧ t.H = H5) ?_ ?_
  · obtain ⟨c, hc⟩ : ∃ c, c = min (lastB zs w).length most := ⟨_, rfl⟩
    have hmin : min ((lastB zs w).length : Int) (most : Int) = (c : Int) := by rw [hc]; omega
    have hcl : c ≤ (lastB zs w).length := by omega
    obtain ⟨sp, hsp, hrowp⟩ := row_part el22 hrL5 (lo := none) (hi := some (i64 (c : Int))) (a := 0) (b := c) (by simp [bnd]; omega) (by simp [bnd]) (by omega) (by simpa using hcl)
    have htk : ((bcells (lastB zs w)).take c).drop 0 = bcells ((lastB zs w).take most) := by
      rw [List.drop_zero, ← List.map_take]
      congr 1
      rcases Nat.le_total (lastB zs w).length most with h | h
      · rw [List.take_of_length_le (by omega), List.take_of_length_le (by omega)]
      · have : c = most := by omega
        rw [this]
    rw [htk] at hrowp
    simp [e2, e12, e13, e14, e15, hw3, hmin, hsp]
    refine callV_R cb19 (bools_run hrT5 hrowp (by simp; omega)) ?_
    rintro _ H6 ⟨rfl, hH⟩
    subst hH
    simp [e8, e12, e15, eds]
  clear e2 e8 e12 e13 e14 e15 eds
  rintro ⟨env, H6, ds⟩ ⟨e8, e12, e15, eds, hH⟩
  simp only at e8 e12 e15 eds hH
  subst hH
  refine aw_cut (fun t => t.env 8 = ptr D ∧ t.env 12 = .slice rl (lastB zs w).length (lastB zs w).length ∧ t.env 15 = .func (.func 26) #[] #[ptr H4.next] ∧ t.env 16 = ptr H6.next ∧ t.ds = [] ∧ t.H = ⟨H6.next + 1, upd H6.get H6.next (.cells [.slice none 0 0] 22 true 0)⟩) (by simp [alloc22, e8, e12, e15, eds]) ?_
  clear e8 e12 e15 eds
  rintro ⟨env, H7, ds⟩ ⟨e8, e12, e15, e16, eds, hH⟩
  simp only at e8 e12 e15 e16 eds hH
  have hn7 : H7.next = H6.next + 1 := by rw [hH]
  have f7 : Fresh H6 H7 := by rw [hH]; exact Fresh.ofNew
  have gE7 : H7.get H6.next = some (.cells [.slice none 0 0] 22 true 0) := by rw [hH]; simp
  clear hH
  have hD6 : D < H6.next := by omega
  have gD7 : H7.get D = some (.cells [ptr g] 23 true 0) := by rw [f7.get hD6, gD5]
  have gB7 : H7.get H4.next = some (.cells [ptr g] 23 true 0) := by rw [f7.get hB, gB]
  have hG7 := hG5.fresh f7
  have hrL7 := hrL5.keep f7 (fun _ _ => id)
  have hGlow := hG5.low
  -- the loop
  simp
  generalize henv : put env 92 (some 76) (env 15) = env1
  have k8 : env1 8 = ptr D := by rw [← henv]; simp [e8]
  have k12 : env1 12 = .slice rl (lastB zs w).length (lastB zs w).length := by rw [← henv]; simp [e12]
  have k16 : env1 16 = ptr H6.next := by rw [← henv]; simp [e16]
  have k76 : env1 76 = .func (.func 26) #[] #[ptr H4.next] := by rw [← henv]; simp [e15]
  clear henv
  have hG8 : IsG ⟨H7.next + 2, upd (upd H7.get H7.next .mark) (H7.next + 1) (.loop env1 92 #[77] c4_0as c4_0bd .ready none H7.next)⟩ g S W w zs := by
    refine hG7.keep (F := fun _ => False) ⟨by simp, fun l hl _ => ?_⟩ (fun _ _ h => h)
    simp [show ¬ l = H7.next + 1 by omega, show ¬ l = H7.next by omega]
  have nFt : ∀ l, g < l → ¬ Ft g S W l := fun l hl h => by rcases h with h | h | h <;> omega
  refine range_go (f := 26) (fs := #[]) (cs := #[ptr H4.next]) k76 (by kernel_rfl) (R := _) (all1_run (gq := g) (S := S) (W := W) (w := w) (bs := zs) (b := H4.next) (O := fun x => x = D ∨ x = H6.next ∨ x = H7.next + 1 ∨ (none : Option Nat) = some x ∨ Ft g S W x)
    (I := GoesI D H6.next (H7.next + 1) H7.next g S W w zs (lastB zs w) env1) (K := fun _ _ => False) (goes_client hll k8 k16 (by omega) (by omega)) hG8 ?_ ?_ ?_) ?_
  · simp; omega
  · simp [show ¬ H4.next = H7.next + 1 by omega, show ¬ H4.next = H7.next by omega, gB7]
  · refine ⟨.slice none 0 0, none, fun y => Iff.rfl, Nat.zero_le _, ?_, ?_, by simp, ⟨⟨none, rfl, .inl rfl⟩, by simp⟩, by simpa using hG8, fun o e => (by cases e), ⟨nFt _ (by omega), nFt _ (by omega), nFt _ (by omega)⟩, ⟨by simp; omega, by simp; omega, by simp⟩, by omega, by omega, by omega⟩
    · simp [show ¬ D = H7.next + 1 by omega, show ¬ D = H7.next by omega, gD7]
    · simp [show ¬ H6.next = H7.next + 1 by omega, show ¬ H6.next = H7.next by omega, gE7]
  · rintro v H8 ⟨rfl, O', hO', hk, hcase⟩
    rcases hcase with hI | hI
    case inr => exact hI.elim
    obtain ⟨sv8, O8, h1, h2, h3, h4, h5, h6, h7, h8, h9, h10, h11⟩ := hI
    show withLoop (H8.get (H7.next + 1)) _
    rw [h5, withLoop_some]
    refine ⟨by simp, .normal, rfl, ?_⟩
    have nO : ∀ l, (l = H7.next ∨ l < H.next) → ¬ (l = D ∨ l = H6.next ∨ l = H7.next + 1 ∨ (none : Option Nat) = some l ∨ Ft g S W l) := by
      intro l hl h
      rcases h with h | h | h | h | h
      · omega
      · omega
      · omega
      · cases h
      · rcases h with h | h | h <;> omega
    have hmk : H8.get H7.next = some .mark := by
      rw [hk.get (by simp) (nO _ (.inl rfl))]
      simp
    show aw cx 92 none _ _ ⟨env1, ⟨H8.next, YtjeeokehnjnkjaaA.del H8.get (H7.next + 1)⟩, H7.next :: ds⟩
    have hkd : Keep (fun l => l = H7.next + 1) H8 ⟨H8.next, YtjeeokehnjnkjaaA.del H8.get (H7.next + 1)⟩ := ⟨Nat.le_refl _, fun l _ hn => by simp [hn]⟩
    generalize hH9 : (⟨H8.next, YtjeeokehnjnkjaaA.del H8.get (H7.next + 1)⟩ : AH) = H9 at *
    have hn9 : H9.next = H8.next := by rw [← hH9]
    have hk1 := hk.1
    simp at hk1
    have j16 : H9.get H6.next = some (.cells [sv8] 22 true 0) := by rw [hkd.get (by omega) (by omega), h4]
    have jm : H9.get H7.next = some .mark := by rw [hkd.get (by omega) (by omega), hmk]
    rw [List.take_of_length_le (by omega)] at h6
    have jr : Row 4 true H9 sv8 (bcells (lastB zs w)) O8 := h6.keep hkd (fun l e => (h8 l e).2.2.1)
    have jrow : Row 4 false H9 (.slice rl (lastB zs w).length (lastB zs w).length) (bcells (lastB zs w)) Or := by
      refine hrL7.same (fun l e => ?_) (by omega)
      have hl0 := hOlow l e
      rw [hkd.get (by have := f1.1; have := f2.1; have := f4.1; omega) (by have := f1.1; have := f2.1; have := f4.1; omega), hk.get (by simp; omega) (nO _ (.inr hl0))]
      simp [show ¬ l = H7.next + 1 by omega, show ¬ l = H7.next by omega]
    simp [k12, k16, j16]
    refine callV_R cb19 (bools_run jr jrow (by omega)) ?_
    rintro _ HA ⟨rfl, hHA⟩
    rw [hHA]
    simp
    refine callV_R cba (alive_run (fun x hx => nomatch (show x ∈ ([] : Globs) from hx))) ?_
    rintro _ HB ⟨rfl, hHB⟩
    subst hHB
    simp [takeMarks, jm, eds]
end Go.Proofs.Ytjeeokehnjnkjaa.C

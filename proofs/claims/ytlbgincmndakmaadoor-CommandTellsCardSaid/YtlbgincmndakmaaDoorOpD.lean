/- The document's reading of a line; are two ops one. Own text of this session. -/
import Derived.Test.YtlbgincmndakmaaDoorOpC
set_option linter.unusedVariables false
set_option linter.unusedSimpArgs false
set_option maxRecDepth 4000
set_option maxHeartbeats 8000000
namespace Go.Proofs.YtlbgincmndakmaaDoor.C
open Go Go.RowKit Go.Proofs.YtlbgincmndakmaaDoorA Go.Proofs.YtlbgincmndakmaaDoor.Plain
variable {H : AH}
theorem rparseR {s : List UInt8} (hs : s.length < 90000) : CallR cx 12 #[.string (str s)] H (fun v H' => Fresh H H' ∧ RdR (opOf s) H' v) := by
  obtain ⟨w0, tl, hw⟩ := words_cons s
  have hwl := splitL_le 32 s
  have hsh := splitL_short 32 s
  have hjs := join_splitL 32 s
  rw [hw] at hwl hsh hjs
  rw [List.length_cons] at hwl
  refine wk12 (by simp) ?_
  unfold c12
  refine aw_cut (fun t => t.env 0 = .string (str s) ∧ t.env 2 = ptr H.next ∧ t.ds = [] ∧ t.H = ⟨H.next + 1, upd H.get H.next (rdB 0 0 nilS 0 0 0 0 0)⟩) (by simp [alloc40]) ?_
  rintro ⟨env, H1, ds⟩ ⟨e0, e2, eds, hH⟩
  simp only at e0 e2 eds hH
  have f1 : Fresh H H1 := by rw [hH]; exact Fresh.ofNew
  have r1 : H1.get H.next = some (rdB 0 0 nilS 0 0 0 0 0) := by rw [hH]; simp
  have l1 : H.next < H1.next := by rw [hH]; simp
  clear hH
  have hwords := rwords_run (H := H1) (s := s) (by omega)
  rw [hw] at hwords
  refine aw_cut (fun t => t.env 2 = ptr H.next ∧ t.ds = [] ∧ Fresh H1 t.H ∧ ∃ O, Row 9 true t.H (t.env 3) (strs (w0 :: tl)) O) ?_ ?_
  · simp [e0]
    refine callV_R cb35 hwords ?_
    rintro v H2 ⟨f2, O, h2, _⟩
    simp [e2, eds, f2]
    exact ⟨O, h2⟩
  clear e0 e2 eds hwords
  rintro ⟨env, H2, ds⟩ ⟨e2, eds, f2, O, hrow⟩
  simp only at e2 eds f2 hrow
  generalize e3 : env 3 = wv at hrow
  have hrow0 := hrow
  obtain ⟨ra, rfl, _⟩ := hrow.isSlice
  simp only [strs_length, List.length_cons] at e3 hrow
  have r2 : H2.get H.next = some (rdB 0 0 nilS 0 0 0 0 0) := by rw [f2.get l1, r1]
  have f12 := f1.trans f2
  have hc0 : (strs (w0 :: tl))[0]? = some (.string (str w0)) := rfl
  obtain ⟨la, oa, ca, hra, g1, g2, _⟩ := hrow.cell hc0
  have hix := ix54 la oa (tl.length + 1) (tl.length + 1) .i64 0 (by omega) (by omega)
  simp at g2
  refine aw_cut (fun t => t.env 2 = ptr H.next ∧ t.env 3 = .slice ra (tl.length + 1) (tl.length + 1) ∧ t.env 4 = i64 ((tl.length : Int) + 1) ∧ t.ds = [] ∧ t.H = H2) (by simp [e2, e3, eds]) ?_
  clear e2 e3 eds
  rintro ⟨env, H3, ds⟩ ⟨e2, e3, e4, eds, hH⟩
  simp only at e2 e3 e4 eds hH
  subst hH
  have fin : ∀ {H4 : AH} (k' : Int) (n' : Nat) (s' : Value) (p' c' q' g' e' : Int), Fresh H3 H4 → isCell s' = true → aStore Tryd.prog 40 (ptr H.next) (rdV k' n' s' p' c' q' g' e') H4 = some ⟨H4.next, upd H4.get H.next (rdB k' n' s' p' c' q' g' e')⟩ ∧ aLoad Tryd.prog 40 (ptr H.next) ⟨H4.next, upd H4.get H.next (rdB k' n' s' p' c' q' g' e')⟩ = some (rdV k' n' s' p' c' q' g' e') ∧ Fresh H ⟨H4.next, upd H4.get H.next (rdB k' n' s' p' c' q' g' e')⟩ ∧ H4.get H.next = some (rdB 0 0 nilS 0 0 0 0 0) := by
    intro H4 k' n' s' p' c' q' g' e' f hc
    have r4 : H4.get H.next = some (rdB 0 0 nilS 0 0 0 0 0) := by rw [f.get (Nat.lt_of_lt_of_le l1 f2.1), r2]
    obtain ⟨a, b, c⟩ := fin40 (k' := k') (n' := n') (s' := s') (p' := p') (c' := c') (q' := q') (g' := g') (e' := e') (Nat.le_refl _) (f12.trans f) r4 hc
    exact ⟨a, b, c, r4⟩
  -- nothing that may be
  have none1 : ∀ {H4 : AH}, H4 = H3 → aStore Tryd.prog 40 (ptr H.next) (rdV 0 0 nilS 0 0 0 0 7) H4 = some ⟨H4.next, upd H4.get H.next (rdB 0 0 nilS 0 0 0 0 7)⟩ ∧ aLoad Tryd.prog 40 (ptr H.next) ⟨H4.next, upd H4.get H.next (rdB 0 0 nilS 0 0 0 0 7)⟩ = some (rdV 0 0 nilS 0 0 0 0 7) ∧ Fresh H ⟨H4.next, upd H4.get H.next (rdB 0 0 nilS 0 0 0 0 7)⟩ := by
    rintro _ rfl
    obtain ⟨a, b, c, _⟩ := fin 0 0 nilS 0 0 0 0 7 Fresh.refl rfl
    exact ⟨a, b, c⟩
  obtain ⟨b1, b2, b3⟩ := none1 rfl
  have cpy : ∀ {H4 : AH} {x : Rd} {v : Value}, Fresh H3 H4 → RdR x H4 v → ∃ H5, aStore Tryd.prog 40 (ptr H.next) v H4 = some H5 ∧ ∃ u, aLoad Tryd.prog 40 (ptr H.next) H5 = some u ∧ Fresh H H5 ∧ RdR x H5 u := by
    rintro H4 x v f4 ⟨sv, Ox, rfl, hsv⟩
    obtain ⟨rb, rfl, _⟩ := hsv.isSlice
    obtain ⟨a1, a2, a3, r4⟩ := fin x.k x.n (.slice rb (x.val.map u8v).length (x.val.map u8v).length) x.p x.c x.q x.g x.e f4 rfl
    refine ⟨_, a1, _, a2, a3, _, Ox, rfl, ?_⟩
    refine hsv.keep (S := fun z => z = H.next) ⟨Nat.le_refl _, fun z _ hz => by simp at hz; simp [hz]⟩ (fun z hz hzz => ?_)
    subst hz
    subst hzz
    obtain ⟨o, cs, _, h2, _⟩ := hsv
    rw [r4] at h2
    cases h2
  have hl1i : ∀ m : Nat, ((tl.length : Int) + 1 = (m : Int) + 1) ↔ tl.length = m := fun m => by omega
  have ng : getW = [103, 101, 116] := rfl
  have np : putW = [112, 117, 116] := rfl
  have nd : delW = [100, 101, 108, 101, 116, 101] := rfl
  have nr : resW = [114, 101, 115, 105, 122, 101] := rfl
  have nst : staW = [115, 116, 97, 116, 115] := rfl
  have ndu : dumW = [100, 117, 109, 112] := rfl
  by_cases hget : w0 = getW
  · subst hget
    by_cases hl : tl.length = 1
    · obtain ⟨w1, rfl⟩ : ∃ w1, tl = [w1] := by
        match tl, hl with
        | [w1], _ => exact ⟨w1, rfl⟩
      have hop : opOf s = if okN w1 = true then ⟨1, rdN w1, [], 0, 0, 0, 0, 0⟩ else bad 7 := by rw [opOf_fits hw (by unfold fitsP; simp [kindL, getW, putW, delW])]; exact opT_keyed (by decide) (by simp)
      simp only [List.length_cons, List.length_nil, Nat.zero_add, Nat.reduceAdd] at e3 e4 hix hrow
      simp at e4
      simp [e2, e3, e4, hra, hix, g1, g2, Go.undef, ng]
      rw [← hra]
      refine callV_R cb36 (rkeyed_run hrow) ?_
      rintro v H4 ⟨f4, rfl⟩
      have hR : RdR (opOf s) H4 (if okN w1 = true then rdV 1 (rdN w1) nilS 0 0 0 0 0 else rdV 0 0 nilS 0 0 0 0 7) := by
        rw [hop]
        cases okN w1 with
        | true => exact ⟨nilS, none, rfl, Row.nil⟩
        | false => exact ⟨nilS, none, rfl, Row.nil⟩
      obtain ⟨H5, a1, u, a2, a3, a4⟩ := cpy f4 hR
      simp [e2, a1, a2, eds, -st40, -ld40]
      exact ⟨a3, a4⟩
    · have hli : ¬ ((tl.length : Int) + 1 = 2) := by omega
      have hop : opOf s = bad 7 := opOf_not hw (by show ¬ fitsP 1 _; unfold fitsP; simp; omega)
      rw [hop]
      simp [e2, e3, e4, hra, hix, g1, g2, Go.undef, ng, hl, hli, build29, build40, b1, b2, eds, -st40, -ld40, -aBuild]
      exact ⟨b3, rdR_bad 7 _⟩
  have hget' : ¬ w0 = [103, 101, 116] := hget
  by_cases hput : w0 = putW
  · subst hput
    by_cases hl : tl.length = 1 ∨ tl.length = 2
    · obtain ⟨w1, r, rfl, hr⟩ : ∃ w1 r, tl = w1 :: r ∧ r.length ≤ 1 := by
        cases tl with
        | nil => simp at hl
        | cons a b => exact ⟨a, b, rfl, by rw [List.length_cons] at hl; omega⟩
      have hop : opOf s = opT 2 (w1 :: r) := opOf_fits hw (by show fitsP 2 _; unfold fitsP; simp; simp at hl; omega)
      rw [hop]
      refine aw_mono _ (Q := fun e s1 => e = .ret ∧ s1.ds = [] ∧ Fresh H s1.H ∧ ∃ u, aLoad Tryd.prog 40 (s1.env 2) s1.H = some u ∧ RdR (opT 2 (w1 :: r)) s1.H u) ?_ ?_
      · rintro e s1 ⟨rfl, hd, hf, u, hl, hu⟩
        simp [hd, hf, hl, hu, -ld40]
      have hgo := rput_run hrow0 hr (fun x hx => by have := hsh x (by simp [hx]); omega)
      rcases hl with hl | hl
      · have hr0 : r = [] := List.length_eq_zero_iff.1 (by simpa using hl)
        subst hr0
        simp only [List.length_cons, List.length_nil, Nat.zero_add, Nat.reduceAdd] at e3 e4 hix hrow hgo
        simp at e4
        simp only [strs_length, List.length_cons, List.length_nil, Nat.zero_add, Nat.reduceAdd] at hgo
        simp [e2, e3, e4, hra, hix, g1, g2, Go.undef, np]
        rw [← hra]
        refine callV_R cb37 hgo ?_
        rintro v H4 ⟨f4, hR⟩
        obtain ⟨H5, a1, u, a2, a3, a4⟩ := cpy f4 hR
        simp [e2, a1, a2, eds, -st40, -ld40]
        exact ⟨a3, a4⟩
      · obtain ⟨w2, rfl⟩ : ∃ w2, r = [w2] := by
          match r, (by simpa using hl : r.length = 1) with
          | [w2], _ => exact ⟨w2, rfl⟩
        simp only [List.length_cons, List.length_nil, Nat.zero_add, Nat.reduceAdd] at e3 e4 hix hrow hgo
        simp at e4
        simp only [strs_length, List.length_cons, List.length_nil, Nat.zero_add, Nat.reduceAdd] at hgo
        simp [e2, e3, e4, hra, hix, g1, g2, Go.undef, np]
        rw [← hra]
        refine callV_R cb37 hgo ?_
        rintro v H4 ⟨f4, hR⟩
        obtain ⟨H5, a1, u, a2, a3, a4⟩ := cpy f4 hR
        simp [e2, a1, a2, eds, -st40, -ld40]
        exact ⟨a3, a4⟩
    · have hl1 : ¬ tl.length = 1 := fun h => hl (.inl h)
      have hl2 : ¬ tl.length = 2 := fun h => hl (.inr h)
      have hli : ¬ ((tl.length : Int) + 1 = 2) := by omega
      have hli3 : ¬ ((tl.length : Int) + 1 = 3) := by omega
      have hop : opOf s = bad 7 := opOf_not hw (by show ¬ fitsP 2 _; unfold fitsP; simp; omega)
      rw [hop]
      simp [e2, e3, e4, hra, hix, g1, g2, Go.undef, np, hl1, hl2, hli, hli3, build29, build40, b1, b2, eds, -st40, -ld40, -aBuild]
      exact ⟨b3, rdR_bad 7 _⟩
  have hput' : ¬ w0 = [112, 117, 116] := hput
  by_cases hdel : w0 = delW
  · subst hdel
    by_cases hl : tl.length = 1
    · obtain ⟨w1, rfl⟩ : ∃ w1, tl = [w1] := by
        match tl, hl with
        | [w1], _ => exact ⟨w1, rfl⟩
      have hop : opOf s = if okN w1 = true then ⟨3, rdN w1, [], 0, 0, 0, 0, 0⟩ else bad 7 := by rw [opOf_fits hw (by unfold fitsP; simp [kindL, getW, putW, delW])]; exact opT_keyed (by decide) (by simp)
      simp only [List.length_cons, List.length_nil, Nat.zero_add, Nat.reduceAdd] at e3 e4 hix hrow
      simp at e4
      simp [e2, e3, e4, hra, hix, g1, g2, Go.undef, nd]
      rw [← hra]
      refine callV_R cb36 (rkeyed_run hrow) ?_
      rintro v H4 ⟨f4, rfl⟩
      have hR : RdR (opOf s) H4 (if okN w1 = true then rdV 3 (rdN w1) nilS 0 0 0 0 0 else rdV 0 0 nilS 0 0 0 0 7) := by
        rw [hop]
        cases okN w1 with
        | true => exact ⟨nilS, none, rfl, Row.nil⟩
        | false => exact ⟨nilS, none, rfl, Row.nil⟩
      obtain ⟨H5, a1, u, a2, a3, a4⟩ := cpy f4 hR
      simp [e2, a1, a2, eds, -st40, -ld40]
      exact ⟨a3, a4⟩
    · have hli : ¬ ((tl.length : Int) + 1 = 2) := by omega
      have hop : opOf s = bad 7 := opOf_not hw (by show ¬ fitsP 3 _; unfold fitsP; simp; omega)
      rw [hop]
      simp [e2, e3, e4, hra, hix, g1, g2, Go.undef, nd, hl, hli, build29, build40, b1, b2, eds, -st40, -ld40, -aBuild]
      exact ⟨b3, rdR_bad 7 _⟩
  have hdel' : ¬ w0 = [100, 101, 108, 101, 116, 101] := hdel
  by_cases hres : w0 = resW
  · subst hres
    have hop : opOf s = opT 4 tl := opOf_fits hw (by show fitsP 4 _; unfold fitsP; simp)
    rw [hop, opT_res]
    have hjl : (Lib.join tl [32]).length ≤ s.length := by
      cases tl with
      | nil => simp [Lib.join_nil]
      | cons a b => rw [← hjs, join_cons2]; simp; omega
    obtain ⟨sp, hsp, hrowt⟩ := row_part el54 hrow (lo := some (i64 1)) (hi := none) (a := 1) (b := tl.length + 1) (by simp [bnd]) (by simp [bnd]; omega) (by omega) (by simp)
    have htl : ((strs (resW :: tl)).take (tl.length + 1)).drop 1 = strs tl := by
      rw [List.take_of_length_le (by simp)]
      rfl
    rw [htl] at hrowt
    rw [hra] at hsp
    refine aw_mono _ (Q := fun e s1 => e = .ret ∧ s1.ds = [] ∧ Fresh H s1.H ∧ ∃ u, aLoad Tryd.prog 40 (s1.env 2) s1.H = some u ∧ RdR (if (outOf (Lib.join tl [32])).2.2.2.2 = 0 then ⟨4, 0, [], (outOf (Lib.join tl [32])).1, (outOf (Lib.join tl [32])).2.1, (outOf (Lib.join tl [32])).2.2.1, (outOf (Lib.join tl [32])).2.2.2.1, 0⟩ else bad (outOf (Lib.join tl [32])).2.2.2.2) s1.H u) ?_ ?_
    · rintro e s1 ⟨rfl, hd, hf, u, hl, hu⟩
      simp [hd, hf, hl, -ld40]
      exact hu
    simp [e2, e3, e4, hra, hix, g1, g2, Go.undef, nr, hsp]
    refine callV_R cb39 (rjoin_run hrowt (by omega) (fun x hx => by have := hsh x (by simp [hx]); omega)) ?_
    rintro _ H4 ⟨rfl, hH⟩
    subst hH
    simp
    refine callV_R cb38 (rparse_run (by omega)) ?_
    rintro _ H5 ⟨f5, rfl⟩
    generalize outOf (Lib.join tl [32]) = o
    obtain ⟨p, c, q, g, e⟩ := o
    have a27 : aStore Tryd.prog 27 (ptr H5.next) (cfg p c q g) ⟨H5.next + 1, upd H5.get H5.next (cfgB 0 0 0 0)⟩ = some ⟨H5.next + 1, upd H5.get H5.next (cfgB p c q g)⟩ := by
      rw [st27 _ _ _ rfl]
      show AH.wrs _ _ 0 [i64 p, i64 c, i64 q, i64 g] = _
      rw [wrs_of (cs := [i64 0, i64 0, i64 0, i64 0]) (T := 27) (z := 0) (by simp) (by simp) (by simp), setAll_all _ _ (by simp), updd]
    have l27 : aLoad Tryd.prog 27 (ptr H5.next) ⟨H5.next + 1, upd H5.get H5.next (cfgB p c q g)⟩ = some (cfg p c q g) := by
      rw [ld27, row_of (cs := [i64 p, i64 c, i64 q, i64 g]) (T := 27) (own := true) (z := 0) (by simp) (by simp)]
      simp
    have f6 : Fresh H4 ⟨H5.next + 1, upd H5.get H5.next (cfgB p c q g)⟩ := f5.trans Fresh.ofNew
    have al27 : ∀ H : AH, aAlloc Tryd.prog 27 H = some (ptr H.next, ⟨H.next + 1, upd H.get H.next (cfgB 0 0 0 0)⟩) := fun H => by kernel_rfl
    by_cases he : e = 0
    · subst he
      obtain ⟨a1, a2, a3, _⟩ := fin 4 0 nilS p c q g 0 f6 rfl
      simp [e2, al27, a27, l27, build29c, build40, a1, a2, eds, -st40, -ld40, -aBuild, -st27, -ld27]
      exact ⟨a3, nilS, none, rfl, Row.nil⟩
    · obtain ⟨a1, a2, a3, _⟩ := fin 0 0 nilS 0 0 0 0 e f6 rfl
      simp [e2, al27, a27, l27, he, build29, build40, a1, a2, eds, -st40, -ld40, -aBuild, -st27, -ld27]
      exact ⟨a3, rdR_bad e _⟩
  have hres' : ¬ w0 = [114, 101, 115, 105, 122, 101] := hres
  by_cases hsta : w0 = staW
  · subst hsta
    by_cases hl : tl = []
    · subst hl
      have hop : opOf s = ⟨5, 0, [], 0, 0, 0, 0, 0⟩ := by rw [opOf_fits hw (by decide)]; exact opT_bare (by decide)
      rw [hop]
      obtain ⟨a1, a2, a3, _⟩ := fin 5 0 nilS 0 0 0 0 0 Fresh.refl rfl
      simp at e4 e3 hix
      simp [e2, e3, e4, hra, hix, g1, g2, Go.undef, nst, build29k, build40, a1, a2, eds, -st40, -ld40, -aBuild]
      exact ⟨a3, nilS, none, rfl, Row.nil⟩
    · have hl0 : ¬ tl.length = 0 := fun h => hl (List.length_eq_zero_iff.1 h)
      have hli : ¬ ((tl.length : Int) + 1 = 1) := by omega
      have hop : opOf s = bad 7 := opOf_not hw (by show ¬ fitsP 5 _; unfold fitsP; simp; exact hl)
      rw [hop]
      simp [e2, e3, e4, hra, hix, g1, g2, Go.undef, nst, hl, hl0, hli, build29, build40, b1, b2, eds, -st40, -ld40, -aBuild]
      exact ⟨b3, rdR_bad 7 _⟩
  have hsta' : ¬ w0 = [115, 116, 97, 116, 115] := hsta
  by_cases hdum : w0 = dumW
  · subst hdum
    by_cases hl : tl = []
    · subst hl
      have hop : opOf s = ⟨6, 0, [], 0, 0, 0, 0, 0⟩ := by rw [opOf_fits hw (by decide)]; exact opT_bare (by decide)
      rw [hop]
      obtain ⟨a1, a2, a3, _⟩ := fin 6 0 nilS 0 0 0 0 0 Fresh.refl rfl
      simp at e4 e3 hix
      simp [e2, e3, e4, hra, hix, g1, g2, Go.undef, ndu, build29k, build40, a1, a2, eds, -st40, -ld40, -aBuild]
      exact ⟨a3, nilS, none, rfl, Row.nil⟩
    · have hl0 : ¬ tl.length = 0 := fun h => hl (List.length_eq_zero_iff.1 h)
      have hli : ¬ ((tl.length : Int) + 1 = 1) := by omega
      have hop : opOf s = bad 7 := opOf_not hw (by show ¬ fitsP 6 _; unfold fitsP; simp; exact hl)
      rw [hop]
      simp [e2, e3, e4, hra, hix, g1, g2, Go.undef, ndu, hl, hl0, hli, build29, build40, b1, b2, eds, -st40, -ld40, -aBuild]
      exact ⟨b3, rdR_bad 7 _⟩
  have hdum' : ¬ w0 = [100, 117, 109, 112] := hdum
  have hkz : kindL w0 = 0 := by unfold kindL; rw [if_neg hget, if_neg hput, if_neg hdel, if_neg hres, if_neg hsta, if_neg hdum]
  have hop : opOf s = bad 7 := opOf_not hw (by rw [hkz]; unfold fitsP; simp)
  rw [hop]
  simp [e2, e3, e4, hra, hix, g1, g2, Go.undef, hget', hput', hdel', hres', hsta', hdum', build29, build40, b1, b2, eds, -st40, -ld40, -aBuild]
  exact ⟨b3, rdR_bad 7 _⟩
end Go.Proofs.YtlbgincmndakmaaDoor.C

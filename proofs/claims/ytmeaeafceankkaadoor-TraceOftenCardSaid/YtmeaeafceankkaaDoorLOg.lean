/- TraceOften. Own text of this session. -/
import Derived.Test.YtmeaeafceankkaaDoorLOf
set_option linter.unusedVariables false
set_option linter.unusedSimpArgs false
set_option maxRecDepth 4000
set_option maxHeartbeats 8000000
namespace Go.Proofs.YtmeaeafceankkaaDoor.C
open Go Go.RowKit Go.Proofs.YtmeaeafceankkaaDoorA Go.Proofs.YtmeaeafceankkaaDoor.Plain
variable {H : AH}
theorem put22 {v : Value} (hv : isCell v = true) {H : AH} : aStore Tryd.prog 22 (ptr H.next) v ⟨H.next + 1, upd H.get H.next (.cells [.slice none 0 0] 22 true 0)⟩ = some ⟨H.next + 1, upd H.get H.next (.cells [v] 22 true 0)⟩ := by
  rw [st22 _ _ _ hv, wrs_of (cs := [.slice none 0 0]) (T := 22) (z := 0) (by simp) (by simp) (by simp [hv])]
  simp [setAll, updd7]
theorem traceOften_run {sv : Value} {zs : List Int} {len : Nat} {Oa : Option Nat} {a : Int} (hg : HasG gs H) (hn : nG ≤ H.next) (hrow : Row 39 false H sv (zs.map (Value.int .u64)) Oa) (hlen : zs.length = len) (hwf : ∀ n ∈ zs, (Lit.int .u64 n).wf = true) (w1 : (Lit.int .u8 a).wf = true) :
    CallR cx 5 #[sv, .int .u8 a] H (fun v _ => v = .bool true) := by
  obtain ⟨xs, hxs⟩ := keys_of hwf
  obtain ⟨most, rfl, hmo⟩ : ∃ m : Nat, a = (m : Int) ∧ m ≤ 255 := by
    simp [Lit.wf, IntKind.min, IntKind.max, IntKind.signed, IntKind.bits] at w1
    exact ⟨a.toNat, by omega, by omega⟩
  rw [hxs] at hrow
  clear hxs hwf hlen w1
  have hs := hrow.isSlice
  obtain ⟨rx, rfl, _⟩ := hs
  simp only [List.length_map] at hrow ⊢
  have hOa : ∀ o, Oa = some o → o < H.next := fun o e => by subst e; exact hrow.low
  refine wk5 (by simp) ?_
  unfold c5
  refine aw_cut (fun t => t.env 2 = ptr H.next ∧ t.env 3 = ptr (H.next + 1) ∧ t.env 4 = ptr (H.next + 2) ∧ t.ds = [] ∧ Fresh H t.H ∧ t.H.next = H.next + 3 ∧ t.H.get H.next = some (.cells [.slice rx xs.length xs.length] 22 true 0) ∧ t.H.get (H.next + 1) = some (.cells [.int .u8 most] 5 true 0) ∧ t.H.get (H.next + 2) = some (.cells [.bool false] 4 true 0)) ?_ ?_
  · simp [alloc4, AH.new]
    refine ⟨⟨by simp; omega, fun l hl _ => ?_⟩, ?_⟩
    · simp [show ¬ l = H.next + 1 + 1 by omega, show ¬ l = H.next + 1 by omega, show ¬ l = H.next by omega]
    · simp [show ¬ H.next = H.next + 1 + 1 by omega]
  rintro ⟨env, H1, ds⟩ ⟨e2, e3, e4, eds, f1, n1, rK, rM, rR⟩
  simp only at e2 e3 e4 eds f1 n1 rK rM rR
  generalize hK : H.next = K at *
  have hrow1 := hrow.keep f1 (fun _ _ => id)
  by_cases hbig : 300 < (xs.length : Int)
  · simp [e2, rK, hbig]
    refine callV_R cba (alive_run (hasG_any _)) ?_
    rintro _ H2 ⟨rfl, hH⟩
    subst hH
    simp [e4, rR, eds]
  have hl : xs.length ≤ 300 := by omega
  refine aw_cut (fun t => t.env 2 = ptr K ∧ t.env 3 = ptr (K + 1) ∧ t.env 4 = ptr (K + 2) ∧ t.ds = [] ∧ t.H = H1) (by simp [e2, e3, e4, rK, hbig, eds]) ?_
  clear e2 e3 e4 eds
  rintro ⟨env, H2, ds⟩ ⟨e2, e3, e4, eds, hH⟩
  simp only at e2 e3 e4 eds hH
  subst hH
  -- what is wanted
  refine aw_cut (fun t => t.env 2 = ptr K ∧ t.env 3 = ptr (K + 1) ∧ t.env 4 = ptr (K + 2) ∧ t.ds = [] ∧ Fresh H2 t.H ∧ ∃ Wc wv Ow, t.env 5 = ptr Wc ∧ K + 3 ≤ Wc ∧ Wc < t.H.next ∧ t.H.get Wc = some (.cells [wv] 22 true 0) ∧ Row 39 true t.H wv (gcells (unl xs)) Ow ∧ (∀ o, Ow = some o → K + 3 ≤ o ∧ o ≠ Wc)) ?_ ?_
  · simp [e2, rK]
    refine callV_R cb13 (runlike_run hrow1 (by omega)) ?_
    rintro v H3 ⟨f3, Ow, hw, hO⟩
    have hs := hw.isSlice
    obtain ⟨rw', rfl, _⟩ := hs
    have hp := put22 (v := .slice rw' (gcells (unl xs)).length (gcells (unl xs)).length) rfl (H := H3)
    have hlow : ∀ o, Ow = some o → o < H3.next := fun o e => by subst e; exact hw.low
    have k3 : Fresh H3 ⟨H3.next + 1, upd H3.get H3.next (.cells [.slice rw' (gcells (unl xs)).length (gcells (unl xs)).length] 22 true 0)⟩ := Fresh.ofNew
    have hw' := hw.keep k3 (fun _ _ => id)
    have hn3 := f3.1
    generalize (gcells (unl xs)).length = nn at *
    simp [alloc22, hp, e2, e3, e4, eds, -st22]
    refine ⟨f3.trans k3, ?_⟩
    exact ⟨by omega, Ow, hw', fun o ho => by have := hO o ho; have := hlow o ho; omega⟩
  clear e2 e3 e4 eds
  rintro ⟨env, H3, ds⟩ ⟨e2, e3, e4, eds, f3, Wc, wv, Ow, e5, hW1, hW2, rW, hw, hOw⟩
  simp only at e2 e3 e4 eds f3 e5 hW2 rW hw
  have old3 : ∀ l, l < K + 3 → H3.get l = H2.get l := fun l h => f3.get (by omega)
  -- Often
  refine aw_cut (fun t => t.env 2 = ptr K ∧ t.env 3 = ptr (K + 1) ∧ t.env 4 = ptr (K + 2) ∧ t.env 5 = ptr Wc ∧ t.ds = [] ∧ Fresh H3 t.H ∧ ∃ c, t.env 6 = .func (.func 34) #[] #[ptr c] ∧ OftR xs H3.next t.H c) ?_ ?_
  · simp [e2, old3 K (by omega), rK]
    refine callV_R cb14 (often_run (hrow1.keep f3 (fun _ _ => id)) (by omega)) ?_
    rintro _ H4 ⟨f4, c, rfl, hof⟩
    simp [e2, e3, e4, e5, eds, f4]
    exact hof
  clear e2 e3 e4 e5 eds
  rintro ⟨env, H4, ds⟩ ⟨e2, e3, e4, e5, eds, f4, c, e6, hof⟩
  simp only at e2 e3 e4 e5 eds f4 e6 hof
  have f24 := f3.trans f4
  have old4 : ∀ l, l < K + 3 → H4.get l = H2.get l := fun l h => f24.get (by omega)
  have rW4 : H4.get Wc = some (.cells [wv] 22 true 0) := by rw [f4.get hW2, rW]
  have hw4 := hw.keep f4 (fun _ _ => id)
  have hrow4 := hrow1.keep f24 (fun _ _ => id)
  have hul := unl_le _ xs rfl
  -- Unlike is what is wanted
  refine aw_cut (fun t => t.env 2 = ptr K ∧ t.env 3 = ptr (K + 1) ∧ t.env 4 = ptr (K + 2) ∧ t.env 5 = ptr Wc ∧ t.env 6 = .func (.func 34) #[] #[ptr c] ∧ t.ds = [] ∧ Fresh H4 t.H) ?_ ?_
  · simp [e2, old4 K (by omega), rK]
    refine callV_R cb15 (unlike_run hrow4 (by omega)) ?_
    rintro v H5 ⟨f5, O5, hrow5, _⟩
    have rW5 : H5.get Wc = some (.cells [wv] 22 true 0) := by rw [f5.get (Nat.lt_of_lt_of_le hW2 f4.1), rW4]
    simp [e5, rW5]
    refine callV_R cb11 (ksame_run hrow5 (hw4.keep f5 (fun _ _ => id)) (by omega)) ?_
    rintro _ H6 ⟨rfl, hH⟩
    subst hH
    simp [e2, e3, e4, e5, e6, rW4, rW5, eds, f5]
  clear e2 e3 e4 e5 e6 eds
  rintro ⟨env, H5, ds⟩ ⟨e2, e3, e4, e5, e6, eds, f5⟩
  simp only at e2 e3 e4 e5 e6 eds f5
  have f25 := f24.trans f5
  -- the count
  have put3 : ∀ H : AH, aStore Tryd.prog 3 (ptr H.next) (i64 0) ⟨H.next + 1, upd H.get H.next (.cells [i64 0] 3 true 0)⟩ = some ⟨H.next + 1, upd H.get H.next (.cells [i64 0] 3 true 0)⟩ := fun H => by
    rw [st3 _ _ _ rfl, wrs_of (cs := [i64 0]) (T := 3) (z := 0) (by simp) (by simp) (by simp)]
    simp [setAll, updd7]
  refine aw_cut (fun t => t.env 2 = ptr K ∧ t.env 3 = ptr (K + 1) ∧ t.env 4 = ptr (K + 2) ∧ t.env 5 = ptr Wc ∧ t.env 6 = .func (.func 34) #[] #[ptr c] ∧ t.env 7 = ptr H5.next ∧ t.ds = [] ∧ t.H = ⟨H5.next + 1, upd H5.get H5.next (.cells [i64 0] 3 true 0)⟩) (by simp [alloc3, put3, e2, e3, e4, e5, e6, eds, -st3]) ?_
  clear e2 e3 e4 e5 e6 eds
  rintro ⟨env, H6, ds⟩ ⟨e2, e3, e4, e5, e6, e7, eds, hH⟩
  simp only at e2 e3 e4 e5 e6 e7 eds hH
  have f6 : Fresh H5 H6 := by rw [hH]; exact Fresh.ofNew
  have r6 : H6.get H5.next = some (.cells [i64 0] 3 true 0) := by rw [hH]; simp
  have n6 : H6.next = H5.next + 1 := by rw [hH]
  clear hH
  have f26 := f25.trans f6
  have old6 : ∀ l, l < K + 3 → H6.get l = H2.get l := fun l h => f26.get (by omega)
  have hW5 : Wc < H5.next := Nat.lt_of_lt_of_le hW2 (Nat.le_trans f4.1 f5.1)
  have rW6 : H6.get Wc = some (.cells [wv] 22 true 0) := by rw [f6.get hW5, f5.get (Nat.lt_of_lt_of_le hW2 f4.1), rW4]
  have hw6 := (hw4.keep f5 (fun _ _ => id)).keep f6 (fun _ _ => id)
  have hrow6 := hrow1.keep f26 (fun _ _ => id)
  have hof6 := (hof.fresh f5).fresh f6
  have hOwl : ∀ o, Ow = some o → o < H5.next := fun o e => by subst e; exact (hw4.keep f5 (fun _ _ => id)).low
  obtain ⟨k, hk⟩ : ∃ k, k = min (unl xs).length most := ⟨_, rfl⟩
  refine aw_cut (fun t => t.env 3 = ptr (K + 1) ∧ t.env 4 = ptr (K + 2) ∧ t.env 5 = ptr Wc ∧ t.env 7 = ptr H5.next ∧ t.ds = [H6.next] ∧ t.H.get H6.next = some .mark ∧ t.H.get (K + 1) = some (.cells [.int .u8 most] 5 true 0) ∧ t.H.get (K + 2) = some (.cells [.bool false] 4 true 0) ∧
    (∃ wa, t.H.get Wc = some (.cells [.slice wa (unl xs).length (unl xs).length] 22 true 0)) ∧ t.H.get H5.next = some (.cells [i64 (k : Nat)] 3 true 0)) ?_ ?_
  · simp [e6]
    generalize henv : put _ 65 (some 27) _ = env1
    have g2 : env1 2 = ptr K := by rw [← henv]; simp [e2]
    have g3 : env1 3 = ptr (K + 1) := by rw [← henv]; simp [e3]
    have g4 : env1 4 = ptr (K + 2) := by rw [← henv]; simp [e4]
    have g5 : env1 5 = ptr Wc := by rw [← henv]; simp [e5]
    have g7 : env1 7 = ptr H5.next := by rw [← henv]; simp [e7]
    have g27 : env1 27 = .func (.func 34) #[] #[ptr c] := by rw [← henv]; simp [e6]
    clear henv
    have fb : Fresh H6 ⟨H6.next + 2, upd (upd H6.get H6.next .mark) (H6.next + 1) (.loop env1 65 #[28, 29] c5_0as c5_0bd .ready none H6.next)⟩ := ⟨by simp, fun l hl _ => by
      simp [show ¬ l = H6.next + 1 by omega, show ¬ l = H6.next by omega]⟩
    have gb : ∀ l, l < H6.next → (⟨H6.next + 2, upd (upd H6.get H6.next .mark) (H6.next + 1) (.loop env1 65 #[28, 29] c5_0as c5_0bd .ready none H6.next)⟩ : AH).get l = H6.get l := fun l hl => fb.get hl
    refine range_go (f := 34) (fs := #[]) (cs := #[ptr c]) g27 (by kernel_rfl) (R := _) (often1_run (c := c) (B := H3.next) (O := fun x => x = K ∨ x = K + 1 ∨ x = Wc ∨ x = H5.next ∨ x = H6.next + 1 ∨ Oa = some x ∨ Ow = some x) (of_client (K := K) (M := K + 1) (Wc := Wc) (Nn := H5.next) (L := H6.next + 1) (mk := H6.next) (Oa := Oa) (most := most) (env1 := env1) g2 g3 g5 g7 hl hmo) (hof6.fresh fb) (by omega) ?_) ?_
    · refine ⟨.slice rx xs.length xs.length, wv, Ow, fun y => Iff.rfl, by omega, by omega, ?_, ?_, ?_, ?_, by simp, hrow6.keep fb (fun _ _ => id), hw6.keep fb (fun _ _ => id), hOa, fun o ho => ?_, by simp only; omega⟩
      · rw [gb _ (by omega), old6 _ (by omega), rK]
      · rw [gb _ (by omega), old6 _ (by omega), rM]
      · rw [gb _ (by omega), rW6]
      · rw [gb _ (by omega), r6]; rfl
      · have := hOwl o ho; omega
    · rintro v H7 ⟨rfl, O', hO', hkp, hcase⟩
      have hfin : ∃ e : Ex, (e = .normal ∨ e = .exit 0) ∧ ∃ st, st ≠ .busy ∧ OfI K (K + 1) Wc H5.next (H6.next + 1) H6.next Oa xs most env1 st e.jump k H7 O' := by
        rcases hcase with h | h
        · skip
          have hkk : k = (unl xs).length := by
            obtain ⟨_, _, _, _, _, h3, _⟩ := h
            omega
          rw [← hkk] at h
          exact ⟨.normal, .inl rfl, _, (fun hh => by cases hh), h⟩
        · skip
          have hkk : k = most := by
            obtain ⟨_, _, _, _, h2, _⟩ := h
            omega
          rw [hkk]
          exact ⟨.exit 0, .inr rfl, _, (fun hh => by cases hh), h⟩
      clear hcase
      obtain ⟨e, he, st, hst, sv7, wv7, Ow7, q1, q2, q3, q4, q5, q6, q7, q8, q9, q10, q11, q12, q13⟩ := hfin
      have hs := q10.isSlice
      obtain ⟨wa, rfl, _⟩ := hs
      simp only [List.length_map] at q6
      show withLoop (H7.get (H6.next + 1)) _
      rw [q8, withLoop_some]
      refine ⟨hst, e, rfl, ?_⟩
      have hmk : H7.get H6.next = some .mark := by
        rw [hkp.get (by simp) (by
          intro h
          rcases h with h | h | h | h | h | h | h
          all_goals try omega
          · have := hOa _ h; omega
          · have := hOwl _ h; omega)]
        simp
      have hR : H7.get (K + 2) = some (.cells [.bool false] 4 true 0) := by
        rw [hkp.get (by simp only; omega) (by
          intro h
          rcases h with h | h | h | h | h | h | h
          all_goals try omega
          · have := hOa _ h; omega
          · have := hOw _ h; omega), gb _ (by omega), old6 _ (by omega), rR]
      rcases he with rfl | rfl
      all_goals
        simp [g3, g4, g5, g7, eds, hmk, hR, q5, q6, q7, show ¬ K = H6.next by omega, show ¬ K + 1 = H6.next by omega, show ¬ K + 2 = H6.next by omega, show ¬ H6.next = H6.next + 1 by omega, show ¬ K + 1 = H6.next + 1 by omega, show ¬ K + 2 = H6.next + 1 by omega, show ¬ Wc = H6.next + 1 by omega, show ¬ H5.next = H6.next + 1 by omega]
  clear e2 e3 e4 e5 e6 e7 eds
  rintro ⟨env, H7, ds⟩ ⟨e3, e4, e5, e7, eds, hmk, qM, qR, ⟨wa, qW⟩, qN⟩
  simp only at e3 e4 e5 e7 eds hmk qM qR qW qN
  have hm255 : IntKind.i64.wrap (most : Int) = (most : Int) := w64 (by omega)
  have hkI : (k : Int) = min ((unl xs).length : Int) (most : Int) := by omega
  simp [e3, e4, e5, e7, qM, qW, qN, hm255, hkI]
  refine callV_R cba (alive_run (hasG_any _)) ?_
  rintro _ H8 ⟨rfl, hH⟩
  subst hH
  have nn : ¬ H6.next = K + 2 := by have := f26.1; omega
  have nn2 : ¬ K + 2 = H6.next := by have := f26.1; omega
  simp [e3, e4, e5, e7, qR, eds, takeMarks, hmk, nn, nn2]
end Go.Proofs.YtmeaeafceankkaaDoor.C

/- All's function of a set, over the small heap. Own text of this session. -/
import Derived.Test.YtdmidlgnfepfjaaDoorAll
set_option linter.unusedVariables false
set_option linter.unusedSimpArgs false
set_option maxRecDepth 4000
set_option maxHeartbeats 8000000
namespace Go.Proofs.YtdmidlgnfepfjaaDoor.C
open Go Go.RowKit Go.Proofs.YtdmidlgnfepfjaaDoorA Go.Proofs.YtdmidlgnfepfjaaDoor.Ones
variable {H : AH}
/-- All's function: the set's numbers are told as they were -/
theorem all1_run {H0 : AH} {O : Nat → Prop} {g : Value} {S W w b : Nat} {ws : List Nat} {I : Nat → AH → (Nat → Prop) → Prop} {K : AH → (Nat → Prop) → Prop}
    (hc : Client cx g (fun k => #[i64 (((elemsB ws (64 * ws.length))[k]?).getD 0 : Nat)]) (below ws (64 * ws.length)) I K) (hs : IsSet H0 S W w ws) (hg : HasG gs H0) (hgn : nG ≤ H0.next) (hOg : ∀ l, l < nG → ¬ O l) (hgc : g.cells.toList = [g])
    (hbl : b < H0.next) (hb : H0.get b = some (.cells [ptr S] 23 true 0)) (h0 : I 0 H0 O) :
    CallR cx 26 #[g, ptr b] H0 (fun v H' => v = .tuple #[] ∧ TellEnd (below ws (64 * ws.length)) I K H0 O H') := by
  have hlow := hc.low h0
  have hwd := hs.wide
  have hlen := hs.len
  have hS := hs.hS
  obtain ⟨N, hN⟩ : ∃ N, N = 64 * ws.length := ⟨_, rfl⟩
  rw [← hN] at hc ⊢
  refine wk26 (by simp) ?_
  unfold c26
  refine aw_cut (fun t => t.env 1 = ptr b ∧ t.env 2 = ptr H0.next ∧ t.ds = [] ∧ t.H = ⟨H0.next + 1, upd H0.get H0.next (.cells [g] 29 true 0)⟩) (by simp [hgc, AH.new]) ?_
  rintro ⟨env, H1, ds⟩ ⟨e1, e2, eds, hH⟩
  simp only at e1 e2 eds hH
  have f1 : Fresh H0 H1 := by rw [hH]; exact Fresh.ofNew
  have g1 : H1.get H0.next = some (.cells [g] 29 true 0) := by rw [hH]; simp
  have l1 : H0.next < H1.next := by rw [hH]; simp
  clear hH
  have hs1 := hs.fresh f1
  have hb1 : H1.get b = some (.cells [ptr S] 23 true 0) := by rw [f1.get hbl, hb]
  refine aw_cut (fun t => t.env 1 = ptr b ∧ t.env 2 = ptr H0.next ∧ t.ds = [] ∧ t.H = H1) (by simp [e1, e2, hb1, eds]) ?_
  clear e1 e2 eds
  rintro ⟨env, H1', ds⟩ ⟨e1, e2, eds, hH⟩
  simp only at e1 e2 eds hH
  subst H1'
  have hS1 := hs1.hS
  simp [e1, hb1, hS1]
  refine callV_R cb27 (clone_run hs1) ?_
  rintro cv Hs ⟨f2, Oc, hrow, hOc⟩
  obtain ⟨rc, rfl, _⟩ := hrow.isSlice
  simp only [List.length_map] at hrow
  have fs := f1.trans f2
  have gn0 : Hs.get H0.next = some (.cells [g] 29 true 0) := by rw [f2.get l1, g1]
  have ln0 : H0.next < Hs.next := Nat.lt_of_lt_of_le l1 f2.1
  have hI0 : I 0 Hs O := hc.stable h0 (fun l hl => by rw [fs.get (hlow l hl)]) fs.1
  have hgs := hg.fresh gs_lt hgn fs
  generalize hn0 : H0.next = n0 at *
  simp
  -- the last step
  have fin : ∀ (H2 : AH) (Ok : Nat → Prop) (ds : List Nat) (P : AH → (Nat → Prop) → Prop), (∀ {H H' O}, P H O → (∀ l, O l → H'.get l = H.get l) → H.next ≤ H'.next → P H' O) → P H2 Ok → (∀ l, Ok l → O l ∨ Hs.next ≤ l) → Keep O Hs H2 → ds.Nodup → (∀ l ∈ ds, H2.get l = some .mark ∧ Hs.next ≤ l ∧ ¬ Ok l) →
      ∃ H3, takeMarks ds H2 = some H3 ∧ (∀ l, Ok l → O l ∨ n0 ≤ l) ∧ Keep O H0 H3 ∧ P H3 Ok := by
    intro H2 Ok ds P hP hp hO hk hnd hm
    obtain ⟨H3, t1, t2, t3⟩ := takeMarks_ok ds H2 hnd (fun l hl => (hm l hl).1)
    refine ⟨H3, t1, fun l hl => (hO l hl).imp id (by omega), ⟨by have := hk.1; have := fs.1; omega, fun l hl hn => ?_⟩, hP hp (fun l hl => t3 l (fun h => (hm l h).2.2 hl)) (Nat.le_of_eq t2.symm)⟩
    rw [t3 l (fun h => by have := (hm l h).2.1; have := fs.1; omega), hk.get (by have := fs.1; omega) hn, fs.get hl]
  refine aw_loop_to ws.length (fun a t => t.env 2 = ptr n0 ∧ t.env 12 = .slice rc ws.length ws.length ∧ t.env 13 = i64 (ws.length : Nat) ∧ t.env 14 = i64 (a : Nat) ∧ ∃ Ok, I (below ws (64 * a)) t.H Ok ∧ (∀ l, Ok l → O l ∨ Hs.next ≤ l) ∧ Keep O Hs t.H ∧ t.ds.Nodup ∧ ∀ l ∈ t.ds, t.H.get l = some .mark ∧ Hs.next ≤ l ∧ ¬ Ok l ∧ l < t.H.next) ?_ ?_ ?_
  · clear e1 e2 eds
    rintro a ⟨env, H1, ds⟩ ha ⟨e2, e12, e13, e14, Ok, hik, hok, hkeep, hnd, hmk⟩
    simp only at e2 e12 e13 e14 hik hkeep hnd hmk
    have haN : (a : Int) < ws.length := by omega
    have hw := w64 (n := (a : Int) + 1) (by omega)
    have hr1 := hrow.keep hkeep (fun l e h => by have := hlow _ h; have := hOc l e; omega)
    have hcell := wcell ha
    obtain ⟨x, hxx⟩ : ∃ x, x = ws.getD a 0 := ⟨_, rfl⟩
    have hsm : x < 18446744073709551616 := by
      rw [hxx, List.getD_eq_getElem?_getD, List.getElem?_eq_getElem ha]; exact hs.small _ (List.getElem_mem _)
    rw [← hxx] at hcell
    obtain ⟨la, oa, ca, hrc, g1, g2, _⟩ := hr1.cell hcell
    have hix := ix47 la oa ws.length ws.length .i64 (a : Int) (by omega) haN
    rw [Int.toNat_natCast] at hix
    have gn1 : H1.get n0 = some (.cells [g] 29 true 0) := by rw [hkeep.get ln0 (fun h => by have := hlow _ h; omega), gn0]
    have hOkl := hc.low hik
    have hnk := hkeep.1
    simp [e12, e13, e14, ha, haN, hrc, hix, g1, g2, alloc3]
    rw [upd_twice]
    refine callV_R cb28 ones0_run ?_
    rintro _ _ ⟨rfl, rfl⟩
    simp
    generalize henv : put _ 30 (some 20) _ = env1
    have k2 : env1 2 = ptr n0 := by rw [← henv]; simp [e2]
    have k3 : env1 3 = ptr H1.next := by rw [← henv]; simp
    have k12 : env1 12 = .slice rc ws.length ws.length := by rw [← henv]; simp [e12, hrc]
    have k13 : env1 13 = i64 (ws.length : Nat) := by rw [← henv]; simp [e13]
    have k14 : env1 14 = i64 (a : Nat) := by rw [← henv]; simp [e14]
    have k20 : env1 20 = .func (.func 31) #[] #[ptr (H1.next + 1)] := by rw [← henv]; simp
    clear henv
    have hcl := inner_client hc (n0 := n0) (ba := H1.next) (L := H1.next + 3) (mk := H1.next + 2) (a := a) (x := x) (env1 := env1) (by omega) (by omega) hxx k2 k3
    have hnext : below ws (64 * (a + 1)) = below ws (64 * a) + bitsN x 64 := by
      rw [hxx, ← below_add ws a 64 (Nat.le_refl _)]
      rfl
    have nO : ∀ l, Hs.next ≤ l → ¬ O l := fun l h1 h2 => by have := hlow l h2; omega
    have nOk : ∀ l, H1.next ≤ l → ¬ Ok l := fun l h1 h2 => by have := hOkl l h2; omega
    have nOk0 : ¬ Ok n0 := fun h => by
      rcases hok _ h with h | h
      · have := hlow _ h; omega
      · omega
    -- the heap in which the word's bits are told
    obtain ⟨lp, hlp⟩ : ∃ lp : ABlk, lp = .loop env1 30 #[21] c26_0as c26_0bd .ready none (H1.next + 2) := ⟨_, rfl⟩
    obtain ⟨H4, hH4⟩ : ∃ H4 : AH, H4 = ⟨H1.next + 2 + 2, upd (upd (upd (upd H1.get H1.next (.cells [i64 (a : Nat)] 3 true 0)) (H1.next + 1) (.cells [u64 (x : Nat)] 50 true 0)) (H1.next + 2) .mark) (H1.next + 3) lp⟩ := ⟨_, rfl⟩
    have q0 : H4.get H1.next = some (.cells [i64 (a : Nat)] 3 true 0) := by rw [hH4]; simp
    have q1 : H4.get (H1.next + 1) = some (.cells [u64 (x : Nat)] 50 true 0) := by rw [hH4]; simp
    have q2 : H4.get (H1.next + 2) = some .mark := by rw [hH4]; simp
    have q3 : H4.get (H1.next + 3) = some lp := by rw [hH4]; simp
    have qn : H4.next = H1.next + 4 := by rw [hH4]
    have qf : Fresh H1 H4 := by
      rw [hH4]
      exact ⟨by simp; omega, fun l hl _ => by simp [show ¬ l = H1.next + 3 by omega, show ¬ l = H1.next + 2 by omega, show ¬ l = H1.next + 1 by omega, show ¬ l = H1.next by omega]⟩
    have hg4 : HasG gs H4 := fun y hy => by
      have hlt : y.1 < nG := of_decide_eq_true (List.all_eq_true.1 gs_lt y hy)
      have := fs.1
      rw [qf.get (by omega), hkeep.get (by omega) (hOg _ hlt)]
      exact hgs y hy
    have hI4 : InP (I (below ws (64 * a) + 0)) n0 H1.next (H1.next + 3) (H1.next + 2) g a env1 .ready none H4 (fun y => y = n0 ∨ y = H1.next ∨ y = H1.next + 3 ∨ Ok y) :=
      ⟨Ok, fun y => Iff.rfl, hc.stable hik (fun l hl => qf.get (hOkl l hl)) qf.1, by rw [qf.get (by omega), gn1], q0, by rw [q3, hlp], ⟨by omega, by omega, by omega⟩, ⟨nOk0, nOk _ (Nat.le_refl _), nOk _ (by omega)⟩, by omega, by omega, by omega⟩
    have hrun := ones1_run hcl hsm hg4 (by have := fs.1; omega) (fun l hl h => by
        have := fs.1
        rcases h with h | h | h | h
        · omega
        · omega
        · omega
        · rcases hok l h with h | h
          · exact hOg l hl h
          · omega) (b := H1.next + 1) (by omega) (by have := fs.1; omega) q1 (fun h => by
        rcases h with h | h | h | h
        · omega
        · omega
        · omega
        · exact nOk _ (by omega) h) hI4
    rw [hH4, hlp] at hrun
    refine range_go (f := 31) (fs := #[]) (cs := #[ptr (H1.next + 1)]) k20 (by kernel_rfl) (R := _) hrun ?_
    rintro v H5 ⟨rfl, O', hO', hk5, hcase⟩
    rw [← hlp, ← hH4] at hk5 hO'
    have hk5n := hk5.1
    have hmk5 : H5.get (H1.next + 2) = some .mark := by
      rw [hk5.get (by omega) ?_, q2]
      rintro ((h | h | h | h) | h)
      · omega
      · omega
      · omega
      · exact nOk _ (by omega) h
      · omega
    -- what came of it, for either
    have key : ∀ (P : AH → (Nat → Prop) → Prop) (st : LoopState) (pd : Option Code), (∀ {H H' O}, P H O → (∀ l, O l → H'.get l = H.get l) → H.next ≤ H'.next → P H' O) → InP P n0 H1.next (H1.next + 3) (H1.next + 2) g a env1 st pd H5 O' →
        H5.get (H1.next + 3) = some (.loop env1 30 #[21] c26_0as c26_0bd st pd (H1.next + 2)) ∧ ∃ O2, P ⟨H5.next, YtdmidlgnfepfjaaDoorA.del H5.get (H1.next + 3)⟩ O2 ∧ (∀ l, O2 l → O l ∨ Hs.next ≤ l) ∧ Keep O Hs ⟨H5.next, YtdmidlgnfepfjaaDoorA.del H5.get (H1.next + 3)⟩ ∧ ((H1.next + 2) :: ds).Nodup ∧
          ∀ l ∈ ((H1.next + 2) :: ds), (YtdmidlgnfepfjaaDoorA.del H5.get (H1.next + 3)) l = some .mark ∧ Hs.next ≤ l ∧ ¬ O2 l ∧ l < H5.next := by
      intro P st pd hP hin
      obtain ⟨O2, p1, p2, p3, p4, p5, p6, p7, p8⟩ := hin
      have hO2 : ∀ l, O2 l → (Ok l ∨ H4.next ≤ l) := fun l hl => by
        rcases hO' l ((p1 l).2 (by simp [hl])) with h | h
        · rcases h with h | h | h | h
          · exact absurd (h ▸ hl) p7.1
          · exact absurd (h ▸ hl) p7.2.1
          · exact absurd (h ▸ hl) p7.2.2
          · exact .inl h
        · exact .inr h
      refine ⟨p5, O2, hP p2 (fun l hl => ?_) (Nat.le_refl _), fun l hl => ?_, ⟨by simp; omega, fun l hl hn => ?_⟩, ?_, ?_⟩
      · have : ¬ l = H1.next + 3 := fun e => p7.2.2 (e ▸ hl)
        simp [this]
      · rcases hO2 l hl with h | h
        · exact hok l h
        · right; omega
      · have h3 : ¬ l = H1.next + 3 := by omega
        simp [h3]
        by_cases hl0 : l = n0
        · subst hl0
          rw [p3, gn0]
        rw [hk5.get (by omega) ?_, qf.get (by omega), hkeep.get hl hn]
        rintro ((h | h | h | h) | h)
        · exact hl0 h
        · omega
        · omega
        · rcases hok l h with h | h
          · exact hn h
          · omega
        · omega
      · rw [List.nodup_cons]
        exact ⟨fun h => by have := (hmk _ h).2.2.2; omega, hnd⟩
      · intro l hl
        rcases List.mem_cons.1 hl with rfl | hl
        · refine ⟨by simp [hmk5], by omega, fun h => ?_, by omega⟩
          rcases hO2 _ h with h | h
          · exact nOk _ (by omega) h
          · omega
        · obtain ⟨m1, m2, m3, m4⟩ := hmk l hl
          refine ⟨?_, m2, fun h => ?_, by omega⟩
          · simp [show ¬ l = H1.next + 3 by omega]
            rw [hk5.get (by omega) ?_, qf.get m4, m1]
            rintro ((h | h | h | h) | h)
            · omega
            · omega
            · omega
            · exact m3 h
            · omega
          · rcases hO2 _ h with h | h
            · exact m3 h
            · omega
    show withLoop (H5.get (H1.next + 3)) _
    rcases hcase with hI | hI
    · obtain ⟨p5, O2, c1, c2, c3, c4, c5⟩ := key _ _ _ hc.stable hI
      rw [p5, withLoop_some]
      refine ⟨by simp, .normal, rfl, ?_⟩
      simp [k2, k12, k13, k14, hw]
      rw [← hnext] at c1
      exact ⟨O2, c1, c2, c3, by simpa using c4, by simpa using c5⟩
    · obtain ⟨p5, O2, c1, c2, c3, c4, c5⟩ := key _ _ _ hc.stableK hI
      rw [p5, withLoop_some]
      refine ⟨by simp, .ret, rfl, ?_⟩
      obtain ⟨H6, t1, t2, t3, t4⟩ := fin _ O2 ((H1.next + 2) :: ds) K hc.stableK c1 c2 c3 c4 (fun l hl => ⟨(c5 l hl).1, (c5 l hl).2.1, (c5 l hl).2.2.1⟩)
      simp [t1]
      exact ⟨O2, by rw [hn0]; exact t2, t3, .inr t4⟩
  · clear e1 e2 eds
    rintro ⟨env, H1, ds⟩ ⟨e2, e12, e13, e14, Ok, hik, hok, hkeep, hnd, hmk⟩
    simp only at e2 e12 e13 e14 hik hkeep hnd hmk
    rw [← hN] at hik
    obtain ⟨H3, t1, t2, t3, t4⟩ := fin H1 Ok ds (I (below ws N)) hc.stable hik hok hkeep hnd (fun l hl => ⟨(hmk l hl).1, (hmk l hl).2.1, (hmk l hl).2.2.1⟩)
    simp [e13, e14, t1]
    exact ⟨Ok, by rw [hn0]; exact t2, t3, .inl t4⟩
  · simp [e2, eds, below]
    exact ⟨O, hI0, fun l hl => .inl hl, Keep.refl⟩
end Go.Proofs.YtdmidlgnfepfjaaDoor.C

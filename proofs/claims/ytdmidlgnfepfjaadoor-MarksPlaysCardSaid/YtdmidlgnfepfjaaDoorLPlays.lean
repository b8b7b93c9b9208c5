/- MarksPlays over the small heap. Own text of this session. -/
import Derived.Test.YtdmidlgnfepfjaaDoorStands
set_option linter.unusedVariables false
set_option linter.unusedSimpArgs false
set_option maxRecDepth 4000
set_option maxHeartbeats 8000000
namespace Go.Proofs.YtdmidlgnfepfjaaDoor.C
open Go Go.RowKit Go.Proofs.YtdmidlgnfepfjaaDoorA Go.Proofs.YtdmidlgnfepfjaaDoor.Ones
variable {H : AH}
theorem mnew_bad {n : Int} (h : ¬ (0 ≤ n ∧ n ≤ 65536)) : CallR cx 7 #[i64 n] H (fun v H' => v = .tuple #[.pointer none, i64 1] ∧ H' = H) := by
  refine wk7 (by simp) ?_
  by_cases h1 : n < 0
  · simp [c7, h1]
  have h2 : 65536 < n := by omega
  simp [c7, h1, h2]
theorem i64_wf {a : Int} (h : (Lit.int .i64 a).wf = true) : -9223372036854775808 ≤ a ∧ a ≤ 9223372036854775807 := by
  simp [Lit.wf, IntKind.min, IntKind.max, IntKind.signed, IntKind.bits] at h
  exact h
theorem without_elemsB {ws ws' : List Nat} {n N : Nat} (h : ∀ j, bitAt ws' j = if j = n then false else bitAt ws j) : (elemsB ws N).filter (fun x => decide (x ≠ n)) = elemsB ws' N := by
  rw [elemsB_F, elemsB_F, without_elems]
  exact elemsF_congr N (fun j _ => (h j).symm)
theorem without_none {ws : List Nat} {n N : Nat} (h : N ≤ n) : (elemsB ws N).filter (fun x => decide (x ≠ n)) = elemsB ws N := by
  refine filter_ne fun x hx => ?_
  have := ((mem_elemsB ws x N).1 hx).1
  omega
/-- how the length tells whether a number was put in or dropped -/
theorem len_set {ws ws' : List Nat} {n N : Nat} {b : Bool} (hn : n < N) (h : ∀ j, bitAt ws' j = if j = n then b else bitAt ws j) : below ws' N + (if bitAt ws n then 1 else 0) = below ws N + (if b then 1 else 0) := by
  obtain ⟨d, rfl⟩ : ∃ d, N = n + 1 + d := ⟨N - (n + 1), by omega⟩
  have h1 : ∀ k, k ≤ n → below ws' k = below ws k := fun k => by
    induction k with
    | zero => intro _; rfl
    | succ k ih =>
      intro hk
      have e : bitAt ws' k = bitAt ws k := by rw [h, if_neg (by omega)]
      rw [below, below, ih (by omega), e]
  have h2 : ∀ d, below ws' (n + 1 + d) + below ws (n + 1) = below ws (n + 1 + d) + below ws' (n + 1) := fun d => by
    induction d with
    | zero => simp only [Nat.add_zero]; omega
    | succ d ih =>
      have ih' := ih
      have e : bitAt ws' (n + 1 + d) = bitAt ws (n + 1 + d) := by rw [h, if_neg (by omega)]
      have u1 : below ws' (n + 1 + (d + 1)) = below ws' (n + 1 + d) + (if bitAt ws' (n + 1 + d) then 1 else 0) := rfl
      have u2 : below ws (n + 1 + (d + 1)) = below ws (n + 1 + d) + (if bitAt ws (n + 1 + d) then 1 else 0) := rfl
      rw [e] at u1
      omega
  have h3 := h2 d
  have h4 : below ws' (n + 1) = below ws n + (if b then 1 else 0) := by rw [below, h1 n (Nat.le_refl n), h n, if_pos rfl]
  have h5 : below ws (n + 1) = below ws n + (if bitAt ws n then 1 else 0) := rfl
  omega
theorem marksPlays_run {a0 a2 : Int} {sv : Value} {zs : List Int} {len : Nat} {O : Option Nat} (hg : HasG gs H) (hn : nG ≤ H.next) (hrow : Row 3 false H sv (zs.map (Value.int .i64)) O) (hlen : zs.length = len) (hwf : ∀ n ∈ zs, (Lit.int .i64 n).wf = true) (w0 : (Lit.int .i64 a0).wf = true) (w2 : (Lit.int .i64 a2).wf = true) :
    CallR cx 5 #[.int .i64 a0, sv, .int .i64 a2] H (fun v _ => v = .bool true) := by
  have b2 := i64_wf w2
  obtain ⟨ra, rfl, hra⟩ := hrow.isSlice
  simp only [List.length_map] at hrow
  have hzz : ∀ k (hk : k < zs.length), -9223372036854775808 ≤ zs[k] ∧ zs[k] ≤ 9223372036854775807 := fun k hk => i64_wf (hwf _ (List.getElem_mem hk))
  refine wk5 (by simp) ?_
  unfold c5
  refine aw_cut (fun t => t.env 0 = .int .i64 a0 ∧ t.env 1 = .slice ra zs.length zs.length ∧ t.env 2 = i64 a2 ∧ t.ds = [] ∧ t.H = H) (by simp) ?_
  rintro ⟨env, H', ds⟩ ⟨e0, e1, e2, eds, hH⟩
  simp only at e0 e1 e2 eds hH
  subst hH
  by_cases hb : 0 ≤ a0 ∧ a0 ≤ 65536
  case neg =>
    refine aw_cut (fun t => t.env 0 = .int .i64 a0 ∧ t.env 7 = .pointer none ∧ t.env 8 = i64 1 ∧ t.ds = [] ∧ t.H = H') ?_ ?_
    · simp [e0]
      refine callV_R cb7 (mnew_bad hb) ?_
      rintro _ _ ⟨rfl, rfl⟩
      simp [e0, eds]
    clear e0 e1 e2 eds
    rintro ⟨env, H, ds⟩ ⟨e0, e7, e8, eds, hH⟩
    simp only at e0 e7 e8 eds hH
    subst hH
    by_cases h1 : a0 < 0
    · simp [e0, e7, e8, h1]
      refine callV_R cba (alive_run hg) ?_
      rintro _ _ ⟨rfl, _⟩
      simp [eds]
    · have h2 : 65536 < a0 := by omega
      simp [e0, e7, e8, h1, h2]
      refine callV_R cba (alive_run hg) ?_
      rintro _ _ ⟨rfl, _⟩
      simp [eds]
  obtain ⟨w, rfl⟩ : ∃ w : Nat, a0 = (w : Int) := ⟨a0.toNat, by omega⟩
  have hw1 : w ≤ 65536 := by omega
  refine aw_cut (fun t => t.env 0 = i64 w ∧ t.env 1 = .slice ra zs.length zs.length ∧ t.env 2 = i64 a2 ∧ t.env 7 = ptr (H'.next + 1) ∧ t.env 8 = i64 0 ∧ t.ds = [] ∧ Fresh H' t.H ∧ IsSet t.H (H'.next + 1) H'.next w (List.replicate ((w + 63) / 64) 0)) ?_ ?_
  · simp [e0]
    refine callV_R cb7 (mnew_run hw1) ?_
    rintro _ H1 ⟨rfl, f1, _, hs⟩
    simp [e0, e1, e2, eds, f1, hs]
  clear e0 e1 e2 eds
  rintro ⟨env, H1, ds⟩ ⟨e0, e1, e2, e7, e8, eds, f1, hs⟩
  simp only at e0 e1 e2 e7 e8 eds f1 hs
  generalize hS : H'.next + 1 = S at *
  generalize hW : H'.next = W at *
  have h1 : ¬ (w : Int) < 0 := by omega
  have h2 : ¬ 65536 < (w : Int) := by omega
  have h2' : ¬ 65536 < w := by omega
  refine aw_cut (fun t => t.env 0 = i64 w ∧ t.env 1 = .slice ra zs.length zs.length ∧ t.env 2 = i64 a2 ∧ t.env 7 = ptr S ∧ t.env 8 = i64 0 ∧ t.ds = [] ∧ t.H = H1) (by simp [e0, e1, e2, e7, e8, h1, h2, h2', eds]) ?_
  clear e0 e1 e2 e7 e8 eds
  rintro ⟨env, H2, ds⟩ ⟨e0, e1, e2, e7, e8, eds, hH⟩
  simp only at e0 e1 e2 e7 e8 eds hH
  subst hH
  refine aw_cut (fun t => t.env 0 = i64 w ∧ t.env 1 = .slice ra zs.length zs.length ∧ t.env 2 = i64 a2 ∧ t.env 7 = ptr S ∧ t.ds = [] ∧ t.H = H2) ?_ ?_
  · simp [e7, e8]
    refine callV_R cb18 (width_run hs) ?_
    rintro _ H3 ⟨rfl, hH⟩
    subst hH
    simp [e0, e1, e2, e7, eds]
  clear e0 e1 e2 e7 e8 eds
  rintro ⟨env, H1, ds⟩ ⟨e0, e1, e2, e7, eds, hH⟩
  simp only at e0 e1 e2 e7 eds hH
  subst hH
  have hgf : ∀ {H3 : AH}, Fresh H' H3 → HasG gs H3 := fun f => hg.fresh gs_lt (by omega) f
  by_cases h100 : 100 < (zs.length : Int)
  · simp [e1, h100]
    refine callV_R cba (alive_run (hgf f1)) ?_
    rintro _ _ ⟨rfl, _⟩
    simp [eds]
  refine aw_cut (fun t => t.env 0 = i64 w ∧ t.env 1 = .slice ra zs.length zs.length ∧ t.env 2 = i64 a2 ∧ t.env 7 = ptr S ∧ t.ds = [] ∧ t.H = H1) (by simp [e0, e1, e2, e7, h100, eds]) ?_
  clear e0 e1 e2 e7 eds
  rintro ⟨env, H2, ds⟩ ⟨e0, e1, e2, e7, eds, hH⟩
  simp only at e0 e1 e2 e7 eds hH
  subst hH
  refine aw_cut (fun t => t.env 0 = i64 w ∧ t.env 1 = .slice ra zs.length zs.length ∧ t.env 2 = i64 a2 ∧ t.env 7 = ptr S ∧ t.env 9 = .slice none 0 0 ∧ t.ds = [] ∧ t.H = H2) (by simp [e0, e1, e2, e7, eds]) ?_
  clear e0 e1 e2 e7 eds
  rintro ⟨env, H1, ds⟩ ⟨e0, e1, e2, e7, e9, eds, hH⟩
  simp only at e0 e1 e2 e7 e9 eds hH
  subst hH
  have hemp : elemsB (List.replicate ((w + 63) / 64) 0) w = [] := by
    have h1 := elemsB_len (List.replicate ((w + 63) / 64) 0) w
    have h2 : ∀ k, below (List.replicate ((w + 63) / 64) 0) k = 0 := fun k => by
      induction k with
      | zero => rfl
      | succ k ih => rw [below, ih, bitAt_zero]; rfl
    rw [h2] at h1
    exact List.length_eq_zero_iff.1 h1
  -- the acts
  refine aw_cut (fun t => t.ds = [] ∧ Fresh H' t.H) ?_ ?_
  · simp [e1]
    refine aw_loop_to zs.length (fun k t => t.env 0 = i64 w ∧ t.env 2 = i64 a2 ∧ t.env 7 = ptr S ∧ t.env 52 = .slice ra zs.length zs.length ∧ t.env 53 = i64 (zs.length : Nat) ∧ t.env 54 = i64 (k : Nat) ∧ t.ds = [] ∧ Fresh H' t.H ∧ ∃ ws, IsSet t.H S W w ws ∧ (∀ j, w ≤ j → bitAt ws j = false) ∧ ∃ O', Row 3 true t.H (t.env 9) (icells (elemsB ws w)) O' ∧ ∀ x, O' = some x → S < x) ?_ ?_ ?_
    · clear e0 e1 e2 e7 e9 eds
      rintro k ⟨env, H3, ds⟩ hk ⟨e0, e2, e7, e52, e53, e54, eds, f3, ws, hs3, hz, O', hr3, hO3⟩
      simp only at e0 e2 e7 e52 e53 e54 eds f3 hs3 hr3
      generalize e9 : env 9 = lv at hr3
      have hkN : (k : Int) < zs.length := by omega
      have hwk := w64 (n := (k : Int) + 1) (by omega)
      have hzk := hzz k hk
      obtain ⟨la, oa, ca, hraa, g1, g2, _⟩ := (hrow.keep f3 (fun _ _ => id)).cell (i := k) (x := .int .i64 zs[k]) (by simp [hk])
      have hix := ix34 la oa zs.length zs.length .i64 (k : Int) (by omega) hkN
      rw [Int.toNat_natCast] at hix
      generalize zs[k] = a at g2 hzk
      have hble := below_le ws w
      have hbl := elemsB_len ws w
      obtain ⟨rc, rfl, _⟩ := hr3.isSlice
      simp only [List.length_map] at hr3 e9
      obtain ⟨nl, hnl⟩ : ∃ nl, nl = (elemsB ws w).length := ⟨_, rfl⟩
      rw [← hnl] at hr3 e9
      rw [← hnl] at hbl
      simp [e7, e52, e53, e54, hk, hkN, hraa, hix, g1, g2]
      refine callV_R cb19 (copy_run hs3) ?_
      rintro _ H4 ⟨f4, S', W', rfl, hc4, hS', hW'⟩
      have hs4 := hs3.fresh f4
      have hr4 := hr3.keep f4 (fun _ _ => id)
      have f34 := f3.trans f4
      have hSlt := hs3.lS
      have hWlt := hs3.lW
      -- the act, whichever it is
      have act : ∀ (i : Nat) (H5 : AH) (ws' : List Nat) (lv' : Value) (O5 : Option Nat) (b : Bool), (i : Int) ≤ 9223372036854775807 → Keep (fun l => l = W) H4 H5 → IsSet H5 S W w ws' → (∀ j, w ≤ j → bitAt ws' j = false) → Row 3 true H5 lv' (icells (elemsB ws' w)) O5 → (∀ x, O5 = some x → S < x) → (b = (!decide (below ws' w = below ws w))) →
          CallR cx 21 #[ptr S, lv', i64 a2] H5 (fun v H6 => v = .bool true ∧ Fresh H5 H6) ∧ (∀ H6, Fresh H5 H6 → CallR cx 21 #[ptr S', .slice rc nl nl, i64 i] H6 (fun v H7 => v = .bool true ∧ Fresh H6 H7)) ∧ Fresh H' H5 := by
        intro i H5 ws' lv' O5 b hi k5 hs5 hz5 hr5 hO5 hb5
        have f5 : Fresh H' H5 := ⟨by have := f34.1; have := k5.1; omega, fun l hl _ => by rw [k5.get (by have := f34.1; omega) (by omega), f34.get hl]⟩
        refine ⟨stands_run hs5 hz5 hr5 (hgf f5) (by have := f5.1; omega) b2, fun H6 f6 => ?_, f5⟩
        have hc6 := (hc4.keep k5 (by omega) (by omega)).fresh f6
        have hr6 := (hr4.keep k5 (fun l e h => by have := hO3 l e; omega)).keep f6 (fun _ _ => id)
        exact stands_run hc6 hz hr6 (hgf (f5.trans f6)) (by have := f5.1; have := f6.1; omega) ⟨by omega, hi⟩
      by_cases ha : a < 0
      · obtain ⟨i, hi⟩ : ∃ i : Nat, -1 - a = (i : Int) := ⟨(-1 - a).toNat, by omega⟩
        have hwi : IntKind.i64.wrap (-1 - a) = (i : Int) := by rw [wI (by omega), hi]
        simp [e0, e2, e7, e9, e52, e53, e54, hraa, ha, hwi]
        have hib : (i : Int) ≤ 9223372036854775807 := by omega
        by_cases hiw : i < w
        · have hiI : (i : Int) < w := by omega
          have hiN : ¬ w ≤ i := by omega
          refine callV_R cb17 (drop_run hs4 (i := i) hiw) ?_
          rintro _ H5 ⟨rfl, k5, hn5, ws5, hs5, hb5⟩
          have hr5 := hr4.keep k5 (fun l e h => by have := hO3 l e; omega)
          have hls := len_set (N := w) hiw hb5
          have hz5 : ∀ j, w ≤ j → bitAt ws5 j = false := fun j hj => by rw [hb5, if_neg (by omega)]; exact hz j hj
          simp [e0, e2, e7, e9, e52, e53, e54, hraa, hwk, ha, hwi, hiw, hiI, hiN]
          refine callV_R cb20 (without_run hr5 (by omega)) ?_
          rintro v H6 ⟨f6, O6, hr6, hO6⟩
          rw [without_elemsB hb5] at hr6
          have k6 : Keep (fun l => l = W) H4 H6 := ⟨by have := k5.1; have := f6.1; omega, fun l hl hne => by rw [f6.get (by omega), k5.get hl hne]⟩
          have hSn : S < H5.next := by have := f4.1; omega
          have hO6' : ∀ x, O6 = some x → S < x := fun x hx => by have := hO6 x hx; omega
          obtain ⟨rd, rfl, _⟩ := hr6.isSlice
          simp only [List.length_map] at hr6
          have hl6 := elemsB_len ws5 w
          obtain ⟨n6, hn6⟩ : ∃ n6, n6 = (elemsB ws5 w).length := ⟨_, rfl⟩
          rw [← hn6] at hr6 hl6
          obtain ⟨c1, c2, c3⟩ := act i H6 ws5 _ O6 (!decide (below ws5 w = below ws w)) hib k6 (hs5.fresh f6) hz5 hr6 hO6' rfl
          cases hbit : bitAt ws i with
          | true =>
            rw [hbit] at hls
            simp at hls
            have hne : ¬ n6 = nl := by omega
            have hneI : ¬ (n6 : Int) = (nl : Int) := by omega
            simp [e0, e2, e7, e9, e52, e53, e54, hraa, hwk, ha, hwi, hiw, hiI, ← hn6, hne, hneI, hbit]
            refine callV_R cb21 c1 ?_
            rintro _ HA ⟨rfl, fA⟩
            simp [e0, e2, e7, e9, e52, e53, e54, hraa, hwk, ha, hwi, hiw, hiI, ← hn6, hne, hneI, hbit]
            refine callV_R cb21 (c2 HA fA) ?_
            rintro _ HB ⟨rfl, fB⟩
            simp [e0, e2, e7, e9, e52, e53, e54, hraa, hwk, ha, hwi, hiw, hiI, ← hn6, hne, hneI, hbit, eds]
            exact ⟨(c3.trans fA).trans fB, ws5, (hs5.fresh f6).fresh (fA.trans fB), hz5, O6, hr6.keep (fA.trans fB) (fun _ _ => id), hO6'⟩
          | false =>
            rw [hbit] at hls
            simp at hls
            have hne : nl = n6 := by omega
            subst hne
            simp [e0, e2, e7, e9, e52, e53, e54, hraa, hwk, ha, hwi, hiw, hiI, ← hn6, hbit]
            refine callV_R cb21 c1 ?_
            rintro _ HA ⟨rfl, fA⟩
            simp [e0, e2, e7, e9, e52, e53, e54, hraa, hwk, ha, hwi, hiw, hiI, ← hn6, hbit]
            refine callV_R cb21 (c2 HA fA) ?_
            rintro _ HB ⟨rfl, fB⟩
            simp [e0, e2, e7, e9, e52, e53, e54, hraa, hwk, ha, hwi, hiw, hiI, ← hn6, hbit, eds]
            exact ⟨(c3.trans fA).trans fB, ws5, (hs5.fresh f6).fresh (fA.trans fB), hz5, O6, hr6.keep (fA.trans fB) (fun _ _ => id), hO6'⟩
        · have hiw' : w ≤ i := by omega
          refine callV_R cb17 (drop_out hs4 hiw') ?_
          rintro _ H5 ⟨rfl, hH⟩
          subst hH
          simp [e0, e2, e7, e9, e52, e53, e54, hraa, hwk, ha, hwi, ← hnl]
          refine callV_R cb20 (without_run hr4 (by omega)) ?_
          rintro v H6 ⟨f6, O6, hr6, hO6⟩
          rw [without_none hiw'] at hr6
          have hSn : S < H5.next := by have := f4.1; omega
          have hO6' : ∀ x, O6 = some x → S < x := fun x hx => by have := hO6 x hx; omega
          obtain ⟨rd, rfl, _⟩ := hr6.isSlice
          simp only [List.length_map, ← hnl] at hr6
          obtain ⟨c1, c2, c3⟩ := act i H6 ws _ O6 false hib (Fresh.keep f6) (hs4.fresh f6) hz hr6 hO6' (by simp)
          simp [e0, e2, e7, e9, e52, e53, e54, hraa, hwk, ha, hwi, ← hnl]
          refine callV_R cb21 c1 ?_
          rintro _ HA ⟨rfl, fA⟩
          simp [e0, e2, e7, e9, e52, e53, e54, hraa, hwk, ha, hwi, ← hnl]
          refine callV_R cb21 (c2 HA fA) ?_
          rintro _ HB ⟨rfl, fB⟩
          simp [e0, e2, e7, e9, e52, e53, e54, hraa, hwk, ha, hwi, ← hnl, eds]
          exact ⟨(c3.trans fA).trans fB, ws, (hs4.fresh f6).fresh (fA.trans fB), hz, O6, hr6.keep (fA.trans fB) (fun _ _ => id), hO6'⟩
      · obtain ⟨i, rfl⟩ : ∃ i : Nat, a = (i : Int) := ⟨a.toNat, by omega⟩
        simp [e0, e2, e7, e9, e52, e53, e54, hraa, ha]
        have hib : (i : Int) ≤ 9223372036854775807 := by omega
        by_cases hiw : i < w
        · have hiI : (i : Int) < w := by omega
          have hiN : ¬ w ≤ i := by omega
          refine callV_R cb9 (put_run hs4 (i := i) hiw) ?_
          rintro _ H5 ⟨rfl, k5, hn5, ws5, hs5, hb5⟩
          have hr5 := hr4.keep k5 (fun l e h => by have := hO3 l e; omega)
          have hls := len_set (N := w) hiw hb5
          have hz5 : ∀ j, w ≤ j → bitAt ws5 j = false := fun j hj => by rw [hb5, if_neg (by omega)]; exact hz j hj
          simp [e0, e2, e7, e9, e52, e53, e54, hraa, hwk, ha, hiw, hiI, hiN]
          refine callV_R cb13 (with_run hr5 (by omega) (i := i) (by omega)) ?_
          rintro v H6 ⟨f6, O6, hr6, hO6⟩
          rw [with_elemsB hiw hb5] at hr6
          have k6 : Keep (fun l => l = W) H4 H6 := ⟨by have := k5.1; have := f6.1; omega, fun l hl hne => by rw [f6.get (by omega), k5.get hl hne]⟩
          have hSn : S < H5.next := by have := f4.1; omega
          have hO6' : ∀ x, O6 = some x → S < x := fun x hx => by have := hO6 x hx; omega
          obtain ⟨rd, rfl, _⟩ := hr6.isSlice
          simp only [List.length_map] at hr6
          have hl6 := elemsB_len ws5 w
          obtain ⟨n6, hn6⟩ : ∃ n6, n6 = (elemsB ws5 w).length := ⟨_, rfl⟩
          rw [← hn6] at hr6 hl6
          obtain ⟨c1, c2, c3⟩ := act i H6 ws5 _ O6 (!decide (below ws5 w = below ws w)) hib k6 (hs5.fresh f6) hz5 hr6 hO6' rfl
          cases hbit : bitAt ws i with
          | true =>
            rw [hbit] at hls
            simp at hls
            have hne : nl = n6 := by omega
            subst hne
            simp [e0, e2, e7, e9, e52, e53, e54, hraa, hwk, ha, hiw, hiI, ← hn6, hbit]
            refine callV_R cb21 c1 ?_
            rintro _ HA ⟨rfl, fA⟩
            simp [e0, e2, e7, e9, e52, e53, e54, hraa, hwk, ha, hiw, hiI, ← hn6, hbit]
            refine callV_R cb21 (c2 HA fA) ?_
            rintro _ HB ⟨rfl, fB⟩
            simp [e0, e2, e7, e9, e52, e53, e54, hraa, hwk, ha, hiw, hiI, ← hn6, hbit, eds]
            exact ⟨(c3.trans fA).trans fB, ws5, (hs5.fresh f6).fresh (fA.trans fB), hz5, O6, hr6.keep (fA.trans fB) (fun _ _ => id), hO6'⟩
          | false =>
            rw [hbit] at hls
            simp at hls
            have hne : ¬ n6 = nl := by omega
            have hneI : ¬ (n6 : Int) = (nl : Int) := by omega
            simp [e0, e2, e7, e9, e52, e53, e54, hraa, hwk, ha, hiw, hiI, ← hn6, hne, hneI, hbit]
            refine callV_R cb21 c1 ?_
            rintro _ HA ⟨rfl, fA⟩
            simp [e0, e2, e7, e9, e52, e53, e54, hraa, hwk, ha, hiw, hiI, ← hn6, hne, hneI, hbit]
            refine callV_R cb21 (c2 HA fA) ?_
            rintro _ HB ⟨rfl, fB⟩
            simp [e0, e2, e7, e9, e52, e53, e54, hraa, hwk, ha, hiw, hiI, ← hn6, hne, hneI, hbit, eds]
            exact ⟨(c3.trans fA).trans fB, ws5, (hs5.fresh f6).fresh (fA.trans fB), hz5, O6, hr6.keep (fA.trans fB) (fun _ _ => id), hO6'⟩
        · have hiw' : w ≤ i := by omega
          have hiI : ¬ (i : Int) < w := by omega
          refine callV_R cb9 (put_out hs4 hiw') ?_
          rintro _ H5 ⟨rfl, hH⟩
          subst hH
          obtain ⟨c1, c2, c3⟩ := act i H5 ws _ O' false hib Keep.refl hs4 hz hr4 hO3 (by simp)
          simp [e0, e2, e7, e9, e52, e53, e54, hraa, hwk, ha, hiw, hiw', hiI]
          refine callV_R cb21 c1 ?_
          rintro _ HA ⟨rfl, fA⟩
          simp [e0, e2, e7, e9, e52, e53, e54, hraa, hwk, ha, hiw, hiw', hiI]
          refine callV_R cb21 (c2 HA fA) ?_
          rintro _ HB ⟨rfl, fB⟩
          simp [e0, e2, e7, e9, e52, e53, e54, hraa, hwk, ha, hiw, hiw', hiI, eds]
          exact ⟨(c3.trans fA).trans fB, ws, hs4.fresh (fA.trans fB), hz, O', hr4.keep (fA.trans fB) (fun _ _ => id), hO3⟩
    · clear e0 e1 e2 e7 e9 eds
      rintro ⟨env, H3, ds⟩ ⟨e0, e2, e7, e52, e53, e54, eds, f3, hrest⟩
      simp only at e0 e2 e7 e52 e53 e54 eds f3
      simp [e53, e54, eds, f3]
    · simp [e0, e1, e2, e7, e9, eds]
      exact ⟨f1, _, hs, fun j _ => bitAt_zero _ j, none, by rw [hemp]; exact Row.nil, by simp⟩
  clear e0 e1 e2 e7 e9 eds
  rintro ⟨env, H3, ds⟩ ⟨eds, f3⟩
  simp only at eds f3
  simp
  refine callV_R cba (alive_run (hgf f3)) ?_
  rintro _ _ ⟨rfl, _⟩
  simp [eds]
end Go.Proofs.YtdmidlgnfepfjaaDoor.C

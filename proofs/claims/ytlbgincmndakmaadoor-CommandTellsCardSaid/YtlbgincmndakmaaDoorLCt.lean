/- CommandTells over the small heap. Own text of this session. -/
import Derived.Test.YtlbgincmndakmaaDoorOpG
set_option linter.unusedVariables false
set_option linter.unusedSimpArgs false
set_option maxRecDepth 4000
set_option maxHeartbeats 8000000
namespace Go.Proofs.YtlbgincmndakmaaDoor.C
open Go Go.RowKit Go.Proofs.YtlbgincmndakmaaDoorA Go.Proofs.YtlbgincmndakmaaDoor.Plain
variable {H : AH}
theorem prL_len {k : Int} {n : Nat} {val : List UInt8} {p c q g : Int} (hM : MayO k n val.length p c q g) (hn : n < 18446744073709551616) : (prL k n val p c q g).length < 90000 := by
  have hk := may_kind hM
  have hlen := hM.1
  have hd := dec_len (n := n) (k := 20) (by omega) (by omega)
  unfold MayO at hM
  have h0 : ∀ {l : List UInt8}, l.length = 0 → l = [] := fun h => List.length_eq_zero_iff.1 h
  rcases hk with rfl | rfl | rfl | rfl | rfl | rfl
  · rw [if_pos (by decide)] at hM
    obtain rfl := h0 hM.2.1
    rw [prL_get]; simp [getW]; omega
  · by_cases hv0 : val = []
    · subst hv0
      rw [prL_put0]; simp [putW]; omega
    · rw [prL_put hv0]; simp [putW, hex_len]; omega
  · rw [if_pos (by decide)] at hM
    obtain rfl := h0 hM.2.1
    rw [prL_del]; simp [delW]; omega
  · rw [if_neg (by decide), if_neg (by decide), if_pos rfl] at hM
    obtain ⟨_, hz, _, hm⟩ := hM
    obtain rfl := h0 hz
    have htl := text_len hm
    rw [prL_res]; simp [resW]; omega
  · rw [if_neg (by decide), if_neg (by decide), if_neg (by decide), if_pos (by decide)] at hM
    obtain rfl := h0 hM.2.1
    rw [prL_sta]; decide
  · rw [if_neg (by decide), if_neg (by decide), if_neg (by decide), if_pos (by decide)] at hM
    obtain rfl := h0 hM.2.1
    rw [prL_dum]; decide
theorem commandTells_run {k n' : Int} {sv : Value} {zs : List Int} {len1 : Nat} {Ov : Option Nat} {p c q g : Int} (hg : HasG gs H) (hn : nG ≤ H.next) (hrow1 : Row 5 false H sv (zs.map (Value.int .u8)) Ov) (hlen1 : zs.length = len1) (hwf1 : ∀ n ∈ zs, (Lit.int .u8 n).wf = true)
    (hk' : (Lit.int .i64 k).wf = true) (hn' : (Lit.int .u64 n').wf = true) (hp' : (Lit.int .i64 p).wf = true) (hc' : (Lit.int .i64 c).wf = true) (hq' : (Lit.int .i64 q).wf = true) (hg' : (Lit.int .i64 g).wf = true) :
    CallR cx 3 #[.agg #[i64 k, .int .u64 n', sv, i64 p, i64 c, i64 q, i64 g]] H (fun v _ => v = .bool true) := by
  obtain ⟨val, hval⟩ : ∃ b : List UInt8, zs.map (Value.int .u8) = b.map u8v := by
    refine ⟨zs.map fun n => UInt8.ofNat n.toNat, ?_⟩
    rw [List.map_map]
    refine List.map_congr_left fun n h => ?_
    have := hwf1 n h
    simp [Lit.wf, IntKind.min, IntKind.max, IntKind.signed, IntKind.bits] at this
    simp [u8v]; omega
  obtain ⟨n, rfl, hnn⟩ : ∃ n : Nat, n' = (n : Int) ∧ n < 18446744073709551616 := by
    simp [Lit.wf, IntKind.min, IntKind.max, IntKind.signed, IntKind.bits] at hn'
    exact ⟨n'.toNat, by omega, by omega⟩
  rw [hval] at hrow1
  clear hval hwf1 hlen1 hk' hn' hp' hc' hq' hg'
  obtain ⟨ra, rfl, _⟩ := hrow1.isSlice
  simp only [List.length_map] at hrow1 ⊢
  refine wk3 (by simp) ?_
  unfold c3
  refine aw_cut (fun t => t.env 1 = ptr H.next ∧ t.ds = [] ∧ t.H = H.new (opB k n (.slice ra val.length val.length) p c q g)) (by simp [box29]) ?_
  rintro ⟨env, H1, ds⟩ ⟨e1, eds, hH⟩
  simp only at e1 eds hH
  have f1 : Fresh H H1 := by rw [hH]; exact Fresh.ofNew
  have r1 : H1.get H.next = some (opB k n (.slice ra val.length val.length) p c q g) := by rw [hH]; simp [AH.new]
  have l1 : H.next < H1.next := by rw [hH]; simp [AH.new]
  generalize hp : H.next = b at *
  have hg1 := hg.fresh gs_lt (by rw [hp]; exact hn) f1
  have hn1 : nG ≤ H1.next := Nat.le_trans hn (by omega)
  have hv1 := hrow1.keep f1 (fun _ _ => id)
  clear hH hrow1
  by_cases hvl : 1200 < (val.length : Int)
  · simp [e1, r1, hvl]
    refine callV_R cba (alive_run hg1) ?_
    rintro _ _ ⟨rfl, _⟩
    simp [eds]
  refine aw_cut (fun t => t.env 1 = ptr b ∧ t.ds = [] ∧ t.H = H1) (by simp [e1, r1, hvl, eds]) ?_
  clear e1 eds
  rintro ⟨env, H2, ds⟩ ⟨e1, eds, hH⟩
  simp only at e1 eds hH
  subst hH
  have a0 := ld29b r1
  by_cases hM : MayO k n val.length p c q g
  case neg =>
    refine aw_cut (fun t => t.env 1 = ptr b ∧ t.env 3 = .string (str []) ∧ t.env 4 = i64 1 ∧ t.ds = [] ∧ Fresh H2 t.H) ?_ ?_
    · simp [e1, a0, -ld29]
      refine callV_R cb7 (oprint_run hg1 hn1 hv1 hnn) ?_
      rintro v H3 ⟨f3, _, hno⟩
      obtain rfl := hno hM
      simp [e1, eds, f3]
    clear e1 eds
    rintro ⟨env, H3, ds⟩ ⟨e1, e3, e4, eds, f3⟩
    simp only at e1 e3 e4 eds f3
    have r3 : H3.get b = some (opB k n (.slice ra val.length val.length) p c q g) := by rw [f3.get l1, r1]
    have a3 := ld29b r3
    have hg3 := hg1.fresh gs_lt hn1 f3
    have hn3 : nG ≤ H3.next := Nat.le_trans hn1 f3.1
    simp [e1, a3, -ld29]
    refine callV_R cb8 rmayO_run ?_
    rintro _ H4 ⟨w, rfl, hb, f4⟩
    have hbf : w = false := by cases w with | false => rfl | true => exact absurd (hb.1 rfl) hM
    subst hbf
    simp [e1, e3, e4]
    refine callV_R cba (alive_run (hg3.fresh gs_lt hn3 f4)) ?_
    rintro _ _ ⟨rfl, _⟩
    simp [eds]
  have hpl := prL_len hM hnn
  have hfo := op_forth hM hnn
  refine aw_cut (fun t => t.env 1 = ptr b ∧ t.env 3 = .string (str (prL k n val p c q g)) ∧ t.env 4 = i64 0 ∧ t.ds = [] ∧ Fresh H2 t.H) ?_ ?_
  · simp [e1, a0, -ld29]
    refine callV_R cb7 (oprint_run hg1 hn1 hv1 hnn) ?_
    rintro v H3 ⟨f3, hyes, _⟩
    obtain rfl := hyes hM
    simp [e1, eds, f3]
  clear e1 eds
  rintro ⟨env, H3, ds⟩ ⟨e1, e3, e4, eds, f3⟩
  simp only at e1 e3 e4 eds f3
  have r3 : H3.get b = some (opB k n (.slice ra val.length val.length) p c q g) := by rw [f3.get l1, r1]
  have a3 := ld29b r3
  have hv3 := hv1.keep f3 (fun _ _ => id)
  have hg3 := hg1.fresh gs_lt hn1 f3
  have hn3 : nG ≤ H3.next := Nat.le_trans hn1 f3.1
  refine aw_cut (fun t => t.env 1 = ptr b ∧ t.env 3 = .string (str (prL k n val p c q g)) ∧ t.env 4 = i64 0 ∧ t.ds = [] ∧ Fresh H3 t.H) ?_ ?_
  · simp [e1, a3, -ld29]
    refine callV_R cb8 rmayO_run ?_
    rintro _ H4 ⟨w, rfl, hb, f4⟩
    obtain rfl : w = true := hb.2 hM
    simp [e1, e3, e4, eds, f4]
  clear e1 e3 e4 eds
  rintro ⟨env, H4, ds⟩ ⟨e1, e3, e4, eds, f4⟩
  simp only at e1 e3 e4 eds f4
  have l3 := Nat.lt_of_lt_of_le l1 f3.1
  have r4 : H4.get b = some (opB k n (.slice ra val.length val.length) p c q g) := by rw [f4.get l3, r3]
  have hv4 := hv3.keep f4 (fun _ _ => id)
  have hg4 := hg3.fresh gs_lt hn3 f4
  have hn4 : nG ≤ H4.next := Nat.le_trans hn3 f4.1
  -- Parse
  refine aw_cut (fun t => t.env 1 = ptr b ∧ t.env 3 = .string (str (prL k n val p c q g)) ∧ t.env 4 = i64 0 ∧ t.env 6 = i64 0 ∧ t.ds = [] ∧ Fresh H4 t.H ∧ OpJ ⟨k, n, val, p, c, q, g, 0⟩ t.H (t.env 5)) ?_ ?_
  · simp [e3]
    refine callV_R cb9 (oparse_run hg4 hn4 (by omega)) ?_
    rintro v H5 ⟨f5, sv, O, rfl, hv⟩
    rw [hfo] at hv ⊢
    simp only at hv ⊢
    obtain ⟨rb, rfl, _⟩ := hv.isSlice
    have k2 : Fresh H5 ⟨H5.next + 1, upd H5.get H5.next (opB k n (.slice rb (val.map u8v).length (val.map u8v).length) p c q g)⟩ := Fresh.ofNew
    have hv2 := hv.keep k2 (fun _ _ => id)
    generalize (val.map u8v).length = n1 at *
    simp [alloc29, put_op, e1, e3, e4, eds, -st29, -ld29]
    exact ⟨f5.trans k2, _, O, H5.next, rfl, by simp only; omega, by simp, hv2⟩
  clear e1 e3 e4 eds
  rintro ⟨env, H5, ds⟩ ⟨e1, e3, e4, e6, eds, f5, sv5, O5, l5, e5, hl5, r5, hv5⟩
  simp only at e1 e3 e4 e6 eds f5 e5 hl5 r5 hv5
  have l4 := Nat.lt_of_lt_of_le l3 f4.1
  have r5b : H5.get b = some (opB k n (.slice ra val.length val.length) p c q g) := by rw [f5.get l4, r4]
  have hv5b := hv4.keep f5 (fun _ _ => id)
  have hg5 := hg4.fresh gs_lt hn4 f5
  have hn5 : nG ≤ H5.next := Nat.le_trans hn4 f5.1
  have a5 := ld29b r5
  have a5b := ld29b r5b
  simp [e1, e3, e4, e5, e6, a5, a5b, -ld29]
  refine callV_R cb10 (roprint_run hv5b hnn hM) ?_
  rintro _ H6 ⟨f6, rfl⟩
  have a6 := ld29b (H := H6) (by rw [f6.get hl5, r5])
  have a6b := ld29b (H := H6) (by rw [f6.get (Nat.lt_of_lt_of_le l4 f5.1), r5b])
  simp [e1, e3, e4, e5, e6, a6, a6b, -ld29]
  refine callV_R cb11 (sameO_run (hv5.keep f6 (fun _ _ => id)) (hv5b.keep f6 (fun _ _ => id))) ?_
  rintro _ H7 ⟨rfl, f7⟩
  simp [e1, e3, e4, e5, e6, a6, a6b, -ld29]
  refine callV_R cba (alive_run (hg5.fresh gs_lt hn5 (f6.trans f7))) ?_
  rintro _ _ ⟨rfl, _⟩
  simp [e1, e3, e4, e5, e6, a6, a6b, eds, -ld29]
end Go.Proofs.YtlbgincmndakmaaDoor.C

/- ReplyTells over the small heap. Own text of this session. -/
import Derived.Test.YtpimepdlbhejhaaDoorLRd
set_option linter.unusedVariables false
set_option linter.unusedSimpArgs false
set_option maxRecDepth 4000
set_option maxHeartbeats 8000000
namespace Go.Proofs.YtpimepdlbhejhaaDoor.C
open Go Go.RowKit Go.Proofs.YtpimepdlbhejhaaDoorA Go.Proofs.YtpimepdlbhejhaaDoor.Plain
variable {H : AH}
/-- a line is one answer's alone -/
theorem good_one {k : Int} {s : List UInt8} {h1 h2 : Bool} {v1 v2 : List UInt8} {g1 g2 : List Nat} {e1 e2 : Int} (hA : Good k s h1 v1 g1 e1) (hB : Good k s h2 v2 g2 e2) : h1 = h2 ∧ v1 = v2 ∧ g1 = g2 ∧ e1 = e2 := by
  obtain ⟨w0, tl, hw⟩ := words_cons s
  by_cases hE : w0 = errW ∧ tl.length = 1
  · obtain ⟨rfl, hl⟩ := hE
    obtain ⟨w1, rfl⟩ : ∃ w1, tl = [w1] := by
      match tl, hl with
      | [w1], _ => exact ⟨w1, rfl⟩
    obtain ⟨a1, a2, a3, a4⟩ := goodA hA hw
    obtain ⟨b1, b2, b3, b4⟩ := goodA hB hw
    exact ⟨a1.trans b1.symm, a2.trans b2.symm, a3.trans b3.symm, isI_uniq a4 b4⟩
  obtain rfl := goodB hA hw hE
  obtain rfl := goodB hB hw hE
  by_cases hk1 : k = 1
  · subst hk1
    by_cases hl : tl.length = 1
    · obtain ⟨w1, rfl⟩ : ∃ w1, tl = [w1] := by
        match tl, hl with
        | [w1], _ => exact ⟨w1, rfl⟩
      obtain ⟨a1, a2, a3⟩ := goodGet2 hA hw
      obtain ⟨b1, b2, b3⟩ := goodGet2 hB hw
      exact ⟨a1.trans b1.symm, hex_inj (a3.symm.trans b3), a2.trans b2.symm, rfl⟩
    · obtain ⟨a1, a2, a3⟩ := goodGet1 hA hw hl
      obtain ⟨b1, b2, b3⟩ := goodGet1 hB hw hl
      exact ⟨a1.trans b1.symm, a2.trans b2.symm, a3.trans b3.symm, rfl⟩
  by_cases hk3 : k = 3
  · subst hk3
    obtain ⟨a1, a2, a3⟩ := goodDel hA
    obtain ⟨b1, b2, b3⟩ := goodDel hB
    exact ⟨a1.trans b1.symm, a2.trans b2.symm, a3.trans b3.symm, rfl⟩
  · obtain ⟨a1, a2, _, a3⟩ := goodKeys hA hk1 hk3 hw
    obtain ⟨b1, b2, _, b3⟩ := goodKeys hB hk1 hk3 hw
    exact ⟨a1.trans b1.symm, a2.trans b2.symm, a3.symm.trans b3, rfl⟩
theorem line_len {k : Int} {hit : Bool} {val : List UInt8} {gone : List Nat} {e : Int} (hz : Small64 gone) (hl : val.length ≤ 1200) (hg : gone.length ≤ 40) (he : I64 e) : (lineOf k hit val gone e).length < 90000 := by
  have h1 : (errLine e).length ≤ 30 := by
    have := sdec21 he
    simp [errLine, errP]; omega
  have h2 : (getLine hit val).length ≤ 3000 := by
    have := hex_len val
    unfold getLine
    split
    · split
      · simp [hitW]
      · simp [hitP]; omega
    · simp [missW]
  have h3 : (keysLine gone).length ≤ 2000 := by
    have := keysJ_len hz gone.length (Nat.le_refl _)
    rw [keysW_all] at this
    omega
  unfold lineOf
  split
  · omega
  split
  · omega
  split
  · omega
  split
  · simp [noneW]
  · simp [okW]
theorem replyTells_run {k : Int} {hit : Bool} {sv gv : Value} {zs ys : List Int} {len1 len2 : Nat} {Ov Og : Option Nat} {e : Int} (hg : HasG gs H) (hn : nG ≤ H.next) (hrow1 : Row 5 false H sv (zs.map (Value.int .u8)) Ov) (hlen1 : zs.length = len1) (hwf1 : ∀ n ∈ zs, (Lit.int .u8 n).wf = true)
    (hrow2 : Row 39 false H gv (ys.map (Value.int .u64)) Og) (hlen2 : ys.length = len2) (hwf2 : ∀ n ∈ ys, (Lit.int .u64 n).wf = true) (hk : (Lit.int .i64 k).wf = true) (he' : (Lit.int .i64 e).wf = true) : CallR cx 3 #[i64 k, ansV hit sv gv e] H (fun v _ => v = .bool true) := by
  obtain ⟨val, hval⟩ : ∃ b : List UInt8, zs.map (Value.int .u8) = b.map u8v := by
    refine ⟨zs.map fun n => UInt8.ofNat n.toNat, ?_⟩
    rw [List.map_map]
    refine List.map_congr_left fun n h => ?_
    have := hwf1 n h
    simp [Lit.wf, IntKind.min, IntKind.max, IntKind.signed, IntKind.bits] at this
    simp [u8v]; omega
  obtain ⟨gone, hgone, hz⟩ : ∃ g : List Nat, ys.map (Value.int .u64) = gcells g ∧ Small64 g := by
    refine ⟨ys.map fun n => n.toNat, ?_, ?_⟩
    · rw [gcells, List.map_map]
      refine List.map_congr_left fun n h => ?_
      have := hwf2 n h
      simp [Lit.wf, IntKind.min, IntKind.max, IntKind.signed, IntKind.bits] at this
      simp; omega
    · intro x hx
      obtain ⟨n, h, rfl⟩ := List.mem_map.1 hx
      have := hwf2 n h
      simp [Lit.wf, IntKind.min, IntKind.max, IntKind.signed, IntKind.bits] at this
      omega
  have he : I64 e := by
    simp [Lit.wf, IntKind.min, IntKind.max, IntKind.signed, IntKind.bits] at he'
    unfold I64; omega
  rw [hval] at hrow1
  rw [hgone] at hrow2
  clear hval hgone hwf1 hwf2 hlen1 hlen2 hk he'
  obtain ⟨ra, rfl, _⟩ := hrow1.isSlice
  obtain ⟨rg, rfl, _⟩ := hrow2.isSlice
  simp only [List.length_map] at hrow1 hrow2 ⊢
  refine wk3 (by simp) ?_
  unfold c3
  refine aw_cut (fun t => t.env 0 = i64 k ∧ t.env 3 = ptr H.next ∧ t.ds = [] ∧ t.H = H.new (ansB hit (.slice ra val.length val.length) (.slice rg gone.length gone.length) e)) (by simp [AH.new]) ?_
  rintro ⟨env, H1, ds⟩ ⟨e0, e3, eds, hH⟩
  simp only at e0 e3 eds hH
  have f1 : Fresh H H1 := by rw [hH]; exact Fresh.ofNew
  have r1 : H1.get H.next = some (ansB hit (.slice ra val.length val.length) (.slice rg gone.length gone.length) e) := by rw [hH]; simp [AH.new]
  have l1 : H.next < H1.next := by rw [hH]; simp [AH.new]
  generalize hp : H.next = p at *
  have hg1 := hg.fresh gs_lt (by rw [hp]; exact hn) f1
  have hn1 : nG ≤ H1.next := Nat.le_trans hn (by omega)
  have hv1 := hrow1.keep f1 (fun _ _ => id)
  have hw1 := hrow2.keep f1 (fun _ _ => id)
  clear hH hrow1 hrow2
  by_cases hvl : 1200 < (val.length : Int)
  · simp [e0, e3, r1, hvl]
    refine callV_R cba (alive_run hg1) ?_
    rintro _ _ ⟨rfl, _⟩
    simp [eds]
  by_cases hgl : 40 < (gone.length : Int)
  · simp [e0, e3, r1, hvl, hgl]
    refine callV_R cba (alive_run hg1) ?_
    rintro _ _ ⟨rfl, _⟩
    simp [eds]
  refine aw_cut (fun t => t.env 0 = i64 k ∧ t.env 3 = ptr p ∧ t.ds = [] ∧ t.H = H1) (by simp [e0, e3, r1, hvl, hgl, eds]) ?_
  clear e0 e3 eds
  rintro ⟨env, H2, ds⟩ ⟨e0, e3, eds, hH⟩
  simp only at e0 e3 eds hH
  subst hH
  have hll := line_len (k := k) (hit := hit) (val := val) (gone := gone) (e := e) hz (by omega) (by omega) he
  have a0 := ld27b r1
  -- Print
  refine aw_cut (fun t => t.env 0 = i64 k ∧ t.env 3 = ptr p ∧ t.env 5 = .string (str (lineOf k hit val gone e)) ∧ t.ds = [] ∧ Fresh H2 t.H) ?_ ?_
  · simp [e0, e3, a0, -ld27]
    refine callV_R cb7 (print1_run (val := val) (gone := gone) hv1 hw1 hz (by omega) (by omega) he) ?_
    rintro _ H3 ⟨rfl, f3⟩
    simp [e0, e3, eds, f3]
  clear e0 e3 eds
  rintro ⟨env, H3, ds⟩ ⟨e0, e3, e5, eds, f3⟩
  simp only at e0 e3 e5 eds f3
  have r3 : H3.get p = some (ansB hit (.slice ra val.length val.length) (.slice rg gone.length gone.length) e) := by rw [f3.get l1, r1]
  have hv3 := hv1.keep f3 (fun _ _ => id)
  have hw3 := hw1.keep f3 (fun _ _ => id)
  have hc3 := conv_row hv3
  -- Line
  refine aw_cut (fun t => t.env 0 = i64 k ∧ t.env 3 = ptr p ∧ t.env 5 = .string (str (lineOf k hit val gone e)) ∧ t.ds = [] ∧ Fresh H3 t.H) ?_ ?_
  · simp [e0, e3, e5, r3, hc3]
    refine callV_R cb8 (line_run (val := val) (gone := gone) hw3 hz (by omega) (by omega) he) ?_
    rintro _ H4 ⟨rfl, f4⟩
    simp [e0, e3, e5, eds, f4]
  clear e0 e3 e5 eds
  rintro ⟨env, H4, ds⟩ ⟨e0, e3, e5, eds, f4⟩
  simp only at e0 e3 e5 eds f4
  have f14 := f3.trans f4
  have r4 : H4.get p = some (ansB hit (.slice ra val.length val.length) (.slice rg gone.length gone.length) e) := by rw [f14.get l1, r1]
  have hv4 := hv3.keep f4 (fun _ _ => id)
  have hw4 := hw3.keep f4 (fun _ _ => id)
  have a4 := ld27b r4
  have hg4 := hg1.fresh gs_lt hn1 f14
  have hn4 : nG ≤ H4.next := Nat.le_trans hn1 f14.1
  by_cases hm : MayP k hit val gone e
  case neg =>
    simp [e0, e3, a4, -ld27]
    refine callV_R cb9 (may_run hv4 hw4) ?_
    rintro _ H5 ⟨b, rfl, hb, f5⟩
    have hbf : b = false := by cases b with | false => rfl | true => exact absurd (hb.1 rfl) hm
    subst hbf
    simp [e0, e3]
    refine callV_R cba (alive_run (hg4.fresh gs_lt hn4 f5)) ?_
    rintro _ _ ⟨rfl, _⟩
    simp [eds]
  refine aw_cut (fun t => t.env 0 = i64 k ∧ t.env 3 = ptr p ∧ t.env 5 = .string (str (lineOf k hit val gone e)) ∧ t.ds = [] ∧ Fresh H4 t.H) ?_ ?_
  · simp [e0, e3, a4, -ld27]
    refine callV_R cb9 (may_run hv4 hw4) ?_
    rintro _ H5 ⟨b, rfl, hb, f5⟩
    obtain rfl : b = true := hb.2 hm
    simp [e0, e3, e5, eds, f5]
  clear e0 e3 e5 eds
  rintro ⟨env, H5, ds⟩ ⟨e0, e3, e5, eds, f5⟩
  simp only at e0 e3 e5 eds f5
  have f15 := f14.trans f5
  have r5 : H5.get p = some (ansB hit (.slice ra val.length val.length) (.slice rg gone.length gone.length) e) := by rw [f15.get l1, r1]
  have hv5 := hv4.keep f5 (fun _ _ => id)
  have hw5 := hw4.keep f5 (fun _ _ => id)
  have hG : Good k (lineOf k hit val gone e) hit val gone e := ⟨hm, hz, rfl⟩
  generalize lineOf k hit val gone e = s at *
  -- Read
  refine aw_cut (fun t => t.env 0 = i64 k ∧ t.env 3 = ptr p ∧ t.env 7 = .bool true ∧ t.ds = [] ∧ Fresh H5 t.H ∧ RdI k s t.H (t.env 6) (.bool true)) ?_ ?_
  · simp [e0, e5]
    refine callV_R cb10 (read1_run (by omega)) ?_
    rintro v H6 ⟨f6, hv⟩
    obtain ⟨h2, v2, g2, e2, sv, gv, Ov2, Og2, ok, rfl, hr1, hr2, hok, hno⟩ := readR_shape hv
    obtain rfl : ok = true := by cases ok with | true => rfl | false => exact absurd hG ((hno rfl).2.2.2.2 _ _ _ _)
    obtain ⟨rb, rfl, _⟩ := hr1.isSlice
    obtain ⟨rh, rfl, _⟩ := hr2.isSlice
    generalize (v2.map u8v).length = n1 at *
    generalize (gcells g2).length = n2 at *
    have a1 : aStore Tryd.prog 27 (ptr H6.next) (ansV h2 (.slice rb n1 n1) (.slice rh n2 n2) e2) ⟨H6.next + 1, upd H6.get H6.next (ansB false nilS nilS 0)⟩ = some ⟨H6.next + 1, upd H6.get H6.next (ansB h2 (.slice rb n1 n1) (.slice rh n2 n2) e2)⟩ := by
      rw [st27b (b := false) (s := nilS) (g := nilS) (e := 0) (by simp) rfl rfl, updd]
    have k2 : Fresh H6 ⟨H6.next + 1, upd H6.get H6.next (ansB h2 (.slice rb n1 n1) (.slice rh n2 n2) e2)⟩ := Fresh.ofNew
    have hv2 := hr1.keep k2 (fun _ _ => id)
    have hg2 := hr2.keep k2 (fun _ _ => id)
    simp [alloc27, a1, e0, e3, eds, -st27, -ld27]
    exact ⟨f6.trans k2, h2, v2, g2, e2, _, _, Ov2, Og2, H6.next, true, rfl, rfl, by simp only; omega, by simp, hv2, hg2, hok, hno⟩
  clear e0 e3 e5 eds
  rintro ⟨env, H6, ds⟩ ⟨e0, e3, e7, eds, f6, h2, v2, g2, e2, sv, gv, Ov2, Og2, l, ok, e6, hok', hl, r6, hr1, hr2, hok, _⟩
  simp only at e0 e3 e7 eds f6 e6 hl r6 hr1 hr2
  cases hok'
  obtain ⟨rfl, rfl, rfl, rfl⟩ := good_one hG (hok rfl)
  have r6p : H6.get p = some (ansB hit (.slice ra val.length val.length) (.slice rg gone.length gone.length) e) := by rw [(f15.trans f6).get l1, r1]
  have a6 := ld27b r6
  have a6p := ld27b r6p
  have hg6 := hg1.fresh gs_lt hn1 (f15.trans f6)
  have hn6 : nG ≤ H6.next := Nat.le_trans hn1 (f15.trans f6).1
  simp [e3, e6, e7, a6, a6p, -ld27]
  refine callV_R cb11 (same_run hr1 hr2 (hv5.keep f6 (fun _ _ => id)) (hw5.keep f6 (fun _ _ => id)) (by omega)) ?_
  rintro _ H7 ⟨rfl, f7⟩
  simp [e3, e6, e7, eds]
  refine callV_R cba (alive_run (hg6.fresh gs_lt hn6 f7)) ?_
  rintro _ _ ⟨rfl, _⟩
  simp [e3, e6, e7, eds]
end Go.Proofs.YtpimepdlbhejhaaDoor.C

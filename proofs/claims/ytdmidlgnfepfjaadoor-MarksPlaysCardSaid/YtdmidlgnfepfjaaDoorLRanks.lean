/- MarksRanks over the small heap. Own text of this session. -/
import Derived.Test.YtdmidlgnfepfjaaDoorNext
set_option linter.unusedVariables false
set_option linter.unusedSimpArgs false
set_option maxRecDepth 4000
set_option maxHeartbeats 4000000
namespace Go.Proofs.YtdmidlgnfepfjaaDoor.C
open Go Go.RowKit Go.Proofs.YtdmidlgnfepfjaaDoorA Go.Proofs.YtdmidlgnfepfjaaDoor.Ones
variable {H : AH}
theorem mk47 (n : Nat) (h : n ≤ 1000000) (H : AH) : aMakeSlice Tryd.prog 47 (.int .i64 n) (.int .i64 n) H = some (.slice (some ⟨H.next, 0, none⟩) n n, ⟨H.next + 1, upd H.get H.next (.cells (wcells (List.replicate n 0)) 50 true 1)⟩) := by
  have hi : Tryd.prog.info? 50 = some ((Tryd.prog.info? 50).getD default) := by kernel_rfl
  have hz : zeroOf Tryd.prog 50 = some [.int .u64 0] := by kernel_rfl
  have hs : ((Tryd.prog.info? 50).getD default).size = 1 := by kernel_rfl
  have hb : ((Tryd.prog.info? 50).getD default).bytes = 8 := by kernel_rfl
  simp only [aMakeSlice, un47, hz]
  rw [hi]
  simp only [hs, hb]
  rw [if_pos ⟨by omega, Int.le_refl _, by omega, by omega⟩]
  have : rowZeros [Value.int .u64 0] ((n : Int).toNat * 1) = wcells (List.replicate n 0) := by
    refine List.ext_getElem (by simp [rowZeros, wcells]) ?_
    intro i h1 h2
    simp [rowZeros, Nat.mod_one, wcells]
  rw [this]
  simp
  rfl
theorem upd_twice (f : Nat → Option ABlk) (a : Nat) (x y : ABlk) : upd (upd f a x) a y = upd f a y := by
  funext l
  by_cases h : l = a <;> simp [h]
/-- marks.New -/
theorem mnew_run {w : Nat} (hw : w ≤ 65536) : CallR cx 7 #[i64 w] H (fun v H' => v = .tuple #[ptr (H.next + 1), i64 0] ∧ Fresh H H' ∧ H'.next = H.next + 2 ∧ IsSet H' (H.next + 1) H.next w (List.replicate ((w + 63) / 64) 0)) := by
  refine wk7 (by simp) ?_
  have h0 : ¬ (w : Int) < 0 := by omega
  have h1 : ¬ 65536 < (w : Int) := by omega
  obtain ⟨x, hx⟩ : ∃ x, x = w + 63 := ⟨_, rfl⟩
  have hw1 : IntKind.i64.wrap ((w : Int) + 63) = (x : Int) := by rw [w64 (by omega)]; omega
  have hq : ∀ ox oy, aBin Tryd.prog .quo 3 ox oy (i64 (x : Int)) (i64 64) = some (i64 ((x / 64 : Nat) : Int)) := fun ox oy => by
    rw [aBin_quo (P := Tryd.prog) 3 ox oy .i64 (x : Int) 64 (by decide)]
    have : Int.tdiv (x : Int) 64 = ((x / 64 : Nat) : Int) := rfl
    rw [this, w64 (by omega)]
  have hn : x / 64 = (w + 63) / 64 := by rw [hx]
  obtain ⟨y, hy⟩ : ∃ y, y = x / 64 := ⟨_, rfl⟩
  rw [← hy] at hq hn
  have hmk := mk47 y (by omega) H
  simp [c7, h0, h1, hw1, hq, hmk, AH.new, -List.map_replicate, -List.reduceReplicate]
  refine ⟨⟨by simp; omega, fun l hl _ => by simp [show ¬ l = H.next + 1 by omega, show ¬ l = H.next by omega]⟩, ?_⟩
  rw [← hn]
  refine ⟨by simp, by simp [wcells], by simp [hn], fun z hz => ?_, hw, by simp, by simp; omega, by omega⟩
  rw [List.eq_of_mem_replicate hz]; decide
theorem bitAt_zero (n j : Nat) : bitAt (List.replicate n 0) j = false := by
  unfold bitAt
  have : (List.replicate n 0).getD (j / 64) 0 = 0 := by
    rw [List.getD_eq_getElem?_getD, List.getElem?_replicate]
    split <;> rfl
  rw [this]
  simp
theorem u16_wf {a : Int} (h : (Lit.int .u16 a).wf = true) : 0 ≤ a ∧ a ≤ 65535 := by
  simp [Lit.wf, IntKind.min, IntKind.max, IntKind.signed, IntKind.bits] at h
  exact h
theorem below_gap {ws : List Nat} {i : Nat} : ∀ d, (∀ m, i ≤ m → m < i + d → bitAt ws m = false) → below ws (i + d) = below ws i
  | 0, _ => rfl
  | d + 1, h => by
    rw [← Nat.add_assoc, below, h (i + d) (by omega) (by omega), below_gap d (fun m h1 h2 => h m h1 (by omega))]
    rfl
/-- Next is Pick of the rank -/
theorem next_pick {ws : List Nat} {w i c : Nat} {v v' : Value} (hz : ∀ j, w ≤ j → bitAt ws j = false) (hc : c = min i w) (h1 : NextR ws i v) (h2 : PickR ws (below ws c) v') : v = v' := by
  rcases h1 with ⟨j, b1, b2, b3, rfl⟩ | ⟨b1, rfl⟩
  · have hjw : j < w := by
      rcases Nat.lt_or_ge j w with h | h
      · exact h
      · have := hz j h; rw [b1] at this; cases this
    have hci : c = i := by omega
    subst hci
    have hb : below ws j = below ws c := by
      have := below_gap (ws := ws) (i := c) (j - c) (fun m h1 h2 => b3 m h1 (by omega))
      rwa [show c + (j - c) = j by omega] at this
    rcases h2 with ⟨j2, d1, d2, rfl⟩ | ⟨d1, rfl⟩
    · rw [below_inj b1 d1 (by rw [hb, d2])]
    · exact absurd hb (d1 j b1)
  · rcases h2 with ⟨j2, d1, d2, rfl⟩ | ⟨d1, rfl⟩
    · have h3 : j2 < i := by
        rcases Nat.lt_or_ge j2 i with h | h
        · exact h
        · have := b1 j2 h; rw [d1] at this; cases this
      have h4 : j2 < w := by
        rcases Nat.lt_or_ge j2 w with h | h
        · exact h
        · have := hz j2 h; rw [d1] at this; cases this
      have := below_strict ws (show j2 < c by omega) d1
      omega
    · rfl
theorem marksRanks_run {sv : Value} {zs : List Int} {len : Nat} {O : Option Nat} {a1 : Int} (hg : HasG gs H) (hn : nG ≤ H.next) (hrow : Row 28 false H sv (zs.map (Value.int .u16)) O) (hlen : zs.length = len) (hwf : ∀ n ∈ zs, (Lit.int .u16 n).wf = true) (w1 : (Lit.int .i64 a1).wf = true) :
    CallR cx 3 #[sv, .int .i64 a1] H (fun v _ => v = .bool true) := by
  obtain ⟨ra, rfl, hra⟩ := hrow.isSlice
  simp only [List.length_map] at hrow
  obtain ⟨w, hw⟩ : ∃ w : Nat, w = 65536 := ⟨_, rfl⟩
  have hnew := mnew_run (H := H) (w := w) (by omega)
  rw [show ((w : Nat) : Int) = 65536 by omega] at hnew
  refine wk3 (by simp) ?_
  unfold c3
  refine aw_cut (fun t => t.env 0 = .slice ra zs.length zs.length ∧ t.env 1 = i64 a1 ∧ t.ds = [] ∧ t.H = H) (by simp) ?_
  rintro ⟨env, H', ds⟩ ⟨e0, e1, eds, hH⟩
  simp only at e0 e1 eds hH
  subst hH
  refine aw_cut (fun t => t.env 0 = .slice ra zs.length zs.length ∧ t.env 1 = i64 a1 ∧ t.env 5 = ptr (H'.next + 1) ∧ t.env 6 = i64 0 ∧ t.ds = [] ∧ Fresh H' t.H ∧ IsSet t.H (H'.next + 1) H'.next w (List.replicate ((w + 63) / 64) 0)) ?_ ?_
  · simp
    refine callV_R cb7 hnew ?_
    rintro _ H1 ⟨rfl, f1, _, hs⟩
    simp [e0, e1, eds, f1, hs]
  clear e0 e1 eds
  rintro ⟨env, H1, ds⟩ ⟨e0, e1, e5, e6, eds, f1, hs⟩
  simp only at e0 e1 e5 e6 eds f1 hs
  generalize hS : H'.next + 1 = S at *
  generalize hW : H'.next = W at *
  refine aw_cut (fun t => t.env 0 = .slice ra zs.length zs.length ∧ t.env 1 = i64 a1 ∧ t.env 5 = ptr S ∧ t.ds = [] ∧ t.H = H1) (by simp [e0, e1, e5, e6, eds]) ?_
  clear e0 e1 e5 e6 eds
  rintro ⟨env, H2, ds⟩ ⟨e0, e1, e5, eds, hH⟩
  simp only at e0 e1 e5 eds hH
  subst hH
  have hgf : ∀ {H3 : AH}, Fresh H' H3 → HasG gs H3 := fun f => hg.fresh gs_lt (by omega) f
  by_cases h200 : 200 < (zs.length : Int)
  · simp [e0, h200]
    refine callV_R cba (alive_run (hgf f1)) ?_
    rintro _ _ ⟨rfl, _⟩
    simp [eds]
  refine aw_cut (fun t => t.env 0 = .slice ra zs.length zs.length ∧ t.env 1 = i64 a1 ∧ t.env 5 = ptr S ∧ t.ds = [] ∧ t.H = H2) (by simp [e0, e1, e5, h200, eds]) ?_
  clear e0 e1 e5 eds
  rintro ⟨env, H1, ds⟩ ⟨e0, e1, e5, eds, hH⟩
  simp only at e0 e1 e5 eds hH
  subst hH
  have hz16 : ∀ k (hk : k < zs.length), 0 ≤ zs[k] ∧ zs[k] ≤ 65535 := fun k hk => u16_wf (hwf _ (List.getElem_mem hk))
  -- the numbers are put in
  refine aw_cut (fun t => t.env 0 = .slice ra zs.length zs.length ∧ t.env 1 = i64 a1 ∧ t.env 5 = ptr S ∧ t.ds = [] ∧ Fresh H' t.H ∧ ∃ ws, IsSet t.H S W w ws ∧ (∀ m (hm : m < zs.length), bitAt ws (zs[m]).toNat = true) ∧ ∀ j, w ≤ j → bitAt ws j = false) ?_ ?_
  · simp [e0]
    refine aw_loop_to zs.length (fun k t => t.env 0 = .slice ra zs.length zs.length ∧ t.env 1 = i64 a1 ∧ t.env 5 = ptr S ∧ t.env 31 = .slice ra zs.length zs.length ∧ t.env 32 = i64 (zs.length : Nat) ∧ t.env 33 = i64 (k : Nat) ∧ t.ds = [] ∧ Fresh H' t.H ∧ ∃ ws, IsSet t.H S W w ws ∧ (∀ m (hm : m < zs.length), m < k → bitAt ws (zs[m]).toNat = true) ∧ ∀ j, w ≤ j → bitAt ws j = false) ?_ ?_ ?_
    · clear e0 e1 e5 eds
      rintro k ⟨env, H2, ds⟩ hk ⟨e0, e1, e5, e31, e32, e33, eds, f2, ws, hs2, hb, hz⟩
      simp only at e0 e1 e5 e31 e32 e33 eds f2 hs2
      have hkN : (k : Int) < zs.length := by omega
      have hw := w64 (n := (k : Int) + 1) (by omega)
      have hz := hz16 k hk
      obtain ⟨la, oa, ca, hraa, g1, g2, _⟩ := (hrow.keep f2 (fun _ _ => id)).cell (i := k) (x := .int .u16 zs[k]) (by simp [hk])
      have hix := ix22 la oa zs.length zs.length .i64 (k : Int) (by omega) hkN
      rw [Int.toNat_natCast] at hix
      obtain ⟨n, hnn⟩ : ∃ n : Nat, zs[k] = (n : Int) := ⟨(zs[k]).toNat, by omega⟩
      rw [hnn] at g2 hz
      have hwn := w64 (n := (n : Int)) (by omega)
      have hput := put_run hs2 (i := n) (by omega)
      simp [e5, e31, e32, e33, hk, hkN, hraa, hix, g1, g2, hwn]
      refine callV_R cb9 hput ?_
      rintro _ H3 ⟨rfl, k3, hn3, ws', hs3, hb3⟩
      simp [e0, e1, e5, e31, e32, e33, hraa, hw, eds]
      refine ⟨⟨by have := f2.1; omega, fun l hl _ => by rw [k3.get (by have := f2.1; omega) (by omega), f2.get hl]⟩, ws', hs3, fun m hm hmk => ?_, fun j hj => ?_⟩
      · rw [hb3]
        by_cases e : m = k
        · subst e
          have : (zs[m]).toNat = n := by omega
          simp [this]
        · rw [hb m hm (by omega)]
          simp
      · rw [hb3, if_neg (by omega)]
        exact (by assumption : ∀ j, w ≤ j → bitAt ws j = false) j hj
    · clear e0 e1 e5 eds
      rintro ⟨env, H2, ds⟩ ⟨e0, e1, e5, e31, e32, e33, eds, f2, ws, hs2, hb, hz⟩
      simp only at e0 e1 e5 e31 e32 e33 eds f2 hs2
      simp [e0, e1, e5, e32, e33, eds]
      exact ⟨f2, ws, hs2, fun m hm => hb m hm hm, hz⟩
    · simp [e0, e1, e5, eds]
      exact ⟨f1, _, hs, fun j _ => bitAt_zero _ j⟩
  clear e0 e1 e5 eds
  rintro ⟨env, H2, ds⟩ ⟨e0, e1, e5, eds, f2, ws, hs2, hb, hz⟩
  simp only at e0 e1 e5 eds f2 hs2
  have hg2 := hgf f2
  -- each is found again
  refine aw_cut (fun t => t.env 1 = i64 a1 ∧ t.env 5 = ptr S ∧ t.ds = [] ∧ t.H = H2) ?_ ?_
  · simp [e0]
    refine aw_loop_to zs.length (fun k t => t.env 1 = i64 a1 ∧ t.env 5 = ptr S ∧ t.env 42 = .slice ra zs.length zs.length ∧ t.env 43 = i64 (zs.length : Nat) ∧ t.env 44 = i64 (k : Nat) ∧ t.ds = [] ∧ t.H = H2) ?_ ?_ ?_
    · clear e0 e1 e5 eds
      rintro k ⟨env, H3, ds⟩ hk ⟨e1, e5, e42, e43, e44, eds, hH⟩
      simp only at e1 e5 e42 e43 e44 eds hH
      subst hH
      have hkN : (k : Int) < zs.length := by omega
      have hw := w64 (n := (k : Int) + 1) (by omega)
      have hz := hz16 k hk
      obtain ⟨la, oa, ca, hraa, g1, g2, _⟩ := (hrow.keep f2 (fun _ _ => id)).cell (i := k) (x := .int .u16 zs[k]) (by simp [hk])
      have hix := ix22 la oa zs.length zs.length .i64 (k : Int) (by omega) hkN
      rw [Int.toNat_natCast] at hix
      obtain ⟨n, hnn⟩ : ∃ n : Nat, zs[k] = (n : Int) := ⟨(zs[k]).toNat, by omega⟩
      have hbn := hb k hk
      rw [hnn] at g2 hz hbn
      rw [Int.toNat_natCast] at hbn
      have hwn := w64 (n := (n : Int)) (by omega)
      have hrank := rank_run hs2 (i := (n : Int)) (c := n) (by omega)
      have hbl := below_le ws n
      have hpick := pick_run hs2 hg2 (k := below ws n) (by omega)
      simp [e5, e42, e43, e44, hk, hkN, hraa, hix, g1, g2, hwn]
      refine callV_R cb11 hrank ?_
      rintro _ H4 ⟨rfl, hH⟩
      subst hH
      simp [e5]
      refine callV_R cb10 hpick ?_
      rintro v H5 ⟨hp, hH⟩
      subst hH
      rcases hp with ⟨j, d1, d2, rfl⟩ | ⟨d1, rfl⟩
      · obtain rfl := below_inj d1 hbn d2
        simp [e1, e5, e42, e43, e44, hraa, hw, hwn, eds]
      · exact absurd rfl (d1 n hbn)
    · clear e0 e1 e5 eds
      rintro ⟨env, H3, ds⟩ ⟨e1, e5, e42, e43, e44, eds, hH⟩
      simp only at e1 e5 e42 e43 e44 eds hH
      simp [e1, e5, e43, e44, eds, hH]
    · simp [e1, e5, eds]
  clear e0 e1 e5 eds
  rintro ⟨env, H3, ds⟩ ⟨e1, e5, eds, hH⟩
  simp only at e1 e5 eds hH
  subst hH
  obtain ⟨i, hi⟩ : ∃ i : Nat, max 0 a1 = (i : Int) := ⟨(max 0 a1).toNat, by omega⟩
  obtain ⟨c, hc⟩ : ∃ c, c = min i w := ⟨_, rfl⟩
  have hci : max 0 (min a1 (w : Int)) = (c : Int) := by omega
  have hbl := below_le ws c
  have hpick := pick_run hs2 hg2 (k := below ws c) (by omega)
  refine aw_cut (fun t => t.env 1 = i64 a1 ∧ t.env 5 = ptr S ∧ t.ds = [] ∧ t.H = H3 ∧ ∃ j b, t.env 13 = i64 j ∧ t.env 14 = .bool b ∧ NextR ws i (.tuple #[i64 j, .bool b])) ?_ ?_
  · simp [e1, e5]
    refine callV_R cb12 (next_run hs2 hz hg2 hi) ?_
    rintro v H4 ⟨hnx, hH⟩
    subst hH
    have hv : ∃ j b, v = .tuple #[i64 j, .bool b] := by
      rcases hnx with ⟨j, _, _, _, rfl⟩ | ⟨_, rfl⟩
      · exact ⟨_, _, rfl⟩
      · exact ⟨_, _, rfl⟩
    obtain ⟨j, b, rfl⟩ := hv
    simp [e1, e5, eds]
    exact hnx
  clear e1 e5 eds
  rintro ⟨env, H4, ds⟩ ⟨e1, e5, eds, hH, j, b, e13, e14, hnx⟩
  simp only at e1 e5 e13 e14 eds hH
  subst hH
  refine aw_cut (fun t => t.env 13 = i64 j ∧ t.env 14 = .bool b ∧ t.env 15 = i64 j ∧ t.env 16 = .bool b ∧ t.ds = [] ∧ t.H = H4) ?_ ?_
  · simp [e1, e5]
    refine callV_R cb11 (rank_run hs2 hci) ?_
    rintro _ H5 ⟨rfl, hH⟩
    subst hH
    simp [e5]
    refine callV_R cb10 hpick ?_
    rintro v H6 ⟨hp, hH⟩
    subst hH
    obtain rfl := next_pick hz hc hnx hp
    simp [e13, e14, eds]
  clear e1 e5 e13 e14 eds
  rintro ⟨env, H5, ds⟩ ⟨e13, e14, e15, e16, eds, hH⟩
  simp only at e13 e14 e15 e16 eds hH
  subst hH
  simp [e13, e14, e15, e16]
  refine callV_R cba (alive_run hg2) ?_
  rintro _ _ ⟨rfl, _⟩
  simp [eds]
end Go.Proofs.YtdmidlgnfepfjaaDoor.C

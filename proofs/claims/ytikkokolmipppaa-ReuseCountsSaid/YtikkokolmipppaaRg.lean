/- The law ReuseTurned. Own text of this session. -/
import Derived.Test.YtikkokolmipppaaRf
set_option linter.unusedVariables false
set_option linter.unusedSimpArgs false
set_option maxRecDepth 4000
set_option maxHeartbeats 8000000
namespace Go.Proofs.Ytikkokolmipppaa.C
open Go Go.RowKit Go.Proofs.YtikkokolmipppaaA Go.Proofs.Ytikkokolmipppaa.Ones Go.Proofs.Ytikkokolmipppaa.Plain
variable {H : AH}
theorem il_up {B B' : Nat} {H : AH} {v : Value} {l : List Int} (hb : B ≤ B') (h : IL B' H v l) : IL B H v l := by
  obtain ⟨O, h1, h2⟩ := h
  exact ⟨O, h1, fun o e => Nat.le_trans hb (h2 o e)⟩
theorem rev_take {xs : List Nat} {k : Nat} (hk : k < xs.length) : xs.reverse.take (k + 1) = xs.reverse.take k ++ [xs.getD (xs.length - 1 - k) 0] := by
  rw [List.take_add_one, rev_get hk, getD_of (by omega)]
  rfl
theorem reuseTurned_run {sv : Value} {zs : List Int} {len : Nat} {Oa : Option Nat} (hg : HasG gs H) (hn : nG ≤ H.next) (hrow : Row 28 false H sv (zs.map (Value.int .u64)) Oa) (hlen : zs.length = len) (hwf : ∀ n ∈ zs, (Lit.int .u64 n).wf = true) :
    CallR cx 4 #[sv] H (fun v _ => v = .bool true) := by
  obtain ⟨xs, hxs⟩ := keys_of hwf
  rw [hxs] at hrow
  clear hxs hwf hlen
  have hs := hrow.isSlice
  obtain ⟨rx, rfl, _⟩ := hs
  simp only [List.length_map] at hrow ⊢
  refine wk4 (by simp) ?_
  by_cases hbig : 120 < (xs.length : Int)
  · simp [c4, hbig]
    refine callV_R cba (alive_run (hasG_any _)) ?_
    rintro _ H2 ⟨rfl, hH⟩
    subst hH
    simp
  have hl : xs.length ≤ 120 := by omega
  have hcut : cut xs = xs := cut_short (by omega)
  have hcutr : cut xs.reverse = xs.reverse := cut_short (by simp; omega)
  unfold c4
  refine aw_cut (fun t => t.env 0 = .slice rx xs.length xs.length ∧ t.ds = [] ∧ t.H = H) (by simp) ?_
  rintro ⟨env, H1, ds⟩ ⟨e0, eds, hH⟩
  simp only at e0 eds hH
  subst hH
  refine aw_cut (fun t => t.env 0 = .slice rx xs.length xs.length ∧ t.ds = [] ∧ t.H = H1) (by simp [e0, hbig, eds]) ?_
  clear e0 eds
  rintro ⟨env, H2, ds⟩ ⟨e0, eds, hH⟩
  simp only at e0 eds hH
  subst hH
  refine aw_cut (fun t => t.env 0 = .slice rx xs.length xs.length ∧ t.env 3 = .slice none 0 0 ∧ t.ds = [] ∧ t.H = H2) (by simp [e0, eds]) ?_
  clear e0 eds
  rintro ⟨env, H3, ds⟩ ⟨e0, e3, eds, hH⟩
  simp only at e0 e3 eds hH
  subst hH
  have hw0 : IntKind.i64.wrap ((xs.length : Int) - 1) = (xs.length : Int) - 1 := w64 (by omega)
  -- the trace turned about
  refine aw_cut (fun t => t.env 0 = .slice rx xs.length xs.length ∧ t.ds = [] ∧ Fresh H3 t.H ∧ AppG H3.next xs.reverse t.H (t.env 3)) ?_ ?_
  · simp [e0, hw0]
    refine aw_loop_to xs.length (fun k t => t.env 0 = .slice rx xs.length xs.length ∧ t.ds = [] ∧ Fresh H3 t.H ∧ AppG H3.next (xs.reverse.take k) t.H (t.env 3) ∧ t.env 4 = i64 ((xs.length : Int) - 1 - (k : Int))) ?_ ?_ ?_
    · clear e0 e3 eds
      rintro k ⟨env, H4, ds⟩ hk ⟨e0, eds, f4, ap, e4⟩
      simp only at e0 e4 eds f4 ap
      generalize e3 : env 3 = v3 at ap
      obtain ⟨j, hj⟩ : ∃ j, j = xs.length - 1 - k := ⟨_, rfl⟩
      have e4' : env 4 = i64 (j : Nat) := by rw [e4]; congr 1; omega
      have hjl : j < xs.length := by omega
      have hjI : (j : Int) < xs.length := by omega
      have hw : IntKind.i64.wrap ((j : Int) - 1) = (xs.length : Int) - 1 - ((k : Int) + 1) := by rw [w64 (by omega)]; omega
      obtain ⟨la, oa, ca, hra, g1, g2, _⟩ := (hrow.keep f4 (fun _ _ => id)).cell (i := j) (x := u64 (xs.getD j 0 : Nat)) (gcell hjl)
      have hixa := ix22 la oa xs.length xs.length .i64 (j : Int) (by omega) hjI
      rw [Int.toNat_natCast] at hixa
      have htk := rev_take hk
      rw [← hj] at htk
      generalize xs.getD j 0 = x at g2 htk
      obtain ⟨v5, H5, hap5, ap5, hle5, hkp5⟩ := appG ap f4.1 (by simp; omega) x
      rw [← htk] at ap5
      simp [e0, e3, e4', hra, hixa, g1, g2, hap5, hw, eds]
      exact ⟨⟨Nat.le_trans f4.1 hle5, fun z hz _ => by rw [hkp5 z hz, f4.get hz]⟩, ap5⟩
    · clear e0 e3 eds
      rintro ⟨env, H4, ds⟩ ⟨e0, eds, f4, ap, e4⟩
      simp only at e0 e4 eds f4 ap
      rw [List.take_of_length_le (by simp)] at ap
      have e4' : env 4 = i64 (-1) := by rw [e4]; congr 1; omega
      simp [e0, e4', eds, f4]
      exact ap
    · simp [e0, e3, eds, hw0, Fresh.refl]
      exact appG_nil _ _
  clear e0 e3 eds
  rintro ⟨env, H4, ds⟩ ⟨e0, eds, f4, ap⟩
  simp only at e0 eds f4 ap
  generalize e3 : env 3 = v3 at ap
  obtain ⟨O3, hrow3, hO3⟩ := ap
  have hrow4 := hrow.keep f4 (fun _ _ => id)
  have hlr : xs.reverse.length = xs.length := List.length_reverse
  refine aw_cut (fun t => t.env 0 = .slice rx xs.length xs.length ∧ t.ds = [] ∧ Fresh H4 t.H ∧ IL H4.next t.H (t.env 5) (distL xs) ∧ IL H4.next t.H (t.env 6) (distL xs.reverse) ∧ IL H4.next t.H (t.env 7) (nextL xs)) ?_ ?_
  · simp [e0]
    refine callV_R cb10 (distances_run hrow4 (by omega)) ?_
    rintro v5 H5 ⟨f5, i5⟩
    simp [e0, e3]
    refine callV_R cb10 (distances_run (hrow3.keep f5 (fun _ _ => id)) (by omega)) ?_
    rintro v6 H6 ⟨f6, i6⟩
    simp [e0]
    refine callV_R cb9 (next_run (hrow4.keep (f5.trans f6) (fun _ _ => id)) (by omega)) ?_
    rintro v7 H7 ⟨f7, i7⟩
    rw [hcut] at i5 i7
    rw [hcutr] at i6
    simp [e0, eds, (f5.trans f6).trans f7]
    exact ⟨i5.fresh (f6.trans f7), (il_up f5.1 i6).fresh f7, il_up (f5.trans f6).1 i7⟩
  clear e0 e3 eds
  rintro ⟨env, H5, ds⟩ ⟨e0, eds, f5, i5, i6, i7⟩
  simp only at e0 eds f5 i5 i6 i7
  generalize e5 : env 5 = v5 at i5
  generalize e6 : env 6 = v6 at i6
  generalize e7 : env 7 = v7 at i7
  obtain ⟨r5, rfl⟩ := i5.isSlice
  obtain ⟨r6, rfl⟩ := i6.isSlice
  obtain ⟨r7, rfl⟩ := i7.isSlice
  simp only [distL_length, nextL_length, hlr] at i5 i6 i7 e5 e6 e7
  refine aw_cut (fun t => t.env 0 = .slice rx xs.length xs.length ∧ t.env 5 = .slice r5 xs.length xs.length ∧ t.env 6 = .slice r6 xs.length xs.length ∧ t.env 7 = .slice r7 xs.length xs.length ∧ t.ds = [] ∧ t.H = H5) (by simp [e0, e5, e6, e7, eds, Go.undef]) ?_
  clear e0 e5 e6 e7 eds
  rintro ⟨env, H6, ds⟩ ⟨e0, e5, e6, e7, eds, hH⟩
  simp only at e0 e5 e6 e7 eds hH
  subst hH
  refine aw_cut (fun t => t.ds = []) ?_ ?_
  · simp [e7]
    refine aw_loop_to xs.length (fun k t => t.env 0 = .slice rx xs.length xs.length ∧ t.env 5 = .slice r5 xs.length xs.length ∧ t.env 6 = .slice r6 xs.length xs.length ∧ t.env 54 = .slice r7 xs.length xs.length ∧ t.env 55 = i64 (xs.length : Nat) ∧ t.env 56 = i64 (k : Nat) ∧ t.ds = [] ∧ t.H = H6) ?_ ?_ ?_
    · clear e0 e5 e6 e7 eds
      rintro k ⟨env, H7, ds⟩ hk ⟨e0, e5, e6, e54, e55, e56, eds, hH⟩
      simp only at e0 e5 e6 e54 e55 e56 eds hH
      subst hH
      have hkI : (k : Int) < xs.length := by omega
      have hw : IntKind.i64.wrap ((k : Int) + 1) = (k : Int) + 1 := w64 (by omega)
      obtain ⟨q, hq⟩ : ∃ q, q = xs.length - 1 - k := ⟨_, rfl⟩
      have hqI : (xs.length : Int) - 1 - (k : Int) = (q : Int) := by omega
      have hw2 : IntKind.i64.wrap ((xs.length : Int) - 1 - (k : Int)) = (q : Int) := by rw [w64 (by omega), hqI]
      have hql : q < xs.length := by omega
      obtain ⟨b7, o7, c7', h7, _, l7, g7, k7⟩ := i7.get (i := k) (by simpa using hk)
      obtain ⟨b6, o6, c6', h6, _, l6, g6, k6⟩ := i6.get (i := q) (by simpa using hql)
      rw [nextL_get hk] at k7
      rw [distL_get (by rw [hlr]; exact hql)] at k6
      have hdr := dist_reverse hk
      rw [← hq] at hdr
      have x7 := ix24 b7 o7 xs.length xs.length .i64 (k : Int) (by omega) hkI
      have x6 := ix24 b6 o6 xs.length xs.length .i64 (q : Int) (by omega) (by omega)
      rw [Int.toNat_natCast] at x6 x7
      obtain ⟨n1, n2, _, _⟩ := nxt_isNext hk
      generalize hm : nxt xs k = m at k7 hdr n1 n2
      generalize dist xs.reverse q = dq at k6 hdr
      by_cases hmx : m < xs.length
      · rw [if_pos hmx] at hdr
        have hmI : (m : Int) < xs.length := by omega
        obtain ⟨b5, o5, c5', h5, _, l5, g5, k5⟩ := i5.get (i := m) (by simpa using hmx)
        rw [distL_get hmx, ← hdr] at k5
        have x5 := ix24 b5 o5 xs.length xs.length .i64 (m : Int) (by omega) hmI
        rw [Int.toNat_natCast] at x5
        simp [e0, e5, e6, e54, e55, e56, hk, hkI, h7, x7, g7, k7, hmx, hmI, h5, x5, g5, k5, hw0, hw2, h6, x6, g6, k6, hw, eds]
      · rw [if_neg hmx] at hdr
        subst hdr
        have hmI : ¬ (m : Int) < xs.length := by omega
        simp [e0, e5, e6, e54, e55, e56, hk, hkI, h7, x7, g7, k7, hmx, hmI, hw0, hw2, h6, x6, g6, k6, hw, eds]
    · clear e0 e5 e6 e7 eds
      rintro ⟨env, H7, ds⟩ ⟨e0, e5, e6, e54, e55, e56, eds, hH⟩
      simp only at e0 e5 e6 e54 e55 e56 eds hH
      simp [e55, e56, eds]
    · simp [e0, e5, e6, e7, eds]
  clear e0 e5 e6 e7 eds
  rintro ⟨env, H7, ds⟩ eds
  simp only at eds
  simp
  refine callV_R cba (alive_run (hasG_any _)) ?_
  rintro _ H2 ⟨rfl, hH⟩
  subst hH
  simp [eds]
end Go.Proofs.Ytikkokolmipppaa.C

/- The laws ReuseRecency and ReuseTurned. Own text of this session. -/
import Derived.Test.YtikkokolmipppaaRe
set_option linter.unusedVariables false
set_option linter.unusedSimpArgs false
set_option maxRecDepth 4000
set_option maxHeartbeats 8000000
namespace Go.Proofs.Ytikkokolmipppaa.C
open Go Go.RowKit Go.Proofs.YtikkokolmipppaaA Go.Proofs.Ytikkokolmipppaa.Ones Go.Proofs.Ytikkokolmipppaa.Plain
variable {H : AH}
theorem rev_get {xs : List Nat} {j : Nat} (hj : j < xs.length) : xs.reverse[j]? = xs[xs.length - 1 - j]? := List.getElem?_reverse hj
theorem dist_reverse {xs : List Nat} {i : Nat} (hi : i < xs.length) : dist xs.reverse (xs.length - 1 - i) = if nxt xs i < xs.length then dist xs (nxt xs i) else -1 := by
  obtain ⟨n, hn⟩ : ∃ n, n = xs.length := ⟨_, rfl⟩
  obtain ⟨a1, a2, a3, a4⟩ := nxt_isNext hi
  have hy : xs.reverse.getD (xs.length - 1 - i) 0 = xs.getD i 0 := by
    rw [List.getD_eq_getElem?_getD, rev_get (by omega), show xs.length - 1 - (xs.length - 1 - i) = i by omega, ← List.getD_eq_getElem?_getD]
  have hxi := getD_of hi
  by_cases hx : nxt xs i < xs.length
  · rw [if_pos hx]
    have hl := nxt_lst hi hx
    generalize nxt xs i = m at a1 a2 a3 a4 hx hl
    have hrl : lastB xs.reverse (xs.getD i 0) (xs.length - 1 - i) = some (xs.length - 1 - m) := by
      refine lastB_some.2 ⟨by omega, ?_, fun j h1 h2 => ?_⟩
      · rw [rev_get (by omega), show xs.length - 1 - (xs.length - 1 - m) = m by omega, a4 hx, hxi]
      · rw [rev_get (by omega), ← hxi]
        exact a3 _ (by omega) (by omega)
    have e1 : dist xs.reverse (xs.length - 1 - i) = ((nd ((xs.reverse.take (xs.length - 1 - i)).drop (xs.length - 1 - m + 1)) : Nat) : Int) := by
      rw [dist, recI, hy, hrl]
    have e2 : dist xs m = ((nd ((xs.take m).drop (i + 1)) : Nat) : Int) := by
      have : lastB xs (xs.getD m 0) m = some i := hl
      rw [dist, recI, this]
    rw [e1, e2, List.take_reverse, List.drop_reverse, nd_reverse, List.drop_take]
    congr 3
    · simp; omega
    · congr 1
      omega
  · rw [if_neg hx]
    have hrl : lastB xs.reverse (xs.getD i 0) (xs.length - 1 - i) = none := by
      refine lastB_none.2 fun j hj => ?_
      rw [rev_get (by omega), ← hxi]
      exact a3 _ (by omega) (by omega)
    rw [dist, recI, hy, hrl]
theorem reuseRecency_run {sv : Value} {zs : List Int} {len : Nat} {Oa : Option Nat} {a b : Int} (hg : HasG gs H) (hn : nG ≤ H.next) (hrow : Row 28 false H sv (zs.map (Value.int .u64)) Oa) (hlen : zs.length = len) (hwf : ∀ n ∈ zs, (Lit.int .u64 n).wf = true)
    (w1 : (Lit.int .i64 a).wf = true) (w2 : (Lit.int .u64 b).wf = true) : CallR cx 5 #[sv, .int .i64 a, .int .u64 b] H (fun v _ => v = .bool true) := by
  obtain ⟨xs, hxs⟩ := keys_of hwf
  rw [hxs] at hrow
  clear hxs hwf hlen
  obtain ⟨y, rfl⟩ : ∃ y : Nat, b = (y : Int) := by
    simp [Lit.wf, IntKind.min, IntKind.max, IntKind.signed, IntKind.bits] at w2
    exact ⟨b.toNat, by omega⟩
  have hs := hrow.isSlice
  obtain ⟨rx, rfl, _⟩ := hs
  simp only [List.length_map] at hrow ⊢
  refine wk5 (by simp) ?_
  by_cases hbig : 120 < (xs.length : Int)
  · simp [c5, hbig]
    refine callV_R cba (alive_run (hasG_any _)) ?_
    rintro _ H2 ⟨rfl, hH⟩
    subst hH
    simp
  have hl : xs.length ≤ 120 := by omega
  have hcut : cut xs = xs := cut_short (by omega)
  obtain ⟨m, hm⟩ : ∃ m : Nat, max 0 (min a (xs.length : Int)) = (m : Int) := ⟨(max 0 (min a (xs.length : Int))).toNat, by omega⟩
  have hmx : m ≤ xs.length := by omega
  have hm2 : max 0 (min (m : Int) (xs.length : Int)) = (m : Int) := by omega
  unfold c5
  refine aw_cut (fun t => t.env 0 = .slice rx xs.length xs.length ∧ t.env 1 = i64 a ∧ t.env 2 = u64 (y : Int) ∧ t.ds = [] ∧ t.H = H) (by simp) ?_
  rintro ⟨env, H1, ds⟩ ⟨e0, e1, e2, eds, hH⟩
  simp only at e0 e1 e2 eds hH
  subst hH
  refine aw_cut (fun t => t.env 0 = .slice rx xs.length xs.length ∧ t.env 1 = i64 a ∧ t.env 2 = u64 (y : Int) ∧ t.ds = [] ∧ t.H = H1) (by simp [e0, e1, e2, hbig, eds]) ?_
  clear e0 e1 e2 eds
  rintro ⟨env, H2, ds⟩ ⟨e0, e1, e2, eds, hH⟩
  simp only at e0 e1 e2 eds hH
  subst hH
  refine aw_cut (fun t => t.env 0 = .slice rx xs.length xs.length ∧ t.env 1 = i64 a ∧ t.env 2 = u64 (y : Int) ∧ t.env 7 = i64 (m : Nat) ∧ t.ds = [] ∧ t.H = H2) (by simp [e0, e1, e2, hm, eds]) ?_
  clear e0 e1 e2 eds
  rintro ⟨env, H3, ds⟩ ⟨e0, e1, e2, e7, eds, hH⟩
  simp only at e0 e1 e2 e7 eds hH
  subst hH
  refine aw_cut (fun t => t.env 0 = .slice rx xs.length xs.length ∧ t.env 7 = i64 (m : Nat) ∧ t.ds = [] ∧ Fresh H3 t.H) ?_ ?_
  · simp [e0, e1, e2]
    refine callV_R cb14 (recency_run hrow (by omega) hm) ?_
    rintro _ H4 ⟨rfl, f4⟩
    simp [e0, e1, e2, e7]
    refine callV_R cb15 (rrec_run (hrow.keep f4 (fun _ _ => id)) (by omega) hmx) ?_
    rintro _ H5 ⟨rfl, f5⟩
    simp [e0, e7, eds, f4.trans f5]
  clear e0 e1 e2 e7 eds
  rintro ⟨env, H4, ds⟩ ⟨e0, e7, eds, f4⟩
  simp only at e0 e7 eds f4
  have hrow4 := hrow.keep f4 (fun _ _ => id)
  refine aw_cut (fun t => t.env 0 = .slice rx xs.length xs.length ∧ t.env 7 = i64 (m : Nat) ∧ t.ds = [] ∧ Fresh H4 t.H ∧ IL H4.next t.H (t.env 8) (distL xs)) ?_ ?_
  · simp [e0]
    refine callV_R cb10 (distances_run hrow4 (by omega)) ?_
    rintro v H5 ⟨f5, i5⟩
    rw [hcut] at i5
    simp [e0, e7, eds, f5]
    exact i5
  clear e0 e7 eds
  rintro ⟨env, H5, ds⟩ ⟨e0, e7, eds, f5, i5⟩
  simp only at e0 e7 eds f5 i5
  generalize e8 : env 8 = v8 at i5
  obtain ⟨r8, rfl⟩ := i5.isSlice
  simp only [distL_length] at i5 e8
  have hrow5 := hrow4.keep f5 (fun _ _ => id)
  by_cases hmm : m < xs.length
  · have hmI : (m : Int) < xs.length := by omega
    have hmI2 : ¬ (xs.length : Int) ≤ (m : Int) := by omega
    have hmI3 : ¬ xs.length ≤ m := by omega
    obtain ⟨b5, o5, c5', h5, _, l5, g5, k5⟩ := i5.get (i := m) (by simpa using hmm)
    rw [distL_get hmm] at k5
    obtain ⟨la, oa, ca, hra, g1, g2, _⟩ := hrow5.cell (i := m) (x := u64 (xs.getD m 0 : Nat)) (gcell hmm)
    have hixa := ix22 la oa xs.length xs.length .i64 (m : Int) (by omega) hmI
    have hixb := ix24 b5 o5 xs.length xs.length .i64 (m : Int) (by omega) hmI
    rw [Int.toNat_natCast] at hixa hixb
    have hd : dist xs m = recI xs m (xs.getD m 0) := rfl
    have hrun := recency_run hrow5 (by omega) hm2 (y := xs.getD m 0)
    rw [← hd] at hrun
    generalize xs.getD m 0 = x at g2 hrun
    generalize dist xs m = d at k5 hrun
    simp [e0, e7, e8, hmm, hmI, hmI2, hmI3, h5, hra, hixa, hixb, g1, g2, g5, k5, Go.undef]
    rw [hra] at hrun
    refine callV_R cb14 hrun ?_
    rintro _ H6 ⟨rfl, f6⟩
    have q5 := f6.get l5
    rw [g5] at q5
    simp [e0, e7, e8, hmm, hmI, hmI2, hmI3, h5, hra, hixa, hixb, g1, g2, g5, k5, q5, Go.undef]
    refine callV_R cba (alive_run (hasG_any _)) ?_
    rintro _ H7 ⟨rfl, hH⟩
    subst hH
    simp [e0, e7, e8, hmm, hmI, hmI2, hmI3, h5, hra, hixa, hixb, g1, g2, g5, k5, q5, eds, Go.undef]
  · have hmI2 : (xs.length : Int) ≤ (m : Int) := by omega
    have hmI3 : xs.length ≤ m := by omega
    simp [e0, e7, e8, hmm, hmI2, hmI3, Go.undef]
    refine callV_R cba (alive_run (hasG_any _)) ?_
    rintro _ H7 ⟨rfl, hH⟩
    subst hH
    simp [e0, e7, e8, hmm, hmI2, hmI3, eds, Go.undef]
end Go.Proofs.Ytikkokolmipppaa.C

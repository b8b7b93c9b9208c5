/- The document's Last, Next, Distance, Recency. Own text of this session. -/
import Derived.Test.YtikkokolmipppaaRa
set_option linter.unusedVariables false
set_option linter.unusedSimpArgs false
set_option maxRecDepth 4000
set_option maxHeartbeats 8000000
namespace Go.Proofs.Ytikkokolmipppaa.C
open Go Go.RowKit Go.Proofs.YtikkokolmipppaaA Go.Proofs.Ytikkokolmipppaa.Plain
variable {H : AH}
/-- ref.Last -/
theorem rlast_run {w : Bool} {sv : Value} {xs : List Nat} {O : Option Nat} {i : Nat} (h : Row 28 w H sv (gcells xs) O) (hl : xs.length ≤ 50000) (hi : i < xs.length) : CallR cx 11 #[sv, i64 (i : Nat)] H (fun v H' => v = i64 (ov (lst xs i)) ∧ H' = H) := by
  have hs := h.isSlice
  obtain ⟨rx, rfl, _⟩ := hs
  simp only [List.length_map] at h ⊢
  refine wk11 (by simp) ?_
  have hiI : (i : Int) < xs.length := by omega
  obtain ⟨la, oa, ca, hra, g1, g2, _⟩ := h.cell (i := i) (x := u64 (xs.getD i 0 : Nat)) (gcell hi)
  have hixi := ix22 la oa xs.length xs.length .i64 (i : Int) (by omega) hiI
  rw [Int.toNat_natCast] at hixi
  have hw0 : IntKind.i64.wrap ((i : Int) - 1) = (i : Int) - 1 := w64 (by omega)
  generalize hy : xs.getD i 0 = y at g2
  simp [c11]
  refine aw_loop_to i (fun m t => t.env 0 = .slice rx xs.length xs.length ∧ t.env 1 = i64 (i : Nat) ∧ t.ds = [] ∧ t.H = H ∧ ∃ r, r + m = i ∧ t.env 5 = i64 ((r : Int) - 1) ∧ lastB xs y i = lastB xs y r) ?_ ?_ ?_
  · rintro m ⟨env, H1, ds⟩ hm ⟨e0, e1, eds, hH, r, hr, e5, hlb⟩
    simp only at e0 e1 e5 eds hH
    subst hH
    obtain ⟨k, rfl⟩ : ∃ k, r = k + 1 := ⟨r - 1, by omega⟩
    have e5' : env 5 = i64 (k : Nat) := by rw [e5]; congr 1; omega
    have hk : k < xs.length := by omega
    have hkI : (k : Int) < xs.length := by omega
    obtain ⟨lb, ob, cb, hrb, k1, k2, _⟩ := h.cell (i := k) (x := u64 (xs.getD k 0 : Nat)) (gcell hk)
    rw [hra] at hrb
    cases hrb
    rw [g1] at k1
    cases k1
    have hixa := ix22 la oa xs.length xs.length .i64 (k : Int) (by omega) hkI
    rw [Int.toNat_natCast] at hixa
    have hw : IntKind.i64.wrap ((k : Int) - 1) = (k : Int) - 1 := w64 (by omega)
    have hlk : lastB xs y (k + 1) = if xs.getD k 0 = y then some k else lastB xs y k := by
      rw [lastB, getD_of hk]
      simp only [Option.some.injEq]
    generalize xs.getD k 0 = x at k2 hlk
    by_cases hx : x = y
    · subst hx
      rw [if_pos rfl] at hlk
      have hres : lst xs i = some k := by rw [lst, hy, hlb, hlk]
      simp [e0, e1, e5', hra, hixa, hixi, g1, g2, k2, eds, hres, ov]
    · have hxI : ¬ ((x : Int) = (y : Int)) := by omega
      rw [if_neg hx] at hlk
      simp [e0, e1, e5', hra, hixa, hixi, g1, g2, k2, hx, hxI, hw, eds]
      exact ⟨k, by omega, by simp, by rw [hlb, hlk]⟩
  · rintro ⟨env, H1, ds⟩ ⟨e0, e1, eds, hH, r, hr, e5, hlb⟩
    simp only at e0 e1 e5 eds hH
    subst hH
    obtain rfl : r = 0 := by omega
    have hres : lst xs i = none := by rw [lst, hy, hlb]; rfl
    simp [e0, e5, eds, hres, ov]
  · simp [hw0]
/-- ref.Next -/
theorem rnext_run {w : Bool} {sv : Value} {xs : List Nat} {O : Option Nat} {i : Nat} (h : Row 28 w H sv (gcells xs) O) (hl : xs.length ≤ 50000) (hi : i < xs.length) : CallR cx 12 #[sv, i64 (i : Nat)] H (fun v H' => v = i64 (nxt xs i : Nat) ∧ H' = H) := by
  have hs := h.isSlice
  obtain ⟨rx, rfl, _⟩ := hs
  simp only [List.length_map] at h ⊢
  refine wk12 (by simp) ?_
  have hiI : (i : Int) < xs.length := by omega
  obtain ⟨la, oa, ca, hra, g1, g2, _⟩ := h.cell (i := i) (x := u64 (xs.getD i 0 : Nat)) (gcell hi)
  have hixi := ix22 la oa xs.length xs.length .i64 (i : Int) (by omega) hiI
  rw [Int.toNat_natCast] at hixi
  have hw0 : IntKind.i64.wrap ((i : Int) + 1) = (i : Int) + 1 := w64 (by omega)
  have hn := nxt_isNext hi
  have hy := getD_of hi
  generalize xs.getD i 0 = y at g2 hy
  generalize nxt xs i = n at hn
  obtain ⟨n1, n2, n3, n4⟩ := hn
  rw [hy] at n3 n4
  simp [c12]
  refine aw_loop_to (n - i - 1) (fun m t => t.env 0 = .slice rx xs.length xs.length ∧ t.env 1 = i64 (i : Nat) ∧ t.ds = [] ∧ t.H = H ∧ ∃ k, k = i + 1 + m ∧ t.env 5 = i64 (k : Nat)) ?_ ?_ ?_
  · rintro m ⟨env, H1, ds⟩ hm ⟨e0, e1, eds, hH, k, hkm, e5⟩
    simp only at e0 e1 e5 eds hH
    subst hH
    have hk : k < xs.length := by omega
    have hkI : (k : Int) < xs.length := by omega
    obtain ⟨lb, ob, cb, hrb, k1, k2, _⟩ := h.cell (i := k) (x := u64 (xs.getD k 0 : Nat)) (gcell hk)
    rw [hra] at hrb
    cases hrb
    rw [g1] at k1
    cases k1
    have hixa := ix22 la oa xs.length xs.length .i64 (k : Int) (by omega) hkI
    rw [Int.toNat_natCast] at hixa
    have hw : IntKind.i64.wrap ((k : Int) + 1) = (k : Int) + 1 := w64 (by omega)
    have hne := n3 k (by omega) (by omega)
    rw [getD_of hk] at hne
    generalize xs.getD k 0 = x at k2 hne
    have hx : ¬ x = y := fun e => hne (by rw [e])
    have hxI : ¬ ((x : Int) = (y : Int)) := by omega
    simp [e0, e1, e5, hk, hkI, hra, hixa, hixi, g1, g2, k2, hx, hxI, hw, eds]
    omega
  · rintro ⟨env, H1, ds⟩ ⟨e0, e1, eds, hH, k, hkm, e5⟩
    simp only at e0 e1 e5 eds hH
    subst hH
    obtain rfl : k = n := by omega
    by_cases hk : k < xs.length
    · have hkI : (k : Int) < xs.length := by omega
      obtain ⟨lb, ob, cb, hrb, k1, k2, _⟩ := h.cell (i := k) (x := u64 (xs.getD k 0 : Nat)) (gcell hk)
      rw [hra] at hrb
      cases hrb
      rw [g1] at k1
      cases k1
      have hixa := ix22 la oa xs.length xs.length .i64 (k : Int) (by omega) hkI
      rw [Int.toNat_natCast] at hixa
      have he := n4 hk
      rw [getD_of hk] at he
      rw [Option.some.inj he] at k2
      simp [e0, e1, e5, hk, hkI, hra, hixa, hixi, g1, g2, k2, eds]
    · have hkI : ¬ (k : Int) < xs.length := by omega
      simp [e0, e1, e5, hk, hkI, eds]
  · simp [hw0]
/-- ref.Distance -/
theorem rdist_run {w : Bool} {sv : Value} {xs : List Nat} {O : Option Nat} {i : Nat} (h : Row 28 w H sv (gcells xs) O) (hl : xs.length ≤ 50000) (hi : i < xs.length) : CallR cx 13 #[sv, i64 (i : Nat)] H (fun v H' => v = i64 (dist xs i) ∧ Fresh H H') := by
  have hs := h.isSlice
  obtain ⟨rx, hsv, _⟩ := hs
  refine wk13 (by simp) ?_
  simp [c13]
  refine callV_R cb11 (rlast_run h hl hi) ?_
  rintro _ H1 ⟨rfl, hH⟩
  subst hH
  have hd : dist xs i = match lst xs i with | none => -1 | some k => ((nd ((xs.take i).drop (k + 1)) : Nat) : Int) := rfl
  cases hk : lst xs i with
  | none =>
    rw [hk] at hd
    simp [ov, hd, Fresh.refl]
  | some k =>
    rw [hk] at hd
    have hlt := lst_lt hk
    have hw : IntKind.i64.wrap ((k : Int) + 1) = ((k + 1 : Nat) : Int) := by rw [w64 (by omega)]; push_cast; rfl
    have h0 : ¬ (k : Int) < 0 := by omega
    obtain ⟨sp, hsp, hrun⟩ := part_run h hl (a := k + 1) (b := i) (by omega) (by omega)
    push_cast at hsp
    simp [ov, h0, hw, hsp]
    refine callV_R cb22 hrun ?_
    rintro _ H2 ⟨f2, r, rfl⟩
    simp [hd, f2]
/-- ref.Recency -/
theorem rrec_run {w : Bool} {sv : Value} {xs : List Nat} {O : Option Nat} {i y : Nat} (h : Row 28 w H sv (gcells xs) O) (hl : xs.length ≤ 50000) (hi : i ≤ xs.length) : CallR cx 15 #[sv, i64 (i : Nat), u64 (y : Int)] H (fun v H' => v = i64 (recI xs i y) ∧ Fresh H H') := by
  have hs := h.isSlice
  obtain ⟨rx, rfl, _⟩ := hs
  simp only [List.length_map] at h ⊢
  refine wk15 (by simp) ?_
  have hw0 : IntKind.i64.wrap ((i : Int) - 1) = (i : Int) - 1 := w64 (by omega)
  simp [c15]
  refine aw_loop_to i (fun m t => t.env 0 = .slice rx xs.length xs.length ∧ t.env 1 = i64 (i : Nat) ∧ t.env 2 = u64 (y : Int) ∧ t.ds = [] ∧ t.H = H ∧ ∃ r, r + m = i ∧ t.env 7 = i64 ((r : Int) - 1) ∧ lastB xs y i = lastB xs y r) ?_ ?_ ?_
  · rintro m ⟨env, H1, ds⟩ hm ⟨e0, e1, e2, eds, hH, r, hr, e5, hlb⟩
    simp only at e0 e1 e2 e5 eds hH
    subst hH
    obtain ⟨k, rfl⟩ : ∃ k, r = k + 1 := ⟨r - 1, by omega⟩
    have e5' : env 7 = i64 (k : Nat) := by rw [e5]; congr 1; omega
    have hk : k < xs.length := by omega
    have hkI : (k : Int) < xs.length := by omega
    obtain ⟨lb, ob, cb, hrb, k1, k2, _⟩ := h.cell (i := k) (x := u64 (xs.getD k 0 : Nat)) (gcell hk)
    have hixa := ix22 lb ob xs.length xs.length .i64 (k : Int) (by omega) hkI
    rw [Int.toNat_natCast] at hixa
    have hw : IntKind.i64.wrap ((k : Int) - 1) = (k : Int) - 1 := w64 (by omega)
    have hw1 : IntKind.i64.wrap ((k : Int) + 1) = ((k + 1 : Nat) : Int) := by rw [w64 (by omega)]; push_cast; rfl
    have hlk : lastB xs y (k + 1) = if xs.getD k 0 = y then some k else lastB xs y k := by
      rw [lastB, getD_of hk]
      simp only [Option.some.injEq]
    obtain ⟨sp, hsp, hrun⟩ := part_run h hl (a := k + 1) (b := i) (by omega) (by omega)
    push_cast at hsp
    generalize xs.getD k 0 = x at k2 hlk
    by_cases hx : x = y
    · subst hx
      rw [if_pos rfl] at hlk
      have hd : recI xs i x = ((nd ((xs.take i).drop (k + 1)) : Nat) : Int) := by rw [recI, hlb, hlk]
      simp [e0, e1, e2, e5', hrb, hixa, k1, k2, hw1]
      rw [hrb] at hsp
      simp [hsp]
      refine callV_R cb22 hrun ?_
      rintro _ H2 ⟨f2, r, rfl⟩
      simp [hd, f2, eds]
    · have hxI : ¬ ((x : Int) = (y : Int)) := by omega
      rw [if_neg hx] at hlk
      simp [e0, e1, e2, e5', hrb, hixa, k1, k2, hx, hxI, hw, eds]
      exact ⟨k, by omega, by simp, by rw [hlb, hlk]⟩
  · rintro ⟨env, H1, ds⟩ ⟨e0, e1, e2, eds, hH, r, hr, e5, hlb⟩
    simp only at e0 e1 e5 eds hH
    subst hH
    obtain rfl : r = 0 := by omega
    have hres : recI xs i y = -1 := by rw [recI, hlb]; rfl
    simp [e0, e5, eds, hres, Fresh.refl]
  · simp [hw0]
end Go.Proofs.Ytikkokolmipppaa.C

/- slices.Repeat. Own text of this session. -/
import Derived.Test.YtmeaeafceankkaaDoorMkA
set_option linter.unusedVariables false
set_option linter.unusedSimpArgs false
set_option maxRecDepth 4000
set_option maxHeartbeats 8000000
namespace Go.Proofs.YtmeaeafceankkaaDoor.C
open Go Go.RowKit Go.Proofs.YtmeaeafceankkaaDoorA Go.Proofs.YtmeaeafceankkaaDoor.Plain
variable {H : AH}
theorem keep_upd7 {S : Nat → Prop} {H H' : AH} {l : Nat} {b : ABlk} (h : Keep S H H') (hl : S l) : Keep S H ⟨H'.next, upd H'.get l b⟩ := by
  refine ⟨h.1, fun x hx hs => ?_⟩
  have : ¬ x = l := fun e => hs (by rw [e]; exact hl)
  simp only [upd_get, this, if_false]
  exact h.2 x hx hs
theorem setAll_at : ∀ (vs cs : List Value) (d : Nat), d + vs.length ≤ cs.length → setAll cs d vs = cs.take d ++ vs ++ cs.drop (d + vs.length)
  | [], cs, d, h => by simp [setAll]
  | v :: vs, cs, d, h => by
    simp only [List.length_cons] at h
    have hd : d < cs.length := by omega
    show setAll (cs.set d v) (d + 1) vs = _
    rw [setAll_at vs (cs.set d v) (d + 1) (by simp; omega)]
    have h1 : (cs.set d v).take (d + 1) = cs.take d ++ [v] := by
      rw [List.take_add_one, List.getElem?_set_self hd, List.take_set_of_le (Nat.le_refl d)]
      rfl
    have h2 : (cs.set d v).drop (d + 1 + vs.length) = cs.drop (d + (v :: vs).length) := by
      rw [List.drop_set_of_lt (by omega)]
      congr 1
      simp; omega
    rw [h1, h2]
    simp
theorem gcells_cell (g : List Nat) : (gcells g).all isCell = true := by simp [gcells]
theorem copy_of {l d T l2 o2 n T2 : Nat} {g g2 : List Nat} {own2 : Bool} {cs2 : List Value} (hd : H.get l = some (.cells (gcells g) 39 true 1)) (hT : d + T ≤ g.length) (h2 : H.get l2 = some (.cells cs2 T2 own2 1)) (ho : o2 + n ≤ cs2.length)
    (hg2 : (cs2.drop o2).take n = gcells g2) (hn : 0 < n) (hT0 : 0 < T) :
    aCopy Tryd.prog 22 (.slice (some ⟨l, d, none⟩) T T) (.slice (some ⟨l2, o2, none⟩) n n) H = some (i64 (Nat.min n T : Nat), ⟨H.next, upd H.get l (.cells (gcells (g.take d ++ g2.take (Nat.min n T) ++ g.drop (d + Nat.min n T))) 39 true 1)⟩) := by
  have hm0 : ¬ Nat.min n T = 0 := by
    have : Nat.min n T = min n T := rfl
    omega
  have hmn : Nat.min n T ≤ n := Nat.min_le_left _ _
  have hmT : Nat.min n T ≤ T := Nat.min_le_right _ _
  have hg2l : g2.length = n := by
    have := congrArg List.length hg2
    simp at this
    omega
  generalize hm : Nat.min n T = m at *
  have hr : H.row l2 o2 (m * 1) = some (gcells (g2.take m)) := by
    rw [Nat.mul_one, row_of h2 (by omega)]
    have : (cs2.drop o2).take m = ((cs2.drop o2).take n).take m := by rw [List.take_take, Nat.min_eq_left hmn]
    rw [this, hg2]
    simp [gcells, List.map_take]
  have hw : H.wrs l d (gcells (g2.take m)) = some ⟨H.next, upd H.get l (.cells (gcells (g.take d ++ g2.take m ++ g.drop (d + m))) 39 true 1)⟩ := by
    rw [wrs_of hd (by simp; omega) (gcells_cell _), setAll_at _ _ _ (by simp; omega)]
    congr 4
    simp [gcells, List.map_take, List.map_drop]
    omega
  simp only [aCopy, un22, sz39]
  rw [hm, if_neg hm0, hr]
  simp only [Option.bind_some, hw, Option.map_some]
/-- the cells while the row is filled -/
def half (R : List Nat) (n T : Nat) : List Nat := R.take n ++ List.replicate (T - n) 0
theorem half_len {R : List Nat} {n T : Nat} (hR : R.length = T) (hn : n ≤ T) : (half R n T).length = T := by simp [half]; omega
theorem half_take {R : List Nat} {n T : Nat} (hR : R.length = T) (hn : n ≤ T) : (half R n T).take n = R.take n := by
  have h : (R.take n).length = n := by simp; omega
  unfold half
  rw [List.take_append_of_le_length (by omega), List.take_take, Nat.min_self]
theorem half_all {R : List Nat} {T : Nat} (hR : R.length = T) : half R T T = R := by simp [half, ← hR]
/-- a doubling -/
theorem half_step {xs : List Nat} {r q n T : Nat} (hT : T = r * xs.length) (hq : n = q * xs.length) (hn : n < T) {c : Nat} (hc : c = Nat.min n (T - n)) :
    (half (rep r xs) n T).take n ++ ((half (rep r xs) n T).take n).take c ++ (half (rep r xs) n T).drop (n + c) = half (rep r xs) (n + c) T := by
  have hR : (rep r xs).length = T := by rw [rep_len, hT]
  have hcn : c ≤ n := by rw [hc]; exact Nat.min_le_left _ _
  have hcT : n + c ≤ T := by
    have : c ≤ T - n := by rw [hc]; exact Nat.min_le_right _ _
    omega
  rw [half_take hR (by omega)]
  have hqr : q ≤ r := by
    refine Classical.byContradiction fun h => ?_
    have : r * xs.length ≤ q * xs.length := Nat.mul_le_mul_right _ (by omega)
    omega
  have h1 : ((rep r xs).take n).take c = ((rep r xs).drop n).take c := by
    rw [hq, rep_shift hqr, ← hq, List.take_take, Nat.min_eq_left hcn]
    have hp := rep_pre (xs := xs) (a := r - q) (b := r) (by omega)
    have hcl : c ≤ (rep (r - q) xs).length := by
      rw [rep_len, Nat.sub_mul, ← hT, ← hq]
      omega
    rw [← hp, List.take_take, Nat.min_eq_left hcl]
  have h2 : (half (rep r xs) n T).drop (n + c) = List.replicate (T - (n + c)) 0 := by
    unfold half
    rw [List.drop_append]
    have : (List.take n (rep r xs)).length = n := by simp; omega
    rw [this, List.drop_of_length_le (by omega)]
    simp
    omega
  rw [h1, h2, ← List.take_add]
  rfl
theorem repeat_run {w : Bool} {sv : Value} {xs : List Nat} {O : Option Nat} {r : Nat} (h : Row 39 w H sv (gcells xs) O) (hx : xs ≠ []) (hr : 1 ≤ r) (hm : xs.length * r ≤ 4096) :
    CallR cx 36 #[sv, i64 r] H (fun v H' => Fresh H H' ∧ ∃ O', Row 39 true H' v (gcells (rep r xs)) O' ∧ ∀ x, O' = some x → H.next ≤ x) := by
  have hl0 : 0 < xs.length := List.length_pos_iff.2 hx
  have hlm : xs.length ≤ 4096 := Nat.le_trans (Nat.le_mul_of_pos_right _ (by omega)) hm
  have hrm : r ≤ 4096 := Nat.le_trans (Nat.le_mul_of_pos_left _ hl0) hm
  cases O with
  | none => exact absurd (by simpa [gcells] using h.2) hx
  | some lx =>
  obtain ⟨ox, cx', rfl, hgx, htx, hox, hlx⟩ := h
  simp only [List.length_map] at htx hox
  obtain ⟨T, hT⟩ : ∃ T, T = xs.length * r := ⟨_, rfl⟩
  have hT' : T = r * xs.length := by rw [hT, Nat.mul_comm]
  have hTl : xs.length ≤ T := by rw [hT]; exact Nat.le_mul_of_pos_right _ (by omega)
  refine wk36 (by simp) ?_
  unfold c36
  refine aw_cut (fun t => t.env 0 = .slice (some ⟨lx, ox, none⟩) xs.length xs.length ∧ t.env 1 = i64 r ∧ t.ds = [] ∧ t.H = H) (by simp) ?_
  rintro ⟨env, H1, ds⟩ ⟨e0, e1, eds, hH⟩
  simp only at e0 e1 eds hH
  subst hH
  have hr0 : ¬ (r : Int) < 0 := by omega
  refine aw_cut (fun t => t.env 0 = .slice (some ⟨lx, ox, none⟩) xs.length xs.length ∧ t.env 1 = i64 r ∧ t.ds = [] ∧ t.H = H1) (by simp [e0, e1, hr0, eds]) ?_
  clear e0 e1 eds
  rintro ⟨env, H2, ds⟩ ⟨e0, e1, eds, hH⟩
  simp only at e0 e1 eds hH
  subst hH
  have w1 := wu xs.length (by omega)
  have w2 := wu r (by omega)
  refine aw_cut (fun t => t.env 0 = .slice (some ⟨lx, ox, none⟩) xs.length xs.length ∧ t.env 5 = u64 0 ∧ t.env 6 = u64 (T : Nat) ∧ t.ds = [] ∧ t.H = H2) ?_ ?_
  · simp [e0, e1, w1, w2]
    refine callV_R cb45 (mul_run (by omega) (by omega)) ?_
    rintro _ H3 ⟨rfl, hH⟩
    subst hH
    rw [← hT]
    simp [e0, eds]
  clear e0 e1 eds
  rintro ⟨env, H3, ds⟩ ⟨e0, e5, e6, eds, hH⟩
  simp only at e0 e5 e6 eds hH
  subst hH
  have hbig : ¬ (9223372036854775807 : Int) < (T : Int) := by omega
  refine aw_cut (fun t => t.env 0 = .slice (some ⟨lx, ox, none⟩) xs.length xs.length ∧ t.env 6 = u64 (T : Nat) ∧ t.ds = [] ∧ t.H = H3) (by simp [e0, e5, e6, hbig, eds]) ?_
  clear e0 e5 e6 eds
  rintro ⟨env, H4, ds⟩ ⟨e0, e6, eds, hH⟩
  simp only at e0 e6 eds hH
  subst hH
  have w3 := w64 (n := (T : Int)) (by omega)
  have hmk := mk22 T (by omega)
  refine aw_cut (fun t => t.env 0 = .slice (some ⟨lx, ox, none⟩) xs.length xs.length ∧ t.env 7 = .slice (some ⟨H4.next, 0, none⟩) T T ∧ t.ds = [] ∧ t.H = ⟨H4.next + 1, upd H4.get H4.next (.cells (gcells (List.replicate T 0)) 39 true 1)⟩) (by simp [e0, e6, w3, hmk, eds]) ?_
  clear e0 e6 eds
  rintro ⟨env, H5, ds⟩ ⟨e0, e7, eds, hH⟩
  simp only at e0 e7 eds hH
  have r5 : H5.get H4.next = some (.cells (gcells (List.replicate T 0)) 39 true 1) := by rw [hH]; simp
  have l5 : H4.next < H5.next := by rw [hH]; simp
  have f5 : Fresh H4 H5 := by rw [hH]; exact Fresh.ofNew
  clear hH
  have hgx5 : H5.get lx = some (.cells cx' 39 w 1) := by rw [f5.get hlx, hgx]
  have hcp := copy_of (g2 := xs) r5 (T := T) (d := 0) (by simp) hgx5 (o2 := ox) (n := xs.length) (by omega) htx hl0 (by omega)
  have hmin : Nat.min xs.length T = xs.length := Nat.min_eq_left hTl
  rw [hmin] at hcp
  have hR : (rep r xs).length = T := by rw [rep_len, hT']
  have hfirst : (List.replicate T 0).take 0 ++ xs.take xs.length ++ (List.replicate T 0).drop (0 + xs.length) = half (rep r xs) xs.length T := by
    unfold half
    have : (rep r xs).take xs.length = xs := by
      have := rep_pre (xs := xs) (a := 1) (b := r) hr
      have h1 : rep 1 xs = xs := by simp [rep]
      rwa [h1] at this
    rw [this]
    simp
  rw [hfirst] at hcp
  refine aw_cut (fun t => t.env 7 = .slice (some ⟨H4.next, 0, none⟩) T T ∧ t.env 8 = i64 (xs.length : Nat) ∧ t.ds = [] ∧ t.H = ⟨H5.next, upd H5.get H4.next (.cells (gcells (half (rep r xs) xs.length T)) 39 true 1)⟩) (by simp [e0, e7, hcp, eds]) ?_
  clear e0 e7 eds
  rintro ⟨env, H6, ds⟩ ⟨e7, e8, eds, hH⟩
  simp only at e7 e8 eds hH
  have r6 : H6.get H4.next = some (.cells (gcells (half (rep r xs) xs.length T)) 39 true 1) := by rw [hH]; simp
  have k6 : Keep (fun x => x = H4.next) H5 H6 := by
    rw [hH]
    exact ⟨Nat.le_refl _, fun z _ hz => by simp at hz; simp [hz]⟩
  clear hH
  refine aw_cut (fun t => t.env 7 = .slice (some ⟨H4.next, 0, none⟩) T T ∧ t.ds = [] ∧ Keep (fun x => x = H4.next) H5 t.H ∧ t.H.get H4.next = some (.cells (gcells (rep r xs)) 39 true 1)) ?_ ?_
  · simp
    refine aw_loop (fun m t => t.env 7 = .slice (some ⟨H4.next, 0, none⟩) T T ∧ t.ds = [] ∧ Keep (fun x => x = H4.next) H5 t.H ∧ ∃ n, m = T - n ∧ 0 < n ∧ n ≤ T ∧ t.env 8 = i64 (n : Nat) ∧ t.H.get H4.next = some (.cells (gcells (half (rep r xs) n T)) 39 true 1) ∧ (n = T ∨ ∃ q, n = q * xs.length)) ?_ (k := T - xs.length) ⟨e7, eds, k6, xs.length, rfl, hl0, hTl, e8, r6, .inr ⟨1, by simp⟩⟩
    clear e7 e8 eds k6 r6
    rintro m ⟨env, H7, ds⟩ ⟨e7, eds, k7, n, hmn, hn0, hnT, e8, r7, hq⟩
    simp only at e7 eds k7 e8 r7
    by_cases hlt : n < T
    · have hq2 : ∃ q, n = q * xs.length := by
        rcases hq with h | h
        · exact absurd h (by omega)
        · exact h
      clear hq
      obtain ⟨q, hq⟩ := hq2
      have hltI : (n : Int) < T := by omega
      have hlen := half_len hR hnT
      have hs1 : aSlice Tryd.prog 22 (.slice (some ⟨H4.next, 0, none⟩) T T) (some (i64 n)) none H7 = some (.slice (some ⟨H4.next, n, none⟩) (T - n) (T - n)) := by
        have hb : bnd none T T = some T := by simp [bnd]
        have ha : bnd (some (i64 n)) 0 T = some n := by simp [bnd]; omega
        have hT0 : ¬ T = 0 := by omega
        simp [aSlice, un22, hb, ha, sz39, hT0, r7]
      have hs2 : aSlice Tryd.prog 22 (.slice (some ⟨H4.next, 0, none⟩) T T) none (some (i64 n)) H7 = some (.slice (some ⟨H4.next, 0, none⟩) n n) := by
        have hb : bnd (some (i64 n)) T T = some n := by simp [bnd]; omega
        have ha : bnd none 0 n = some 0 := by simp [bnd]
        have hT0 : ¬ T = 0 := by omega
        simp [aSlice, un22, hb, ha, sz39, hT0, r7]
      have hcp := copy_of (g2 := (half (rep r xs) n T).take n) r7 (T := T - n) (d := n) (by rw [hlen]; omega) r7 (o2 := 0) (n := n) (by simp [hlen]; omega) (by simp [gcells, List.map_take]) hn0 (by omega)
      obtain ⟨c, hc⟩ : ∃ c, c = Nat.min n (T - n) := ⟨_, rfl⟩
      have hst := half_step hT' hq hlt hc
      rw [← hc, hst] at hcp
      have hc0 : 0 < c := by
        have h1 : Nat.min n (T - n) = min n (T - n) := rfl
        omega
      have hcT : n + c ≤ T := by
        have h1 : Nat.min n (T - n) = min n (T - n) := rfl
        omega
      have hw : IntKind.i64.wrap ((n : Int) + (c : Int)) = ((n + c : Nat) : Int) := by rw [w64 (by omega)]; push_cast; rfl
      simp [e7, e8, hlt, hltI, hs1, hs2, hcp, hw, eds]
      refine ⟨T - (n + c), by omega, keep_upd7 k7 rfl, n + c, rfl, by omega, hcT, by push_cast; rfl, rfl, ?_⟩
      by_cases hcn : c = n
      · exact .inr ⟨2 * q, by rw [hcn, hq]; rw [Nat.mul_assoc]; omega⟩
      · refine .inl ?_
        have h1 : Nat.min n (T - n) = min n (T - n) := rfl
        omega
    · have hnT' : n = T := by omega
      have hltI : ¬ (n : Int) < T := by omega
      rw [hnT', half_all hR] at r7
      simp [e7, e8, hlt, hltI, r7, k7, eds]
  clear e7 e8 eds k6 r6
  rintro ⟨env, H7, ds⟩ ⟨e7, eds, k7, r7⟩
  simp only at e7 eds k7 r7
  simp [e7, eds]
  refine ⟨⟨by have := k7.1; omega, fun z hz _ => by rw [k7.get (by omega) (by omega), f5.get hz]⟩, some H4.next, ⟨0, gcells (rep r xs), by simp [hR], r7, by rw [List.drop_zero, List.take_length], by simp, by have := k7.1; omega⟩, by simp⟩
end Go.Proofs.YtmeaeafceankkaaDoor.C

/- A set stands as the document says. Own text of this session. -/
import Derived.Test.YtdmidlgnfepfjaaDoorGen
set_option linter.unusedVariables false
set_option linter.unusedSimpArgs false
set_option maxRecDepth 4000
set_option maxHeartbeats 8000000
namespace Go.Proofs.YtdmidlgnfepfjaaDoor.C
open Go Go.RowKit Go.Proofs.YtdmidlgnfepfjaaDoorA Go.Proofs.YtdmidlgnfepfjaaDoor.Ones
variable {H : AH}
theorem elemsR_nil {f : Nat → Bool} {a : Nat} (h : ∀ j, a ≤ j → f j = false) : ∀ d, elemsR f a d = []
  | 0 => rfl
  | d + 1 => by rw [elemsR, elemsR_nil h d, h (a + d) (by omega)]; rfl
theorem elems_full {ws : List Nat} {w N : Nat} (hz : ∀ j, w ≤ j → bitAt ws j = false) (h : w ≤ N) : elemsB ws N = elemsB ws w := by
  obtain ⟨d, rfl⟩ : ∃ d, N = w + d := ⟨N - w, by omega⟩
  rw [elemsB_F, elemsB_F, elemsF_split, elemsR_nil hz, List.append_nil]
theorem mem_elemsB (ws : List Nat) (x : Nat) : ∀ k, x ∈ elemsB ws k ↔ x < k ∧ bitAt ws x = true
  | 0 => by simp [elemsB]
  | k + 1 => by
    rw [elemsB, List.mem_append, mem_elemsB ws x k]
    constructor
    · rintro (⟨h1, h2⟩ | h)
      · exact ⟨by omega, h2⟩
      · split at h
        · rename_i hb
          obtain rfl : x = k := by simpa using h
          exact ⟨by omega, hb⟩
        · simp at h
    · rintro ⟨h1, h2⟩
      by_cases e : x = k
      · subst e; right; simp [h2]
      · left; exact ⟨by omega, h2⟩
theorem rank_elems (ws : List Nat) (i : Int) : ∀ (N c : Nat), max 0 (min i (N : Int)) = (c : Int) → rankL (elemsB ws N) i = below ws c
  | 0, c, h => by
    obtain rfl : c = 0 := by omega
    rfl
  | N + 1, c, h => by
    have hs : rankL (elemsB ws (N + 1)) i = rankL (elemsB ws N) i + (if bitAt ws N = true ∧ (N : Int) < i then 1 else 0) := by
      rw [elemsB, rankL, List.filter_append, List.length_append, rankL]
      cases hb : bitAt ws N with
      | false => simp
      | true => by_cases hx : (N : Int) < i <;> simp [hx]
    rw [hs]
    by_cases hx : (N : Int) < i
    · obtain rfl : c = N + 1 := by omega
      rw [rank_elems ws i N N (by omega), below]
      simp [hx]
    · rw [rank_elems ws i N c (by omega)]
      simp [hx]
theorem below_hit (ws : List Nat) (s : Nat) : ∀ t, s < below ws t → ∃ j, j < t ∧ bitAt ws j = true ∧ below ws j = s
  | 0, h => by simp [below] at h
  | t + 1, h => by
    rw [below] at h
    by_cases h1 : s < below ws t
    · obtain ⟨j, h2, h3, h4⟩ := below_hit ws s t h1
      exact ⟨j, by omega, h3, h4⟩
    · cases hb : bitAt ws t with
      | true => rw [hb] at h; simp at h; exact ⟨t, by omega, hb, by omega⟩
      | false => rw [hb] at h; simp at h; omega
/-- stands -/
theorem stands_run {S W w : Nat} {ws : List Nat} {wr : Bool} {sv : Value} {O : Option Nat} (hs : IsSet H S W w ws) (hz : ∀ j, w ≤ j → bitAt ws j = false) (hrow : Row 3 wr H sv (icells (elemsB ws w)) O) (hg : HasG gs H) (hgn : nG ≤ H.next) {i : Int} (hi : -9223372036854775808 ≤ i ∧ i ≤ 9223372036854775807) :
    CallR cx 21 #[ptr S, sv, i64 i] H (fun v H' => v = .bool true ∧ Fresh H H') := by
  have hwd := hs.wide
  have hlen := hs.len
  have hbl := elemsB_len ws w
  have hble := below_le ws w
  obtain ⟨ra, rfl, _⟩ := hrow.isSlice
  simp only [List.length_map] at hrow ⊢
  obtain ⟨n, hn⟩ : ∃ n : Nat, max 0 i = (n : Int) := ⟨(max 0 i).toNat, by omega⟩
  obtain ⟨c, hc⟩ : ∃ c, c = min n w := ⟨_, rfl⟩
  have hci : max 0 (min i (w : Int)) = (c : Int) := by omega
  have hrank := rank_elems ws i w c hci
  have hcle := below_mono ws (show c ≤ w by omega)
  have helems : ∀ j, bitAt ws j = true → j < w ∧ (elemsB ws w)[below ws j]? = some j := fun j hj => by
    have hjw : j < w := by
      rcases Nat.lt_or_ge j w with h | h
      · exact h
      · have := hz j h; rw [hj] at this; cases this
    exact ⟨hjw, elemsB_at hj w hjw⟩
  have hhas : (elemsB ws w).any (fun (x : Nat) => decide ((x : Int) = i)) = (decide (0 ≤ i ∧ i < w) && bitAt ws i.toNat) := by
    rw [Bool.eq_iff_iff, List.any_eq_true]
    constructor
    · rintro ⟨x, hx, hxi⟩
      obtain ⟨h1, h2⟩ := (mem_elemsB ws x w).1 hx
      have hxi' : (x : Int) = i := by simpa using hxi
      have h3 : i.toNat = x := by omega
      have h4 : 0 ≤ i ∧ i < w := by omega
      simp [h3, h4, h2]
    · intro h
      simp only [Bool.and_eq_true, decide_eq_true_eq] at h
      refine ⟨i.toNat, (mem_elemsB ws _ w).2 ⟨by omega, h.2⟩, ?_⟩
      have : ((i.toNat : Nat) : Int) = i := by omega
      simp [this]
  have htold := fun {H : AH} (hs : IsSet H S W w ws) (hg : HasG gs H) (hgn : nG ≤ H.next) => told_run (most := 100000) hs hg hgn
  have hfull := elems_full (N := 64 * ws.length) hz (by omega)
  rw [hfull] at htold
  have hcells : ∀ k, k < (elemsB ws w).length → ∃ j, (elemsB ws w)[k]? = some j := fun k hk => ⟨_, List.getElem?_eq_getElem hk⟩
  generalize elemsB ws w = xs at *
  refine wk21 (by simp) ?_
  unfold c21
  refine aw_cut (fun t => t.env 0 = ptr S ∧ t.env 1 = .slice ra xs.length xs.length ∧ t.env 2 = i64 i ∧ t.ds = [] ∧ t.H = H) (by simp) ?_
  rintro ⟨env, H', ds⟩ ⟨e0, e1, e2, eds, hH⟩
  simp only at e0 e1 e2 eds hH
  subst hH
  -- Next
  refine aw_cut (fun t => t.env 0 = ptr S ∧ t.env 1 = .slice ra xs.length xs.length ∧ t.env 2 = i64 i ∧ t.ds = [] ∧ t.H = H' ∧ ∃ j b, t.env 7 = i64 j ∧ t.env 8 = .bool b ∧ NextR ws n (.tuple #[i64 j, .bool b])) ?_ ?_
  · simp [e0, e2]
    refine callV_R cb12 (next_run hs hz hg hn) ?_
    rintro v H4 ⟨hnx, hH⟩
    subst hH
    have hv : ∃ j b, v = .tuple #[i64 j, .bool b] := by
      rcases hnx with ⟨j, _, _, _, rfl⟩ | ⟨_, rfl⟩
      · exact ⟨_, _, rfl⟩
      · exact ⟨_, _, rfl⟩
    obtain ⟨j, b, rfl⟩ := hv
    simp [e0, e1, e2, eds]
    exact hnx
  clear e0 e1 e2 eds
  rintro ⟨env, H1, ds⟩ ⟨e0, e1, e2, eds, hH, j, b, e7, e8, hnx⟩
  simp only at e0 e1 e2 e7 e8 eds hH
  subst hH
  refine aw_cut (fun t => t.env 0 = ptr S ∧ t.env 1 = .slice ra xs.length xs.length ∧ t.env 2 = i64 i ∧ t.env 7 = i64 j ∧ t.env 8 = .bool b ∧ t.env 9 = i64 ((below ws c : Nat) : Int) ∧ t.ds = [] ∧ t.H = H1) ?_ ?_
  · simp [e1, e2]
    refine callV_R cb29 (rrank_run hrow (by omega)) ?_
    rintro _ H2 ⟨rfl, hH⟩
    subst hH
    simp [e0, e1, e2, e7, e8, hrank, eds]
  clear e0 e1 e2 e7 e8 eds
  rintro ⟨env, H2, ds⟩ ⟨e0, e1, e2, e7, e8, e9, eds, hH⟩
  simp only at e0 e1 e2 e7 e8 e9 eds hH
  subst hH
  refine aw_cut (fun t => t.env 0 = ptr S ∧ t.env 1 = .slice ra xs.length xs.length ∧ t.env 2 = i64 i ∧ t.env 9 = i64 ((below ws c : Nat) : Int) ∧ t.ds = [] ∧ t.H = H2) ?_ ?_
  · rcases hnx with ⟨j', d1, d2, d3, he⟩ | ⟨d1, he⟩
    · obtain ⟨rfl, rfl⟩ : j = (j' : Int) ∧ b = true := by simpa using he
      obtain ⟨hjw, hxj⟩ := helems j' d1
      have hcn : c = n := by omega
      have hbc : below ws j' = below ws c := by
        have := below_gap (ws := ws) (i := c) (j' - c) (fun m h1 h2 => d3 m (by omega) (by omega))
        rwa [show c + (j' - c) = j' by omega] at this
      rw [hbc] at hxj
      generalize below ws c = k at *
      have hkl : k < xs.length := by
        rcases Nat.lt_or_ge k xs.length with h | h
        · exact h
        · rw [List.getElem?_eq_none h] at hxj; cases hxj
      have hklI : (k : Int) < xs.length := by omega
      have hcx : (icells xs)[k]? = some (i64 (j' : Nat)) := by simp [icells, hxj]
      obtain ⟨la, oa, ca, hra, g1, g2, _⟩ := hrow.cell hcx
      have hix := ix34 la oa xs.length xs.length .i64 (k : Int) (by omega) hklI
      rw [Int.toNat_natCast] at hix
      simp [e0, e1, e2, e7, e8, e9, hkl, hklI, hra, hix, g1, g2, eds]
    · obtain ⟨rfl, rfl⟩ : j = 0 ∧ b = false := by simpa using he
      have hbc : below ws w = below ws c := by
        have := below_gap (ws := ws) (i := c) (w - c) (fun m h1 h2 => d1 m (by omega))
        rwa [show c + (w - c) = w by omega] at this
      rw [← hbc, ← hbl] at e9 ⊢
      simp [e0, e1, e2, e7, e8, e9, eds]
  clear e0 e1 e2 e7 e8 e9 eds
  rintro ⟨env, H3, ds⟩ ⟨e0, e1, e2, e9, eds, hH⟩
  simp only at e0 e1 e2 e9 eds hH
  subst hH
  -- Pick
  refine aw_cut (fun t => t.env 0 = ptr S ∧ t.env 1 = .slice ra xs.length xs.length ∧ t.env 2 = i64 i ∧ t.env 9 = i64 ((below ws c : Nat) : Int) ∧ t.ds = [] ∧ t.H = H3 ∧ ∃ j b, t.env 7 = i64 j ∧ t.env 8 = .bool b ∧ ((∃ (m j' : Nat), i = (m : Int) ∧ xs[m]? = some j' ∧ j = (j' : Int) ∧ b = true) ∨ ((i < 0 ∨ (xs.length : Int) ≤ i) ∧ j = 0 ∧ b = false))) ?_ ?_
  · simp [e0, e2]
    by_cases h0 : i < 0
    · refine callV_R cb10 (pick_neg h0) ?_
      rintro _ H4 ⟨rfl, hH⟩
      subst hH
      simp [e0, e1, e2, e9, eds]
      exact .inl h0
    · obtain ⟨m, rfl⟩ : ∃ m : Nat, i = (m : Int) := ⟨i.toNat, by omega⟩
      refine callV_R cb10 (pick_run hs hg (k := m) (by omega)) ?_
      rintro v H4 ⟨hp, hH⟩
      subst hH
      rcases hp with ⟨j', d1, d2, rfl⟩ | ⟨d1, rfl⟩
      · obtain ⟨hjw, hxj⟩ := helems j' d1
        rw [d2] at hxj
        simp [e0, e1, e2, e9, eds]
        exact ⟨m, rfl, j', hxj, rfl⟩
      · simp [e0, e1, e2, e9, eds]
        rcases Nat.lt_or_ge m xs.length with h | h
        · obtain ⟨j', _, h1, h2⟩ := below_hit ws m w (by omega)
          exact absurd h2 (d1 j' h1)
        · exact .inr h
  clear e0 e1 e2 e9 eds
  rintro ⟨env, H4, ds⟩ ⟨e0, e1, e2, e9, eds, hH, j, b, e7, e8, hpk⟩
  simp only at e0 e1 e2 e7 e8 e9 eds hH
  subst hH
  refine aw_cut (fun t => t.env 0 = ptr S ∧ t.env 1 = .slice ra xs.length xs.length ∧ t.env 2 = i64 i ∧ t.env 9 = i64 ((below ws c : Nat) : Int) ∧ t.ds = [] ∧ t.H = H4) ?_ ?_
  · rcases hpk with ⟨m, j', rfl, hxm, rfl, rfl⟩ | ⟨hout, rfl, rfl⟩
    · have hml : m < xs.length := by
        rcases Nat.lt_or_ge m xs.length with h | h
        · exact h
        · rw [List.getElem?_eq_none h] at hxm; cases hxm
      have hmlI : (m : Int) < xs.length := by omega
      have hm0 : (0 : Int) ≤ m := by omega
      have hcx : (icells xs)[m]? = some (i64 (j' : Nat)) := by simp [icells, hxm]
      obtain ⟨la, oa, ca, hra, g1, g2, _⟩ := hrow.cell hcx
      have hix := ix34 la oa xs.length xs.length .i64 (m : Int) hm0 hmlI
      rw [Int.toNat_natCast] at hix
      simp [e0, e1, e2, e7, e8, e9, hml, hmlI, hm0, hra, hix, g1, g2, eds]
    · by_cases h0 : 0 ≤ i
      · have hle : ¬ i < (xs.length : Int) := by omega
        simp [e0, e1, e2, e7, e8, e9, h0, hle, eds]
      · simp [e0, e1, e2, e7, e8, e9, h0, eds]
  clear e0 e1 e2 e7 e8 e9 eds
  rintro ⟨env, H5, ds⟩ ⟨e0, e1, e2, e9, eds, hH⟩
  simp only at e0 e1 e2 e9 eds hH
  subst hH
  -- told
  obtain ⟨mm, hmm⟩ : ∃ m : Nat, m = 100000 := ⟨_, rfl⟩
  have ht := htold hs hg hgn
  rw [List.take_of_length_le (by omega)] at ht
  refine aw_cut (fun t => t.env 0 = ptr S ∧ t.env 1 = .slice ra xs.length xs.length ∧ t.env 2 = i64 i ∧ t.env 9 = i64 ((below ws c : Nat) : Int) ∧ t.env 11 = .bool true ∧ t.ds = [] ∧ Fresh H5 t.H ∧ ∃ Of, Row 3 true t.H (t.env 10) (icells xs) Of) ?_ ?_
  · simp [e0]
    refine callV_R cb14 ht ?_
    rintro _ H6 ⟨tv, Of, rfl, hrT, _, f6⟩
    simp [e0, e1, e2, e9, eds, f6]
    exact ⟨Of, hrT⟩
  clear e0 e1 e2 e9 eds
  rintro ⟨env, H6, ds⟩ ⟨e0, e1, e2, e9, e11, eds, f6, Of, hrT⟩
  simp only at e0 e1 e2 e9 e11 eds f6 hrT
  generalize e10 : env 10 = tv at hrT
  have hrow6 := hrow.keep f6 (fun _ _ => id)
  have hs6 := hs.fresh f6
  have hcount := count_run hs6
  rw [← hbl] at hcount
  have hrk := rank_run hs6 hci
  have hhs := has_gen hs6 (i := i)
  rw [← hhas] at hhs
  have hrh := rhas_run hrow6 (by omega) (i := i)
  generalize xs.any (fun (x : Nat) => decide ((x : Int) = i)) = hb at hhs hrh
  simp [e0, e1, e2, e9, e10, e11]
  refine callV_R cb16 (ints_run hrT hrow6 (by omega)) ?_
  rintro _ H7 ⟨rfl, hH⟩
  subst hH
  simp [e0, e1, e2, e9, e10, e11]
  refine callV_R cb23 hcount ?_
  rintro _ H8 ⟨rfl, hH⟩
  subst hH
  simp [e0, e1, e2, e9, e10, e11]
  refine callV_R cb22 hhs ?_
  rintro _ H9 ⟨rfl, hH⟩
  subst hH
  simp [e0, e1, e2, e9, e10, e11]
  refine callV_R cb30 hrh ?_
  rintro _ HA ⟨rfl, hH⟩
  subst hH
  simp [e0, e1, e2, e9, e10, e11]
  refine callV_R cb11 hrk ?_
  rintro _ HB ⟨rfl, hH⟩
  subst hH
  simp [e9, eds, f6]
end Go.Proofs.YtdmidlgnfepfjaaDoor.C

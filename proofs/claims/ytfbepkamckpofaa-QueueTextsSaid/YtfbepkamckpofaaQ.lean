/-
  The queue over the small heap: what each of its functions does. Own text of this session.
-/
import Derived.Test.YtfbepkamckpofaaC
set_option linter.unusedVariables false
set_option linter.unusedSimpArgs false
set_option maxRecDepth 4000
set_option maxHeartbeats 2000000
namespace Go.Proofs.Ytfbepkamckpofaa.C
open Go Go.RowKit Go.Proofs.YtfbepkamckpofaaA

def ringV : Option Nat → Nat → Value
  | none, _ => .slice none 0 0
  | some r, N => sl r 0 N
def RingOk (H : AH) (q : Nat) (f N : Nat) (xs : List Value) : Option Nat → Prop
  | none => N = 0 ∧ f = 0
  | some r => r < H.next ∧ r ≠ q ∧ f < N ∧ ∃ cs, H.get r = some (.cells cs 2 true 1) ∧ cs.length = N ∧ (∀ x ∈ cs, isCell x = true) ∧ ∀ i, i < xs.length → cs[(f + i) % N]? = xs[i]?
/-- a queue, its ring, its most, its things, and how many were pushed -/
structure IsQ (H : AH) (q : Nat) (r : Option Nat) (most : Int) (xs : List Value) (total : Int) (f N : Nat) : Prop where
  blk : H.get q = some (.cells [i64 most, ringV r N, i64 f, i64 xs.length, .int .u64 total] 58 true 0)
  lo : 1 ≤ most
  hi : most ≤ 65536
  few : (xs.length : Int) ≤ most
  inN : xs.length ≤ N
  capN : (N : Int) ≤ most
  qlt : q < H.next
  ring : RingOk H q f N xs r
  cell : ∀ x ∈ xs, isCell x = true
def Foot (q : Nat) (r : Option Nat) (l : Nat) : Prop := l = q ∨ r = some l

theorem new_run {H : AH} {n : Int} (h : 1 ≤ n ∧ n ≤ 65536) : CallR cx 12 #[i64 n] H (fun v H' => v = .tuple #[ptr H.next, i64 0] ∧ H' = H.new (.cells [i64 n, .slice none 0 0, i64 0, i64 0, .int .u64 0] 58 true 0)) := by
  refine wk12 (by simp) ?_
  have h1 : ¬ n < 1 := by omega
  have h2 : ¬ 65536 < n := by omega
  simp [c12, h1, h2]
theorem new_bad {H : AH} {n : Int} (h : ¬ (1 ≤ n ∧ n ≤ 65536)) : CallR cx 12 #[i64 n] H (fun v H' => v = .tuple #[.pointer none, i64 1] ∧ H' = H) := by
  refine wk12 (by simp) ?_
  by_cases h1 : n < 1
  · simp [c12, h1]
  · have h2 : 65536 < n := by omega
    simp [c12, h1, h2]
/-- where in the ring -/
theorem at_run {H : AH} {q : Nat} {a0 a3 a4 : Value} {f i : Int} {N : Nat} {ra : Option Addr} (hN : 0 < N) (hf : 0 ≤ f) (hi : 0 ≤ i) (hb : f + i < 1000000000) (h : H.get q = some (.cells [a0, .slice ra N N, i64 f, a3, a4] 58 true 0)) :
    CallR cx 24 #[ptr q, i64 i] H (fun v H' => v = i64 ((f + i) % N) ∧ H' = H) := by
  refine wk24 (by simp) ?_
  have hN' : (N : Int) ≠ 0 := by omega
  have hw : IntKind.i64.wrap (f + i) = f + i := by simp [IntKind.wrap, IntKind.bits, IntKind.signed]; omega
  have ht : (f + i).tmod N = (f + i) % N := Int.tmod_eq_emod_of_nonneg (by omega)
  simp [c24, h, hw, aBin_rem _ _ _ _ _ _ hN', ht]

variable {H : AH} {q : Nat} {r : Option Nat} {most : Int} {xs : List Value} {total : Int} {f N : Nat}
theorem len_run (h : IsQ H q r most xs total f N) : CallR cx 18 #[ptr q] H (fun v H' => v = i64 xs.length ∧ H' = H) := by
  refine wk18 (by simp) ?_
  simp [c18, h.blk]
theorem len_nil : CallR cx 18 #[.pointer none] H (fun v H' => v = i64 0 ∧ H' = H) := by
  refine wk18 (by simp) ?_
  simp [c18]
theorem total_run (h : IsQ H q r most xs total f N) : CallR cx 19 #[ptr q] H (fun v H' => v = .int .u64 total ∧ H' = H) := by
  refine wk19 (by simp) ?_
  simp [c19, h.blk]
theorem total_nil : CallR cx 19 #[.pointer none] H (fun v H' => v = .int .u64 0 ∧ H' = H) := by
  refine wk19 (by simp) ?_
  simp [c19]
theorem get_nil {i : Int} : CallR cx 15 #[.pointer none, i64 i] H (fun v H' => v = .tuple #[i64 0, .bool false] ∧ H' = H) := by
  refine wk15 (by simp) ?_
  simp [c15]
theorem pop_nil : CallR cx 13 #[.pointer none] H (fun v H' => v = .tuple #[i64 0, .bool false] ∧ H' = H) := by
  refine wk13 (by simp) ?_
  simp [c13]
theorem push_nil {x : Value} : CallR cx 14 #[.pointer none, x] H (fun v H' => v = .tuple #[i64 0, .bool false] ∧ H' = H) := by
  refine wk14 (by simp) ?_
  simp [c14]
theorem get_out (h : IsQ H q r most xs total f N) {i : Int} (hi : ¬ (0 ≤ i ∧ i < xs.length)) : CallR cx 15 #[ptr q, i64 i] H (fun v H' => v = .tuple #[i64 0, .bool false] ∧ H' = H) := by
  refine wk15 (by simp) ?_
  by_cases h1 : i < 0
  · simp [c15, h1]
  · have h2 : (xs.length : Int) ≤ i := by omega
    simp [c15, h1, h.blk, h2]
theorem get_run (h : IsQ H q r most xs total f N) {i : Nat} {x : Value} (hx : xs[i]? = some x) : CallR cx 15 #[ptr q, i64 i] H (fun v H' => v = .tuple #[x, .bool true] ∧ H' = H) := by
  have hi : i < xs.length := by
    rcases Nat.lt_or_ge i xs.length with h | h
    · exact h
    · rw [List.getElem?_eq_none h] at hx; cases hx
  have h1 : ¬ (i : Int) < 0 := by omega
  have h2 : ¬ (xs.length : Int) ≤ i := by omega
  cases r with
  | none => have := h.ring.1; have := h.inN; omega
  | some r =>
    obtain ⟨hr, hrq, hf, cs, hcs, hcl, hcc, hci⟩ := h.ring
    have hcap := h.capN
    have hhi := h.hi; have hfew := h.few
    have hb := h.blk
    have hat := at_run (i := (i : Int)) (f := (f : Int)) (by omega) (by omega) (by omega) (by omega) h.blk
    have hm : ((f : Int) + i) % N = (((f + i) % N : Nat) : Int) := by push_cast; rfl
    have hlt : (f + i) % N < N := Nat.mod_lt _ (by omega)
    refine wk15 (by simp) ?_
    simp [c15, h1, h.blk, h2, ringV]
    refine callV_R cb24 hat ?_
    rintro _ _ ⟨rfl, rfl⟩
    rw [hm]
    have h3 : (((f + i) % N : Nat) : Int) < N := by exact_mod_cast hlt
    have h4 : (0 : Int) ≤ (((f + i) % N : Nat) : Int) := by omega
    simp [-Int.natCast_emod, ix32 _ _ _ _ _ _ h4 h3, hcs, hci i hi, hx, h.blk, StillA, ringV]
theorem wrap_small {n : Int} (h : -9000000000000000000 ≤ n ∧ n ≤ 9000000000000000000) : IntKind.i64.wrap n = n := by simp [IntKind.wrap, IntKind.bits, IntKind.signed]; omega
theorem pop_empty (h : IsQ H q r most [] total f N) : CallR cx 13 #[ptr q] H (fun v H' => v = .tuple #[i64 0, .bool false] ∧ H' = H) := by
  refine wk13 (by simp) ?_
  simp [c13, h.blk]
theorem pop_run {x : Value} (h : IsQ H q r most (x :: xs) total f N) : CallR cx 13 #[ptr q] H (fun v H' => v = .tuple #[x, .bool true] ∧ IsQ H' q r most xs total ((f + 1) % N) N ∧ Keep (Foot q r) H H' ∧ H'.next = H.next) := by
  have hb := h.blk
  have hne : ((xs.length : Int) + 1 = 0) = False := by simp; omega
  cases r with
  | none => have := h.ring.1; have := h.inN; simp at this; omega
  | some r =>
    obtain ⟨hr, hrq, hf, cs, hcs, hcl, hcc, hci⟩ := h.ring
    have hcap := h.capN; have hhi := h.hi; have hfew := h.few
    have hcf : cs[f]? = some x := by have := hci 0 (by simp); simpa [Nat.mod_eq_of_lt hf] using this
    have h3 : ((f : Nat) : Int) < N := by exact_mod_cast hf
    have h4 : (0 : Int) ≤ ((f : Nat) : Int) := by omega
    refine wk13 (by simp) ?_
    have hcl' : f + 1 ≤ cs.length := by omega
    simp [c13, hb, hne, ringV, ix32 _ _ _ _ _ _ h4 h3, hcs, hcf, hcl']
    refine callV_R cb24 (at_run (a0 := i64 most) (a3 := i64 ((xs.length : Int) + 1)) (a4 := .int .u64 total) (f := f) (N := N) (ra := some ⟨r, 0, none⟩) (by omega) (by omega) (by omega) (by omega) ?_) ?_
    · simp [hrq.symm, hb, ringV]
    rintro _ _ ⟨rfl, rfl⟩
    have hm : ((f : Int) + 1) % N = (((f + 1) % N : Nat) : Int) := by push_cast; rfl
    have hw : IntKind.i64.wrap (xs.length : Int) = xs.length := wrap_small (by simp at hfew; omega)
    rw [hm]
    simp [-Int.natCast_emod, hrq.symm, hrq, hb, ringV, hw]
    refine ⟨⟨by simp [-Int.natCast_emod, ringV], h.lo, h.hi, by simp at hfew ⊢; omega, by have := h.inN; simp at this; omega, h.capN, h.qlt, ?_, fun y hy => h.cell y (by simp [hy])⟩, ⟨Nat.le_refl _, ?_⟩⟩
    · refine ⟨hr, hrq, Nat.mod_lt _ (by omega), cs.set f (.int .i64 0), by simp [hrq], by simp [hcl], ?_, ?_⟩
      · intro y hy
        rcases List.mem_or_eq_of_mem_set hy with hy | rfl
        · exact hcc y hy
        · rfl
      · intro i hi
        have := hci (i + 1) (by simp; omega)
        have hN := h.inN
        simp at hN
        have hme : ((f + 1) % N + i) % N = (f + (i + 1)) % N := by rw [Nat.mod_add_mod]; congr 1; omega
        rw [hme]
        have hne2 : f ≠ (f + (i + 1)) % N := by
          intro he
          rcases Nat.lt_or_ge (f + (i + 1)) N with hl | hl
          · rw [Nat.mod_eq_of_lt hl] at he; omega
          · rw [Nat.mod_eq_sub_mod hl, Nat.mod_eq_of_lt (by omega)] at he; omega
        rw [List.getElem?_set_ne hne2, this]
        simp
    · intro l hl hn
      simp only [Foot, not_or] at hn
      have : ¬ l = r := fun e => hn.2 (by rw [e])
      simp [hn.1, this]

theorem foot_none {q l : Nat} : Foot q none l ↔ l = q := by simp [Foot]
theorem foot_some {q r l : Nat} : Foot q (some r) l ↔ l = q ∨ l = r := by simp [Foot, eq_comm]
theorem wrapN {n : Int} (h : -9000000000000000000 ≤ n ∧ n ≤ 9000000000000000000) : IntKind.i64.wrap n = n := wrap_small h
theorem mk32 (n : Int) (h : 0 ≤ n ∧ n ≤ 1000000) (H : AH) : aMakeSlice Try.prog 32 (.int .i64 n) (.int .i64 n) H = some (.slice (some ⟨H.next, 0, none⟩) n.toNat n.toNat, ⟨H.next + 1, upd H.get H.next (.cells (List.replicate n.toNat (.int .i64 0)) 2 true 1)⟩) := by
  have hi : Try.prog.info? 2 = some ((Try.prog.info? 2).getD default) := by kernel_rfl
  have hz : zeroOf Try.prog 2 = some [.int .i64 0] := by kernel_rfl
  have hs : ((Try.prog.info? 2).getD default).size = 1 := by kernel_rfl
  have hb : ((Try.prog.info? 2).getD default).bytes = 8 := by kernel_rfl
  simp only [aMakeSlice, un32, hz]
  rw [hi]
  simp only [hs, hb]
  rw [if_pos ⟨h.1, Int.le_refl _, by omega, by omega⟩]
  have : rowZeros [Value.int .i64 0] (n.toNat * 1) = List.replicate n.toNat (.int .i64 0) := by
    refine List.ext_getElem (by simp [rowZeros]) ?_
    intro i h1 h2
    simp [rowZeros, Nat.mod_one]
  rw [this]
  rfl
/-- more room -/
theorem grow_run (h : IsQ H q r most xs total f N) (hfull : xs.length = N) (hlt : (N : Int) < most) : CallR cx 25 #[ptr q] H (fun v H' => ∃ N', N < N' ∧ IsQ H' q (some H.next) most xs total 0 N' ∧ Keep (Foot q none) H H') := by
  have hb := h.blk
  have hhi := h.hi
  have hw2 : IntKind.i64.wrap (2 * (N : Int)) = 2 * N := wrap_small (by omega)
  have hw4 : IntKind.i64.wrap (2 * (N : Int) + 4) = 2 * N + 4 := wrap_small (by omega)
  have hmk := mk32 (min most (2 * (N : Int) + 4)) (by omega) H
  have hring : ∃ ra, ringV r N = .slice ra N N := by
    cases r with
    | none => have := h.ring.1; subst this; exact ⟨none, rfl⟩
    | some r => exact ⟨_, rfl⟩
  obtain ⟨ra, hra⟩ := hring
  have hlo := h.lo
  have hql := h.qlt
  have hqn : q ≠ H.next := by omega
  refine wk25 (by simp) ?_
  simp [c25, hb, hra, hw2, hw4, hmk, hqn]
  generalize hN'e : (min most (2 * (N : Int) + 4)).toNat = N'
  have hNN : N < N' := by omega
  have hNm : (N' : Int) ≤ most := by omega
  refine aw_loop_to N (fun k s => s.env 0 = ptr q ∧ s.env 2 = sl H.next 0 N' ∧ s.env 20 = i64 N ∧ s.env 21 = i64 k ∧ s.ds = [] ∧ s.H.next = H.next + 1 ∧ (∀ l, l ≠ H.next → s.H.get l = H.get l) ∧
    ∃ cs', s.H.get H.next = some (.cells cs' 2 true 1) ∧ cs'.length = N' ∧ (∀ x ∈ cs', isCell x = true) ∧ ∀ i, i < k → cs'[i]? = xs[i]?) ?_ ?_ ?_
  · rintro k ⟨env, H1, ds⟩ hk ⟨h0, h2, h20, h21, hds, hn, hget, cs', hc1, hc2, hc3, hc4⟩
    simp only at h0 h2 h20 h21 hds hn hget hc1
    cases r with
    | none => have := h.ring.1; omega
    | some r =>
    obtain ⟨hr, hrq, hf, cs, hcs, hcl, hcc, hci⟩ := h.ring
    have hgq : H1.get q = H.get q := hget q hqn
    have hgr : H1.get r = H.get r := hget r (by omega)
    have hkN : (k : Int) < N := by omega
    have hw : IntKind.i64.wrap ((k : Int) + 1) = ((k + 1 : Nat) : Int) := by rw [wrap_small (by omega)]; rfl
    have hra' : ra = some ⟨r, 0, none⟩ := by simp [ringV] at hra; exact hra.symm
    subst hra'
    simp [h0, h2, h20, h21, hkN, hgq, hb, hra]
    refine callV_R cb24 (at_run (a0 := i64 most) (a3 := i64 xs.length) (a4 := .int .u64 total) (f := f) (i := k) (N := N) (ra := some ⟨r, 0, none⟩) (by omega) (by omega) (by omega) (by omega) (by rw [hgq, hb, hra])) ?_
    rintro _ _ ⟨rfl, rfl⟩
    have hm : ((f : Int) + k) % N = (((f + k) % N : Nat) : Int) := by push_cast; rfl
    have hlt2 : (f + k) % N < N := Nat.mod_lt _ (by omega)
    have h3 : (((f + k) % N : Nat) : Int) < N := by exact_mod_cast hlt2
    have h4 : (0 : Int) ≤ (((f + k) % N : Nat) : Int) := by omega
    have h5 : (k : Int) < N' := by omega
    have h6 : (0 : Int) ≤ k := by omega
    obtain ⟨x, hx⟩ : ∃ x, xs[k]? = some x := ⟨xs[k], List.getElem?_eq_getElem (by omega)⟩
    have hxc : isCell x = true := h.cell x (List.mem_of_getElem? hx)
    have h7 : k + 1 ≤ cs'.length := by omega
    rw [hm]
    simp [-Int.natCast_emod, h0, h2, h20, h21, hgq, hb, hra, hgr, hcs, hci k (by omega), hx, hxc, ix32 _ _ _ _ _ _ h4 h3, ix32 _ _ _ _ _ _ h6 h5, hc1, h7, hw]
    refine ⟨hds, hn, fun l hl => by simp [hl, hget l hl], hc2, ?_, ?_⟩
    · intro y hy
      rcases List.mem_or_eq_of_mem_set hy with hy | rfl
      · exact hc3 y hy
      · exact hxc
    · intro i hi
      by_cases e : k = i
      · subst e; rw [List.getElem?_set_self (by omega), hx]
      · rw [List.getElem?_set_ne e]; exact hc4 i (by omega)
  · rintro ⟨env, H1, ds⟩ ⟨h0, h2, h20, h21, hds, hn, hget, cs', hc1, hc2, hc3, hc4⟩
    simp only at h0 h2 h20 h21 hds hn hget hc1
    subst hds
    have hgq : H1.get q = H.get q := hget q hqn
    simp [h0, h2, h20, h21, hgq, hb]
    refine ⟨N', hNN, ⟨by simp [ringV], h.lo, h.hi, h.few, by omega, hNm, by simp; omega, ⟨by simp; omega, hqn.symm, by omega, cs', by simp [hqn.symm, hc1], hc2, hc3, ?_⟩, h.cell⟩, ⟨by simp; omega, ?_⟩⟩
    · intro i hi
      rw [Nat.zero_add, Nat.mod_eq_of_lt (by omega)]
      exact hc4 i (by omega)
    · intro l hl hn'
      rw [foot_none] at hn'
      simp [hn', hget l (by omega)]
  · simp [hqn, hb]
    refine ⟨by omega, fun l h1 h2 => absurd h2 h1⟩
/-- a cell of the ring is set: the queue has one more -/
theorem isq_more {H1 : AH} {r1 f1 N1 : Nat} (h1 : IsQ H1 q (some r1) most xs total f1 N1) (hl : xs.length < N1) {x : Value} (hx : isCell x = true) :
    ∃ cs, H1.get r1 = some (.cells cs 2 true 1) ∧ cs.length = N1 ∧ r1 ≠ q ∧ f1 < N1 ∧ r1 < H1.next ∧
      ∀ H2 : AH, H2.next = H1.next → H2.get q = some (.cells [i64 most, sl r1 0 N1, i64 f1, i64 ((xs.length : Int) + 1), .int .u64 (IntKind.u64.wrap (total + 1))] 58 true 0) → H2.get r1 = some (.cells (cs.set ((f1 + xs.length) % N1) x) 2 true 1) →
        IsQ H2 q (some r1) most (xs ++ [x]) (IntKind.u64.wrap (total + 1)) f1 N1 := by
  obtain ⟨hr, hrq, hf, cs, hcs, hcl, hcc, hci⟩ := h1.ring
  refine ⟨cs, hcs, hcl, hrq, hf, hr, ?_⟩
  intro H2 hn hq2 hr2
  have hcap := h1.capN
  refine ⟨by rw [hq2]; simp [ringV], h1.lo, h1.hi, by simp; omega, by simp; omega, h1.capN, by have := h1.qlt; omega, ⟨by omega, hrq, hf, _, hr2, by simp [hcl], ?_, ?_⟩, ?_⟩
  · intro y hy
    rcases List.mem_or_eq_of_mem_set hy with hy | rfl
    · exact hcc y hy
    · exact hx
  · intro i hi
    simp at hi
    by_cases e : i = xs.length
    · subst e
      rw [List.getElem?_set_self (by rw [hcl]; exact Nat.mod_lt _ (by omega))]
      simp
    · have hne2 : (f1 + xs.length) % N1 ≠ (f1 + i) % N1 := by
        intro he
        have h1 : i < xs.length := by omega
        rcases Nat.lt_or_ge (f1 + xs.length) N1 with hl1 | hl1
        · rw [Nat.mod_eq_of_lt hl1, Nat.mod_eq_of_lt (by omega)] at he; omega
        · rw [Nat.mod_eq_sub_mod hl1, Nat.mod_eq_of_lt (a := f1 + xs.length - N1) (by omega)] at he
          rcases Nat.lt_or_ge (f1 + i) N1 with hl2 | hl2
          · rw [Nat.mod_eq_of_lt hl2] at he; omega
          · rw [Nat.mod_eq_sub_mod hl2, Nat.mod_eq_of_lt (a := f1 + i - N1) (by omega)] at he; omega
      rw [List.getElem?_set_ne hne2, hci i (by omega), List.getElem?_append_left (by omega)]
  · intro y hy
    rw [List.mem_append, List.mem_singleton] at hy
    rcases hy with hy | rfl
    · exact h1.cell y hy
    · exact hx
theorem ringV_ex (h : IsQ H q r most xs total f N) : ∃ ra, ringV r N = .slice ra N N := by
  cases r with
  | none => have := h.ring.1; subst this; exact ⟨none, rfl⟩
  | some r => exact ⟨_, rfl⟩
/-- a thing behind all others -/
theorem push_room (h : IsQ H q r most xs total f N) (hlt : (xs.length : Int) < most) {x : Value} (hx : isCell x = true) :
    CallR cx 14 #[ptr q, x] H (fun v H' => v = .tuple #[i64 0, .bool false] ∧ ∃ r' f' N', IsQ H' q r' most (xs ++ [x]) (IntKind.u64.wrap (total + 1)) f' N' ∧ Keep (Foot q r) H H' ∧ (r' = r ∨ ∃ l, r' = some l ∧ H.next ≤ l)) := by
  have hb := h.blk
  have hhi := h.hi
  obtain ⟨ra, hra⟩ := ringV_ex h
  have hne : ((xs.length : Int) = most) = False := by simp; omega
  refine wk14 (by simp) ?_
  by_cases hN : xs.length = N
  · have hg := grow_run h hN (by omega)
    have hNe : ((N : Int) = most) = False := by simp; omega
    simp [c14, hb, hra, hN, hNe]
    refine callV_R cb25 hg ?_
    rintro _ H1 ⟨N1, hroom, h1, hk⟩
    rw [← hN] at hroom
    obtain ⟨f1, hf10, h1⟩ : ∃ f1, (0 : Nat) = f1 ∧ IsQ H1 q (some H.next) most xs total f1 N1 := ⟨0, rfl, h1⟩
    generalize hyy : xs = ys at *
    obtain ⟨r1, hrr, h1⟩ : ∃ r1, H.next = r1 ∧ IsQ H1 q (some r1) most ys total f1 N1 := ⟨_, rfl, h1⟩
    obtain ⟨cs, hcs, hcl, hrq, hf1, hr1, hfin⟩ := isq_more h1 hroom hx
    have hb1 := h1.blk
    have hcap := h1.capN
    have hhi1 := h1.hi
    have hw : IntKind.i64.wrap ((ys.length : Int) + 1) = ys.length + 1 := wrap_small (by omega)
    have hlt2 : (f1 + ys.length) % N1 < N1 := Nat.mod_lt _ (by omega)
    have h3 : (((f1 + ys.length) % N1 : Nat) : Int) < N1 := by exact_mod_cast hlt2
    have h4 : (0 : Int) ≤ (((f1 + ys.length) % N1 : Nat) : Int) := by omega
    have h5 : (f1 + ys.length) % N1 + 1 ≤ N1 := by omega
    have hm : ((f1 : Int) + ys.length) % N1 = (((f1 + ys.length) % N1 : Nat) : Int) := by push_cast; rfl
    try simp [hb1, ringV]
    have hat := at_run (H := H1) (q := q) (a0 := i64 most) (a3 := i64 ys.length) (a4 := .int .u64 total) (f := f1) (i := ys.length) (N := N1) (ra := some ⟨r1, 0, none⟩) (by omega) (by omega) (by omega) (by omega) (by rw [hb1]; rfl)
    refine callV_R cb24 hat ?_
    rintro _ _ ⟨rfl, rfl⟩
    rw [hm]
    simp [-Int.natCast_emod, ix32 _ _ _ _ _ _ h4 h3, hb1, hx, hcs, hcl, h5, hlt2, hw, hrq, hrq.symm, ringV]
    refine ⟨some r1, ⟨f1, N1, hfin _ rfl (by simp) (by simp [hrq])⟩, ⟨hk.1, ?_⟩, .inr ⟨r1, rfl, by omega⟩⟩
    intro l hl hn
    have hlq : ¬ l = q := fun e => hn (.inl e)
    have hlr : ¬ l = r1 := by omega
    simp [hlq, hlr]
    exact hk.2 l hl (by rw [foot_none]; exact hlq)
  · have hNe : ((xs.length : Int) = N) = False := by simp; omega
    cases r with
    | none => have := h.ring.1; have := h.inN; omega
    | some r1 =>
    have h1 := h
    have hroom : xs.length < N := by have := h.inN; omega
    obtain ⟨f1, hff, h1⟩ : ∃ f1, f = f1 ∧ IsQ H q (some r1) most xs total f1 N := ⟨_, rfl, h1⟩
    generalize hyy : xs = ys at *
    generalize hNN : N = N1 at *
    simp [c14, hb, ringV, hne, hNe]
    obtain ⟨cs, hcs, hcl, hrq, hf1, hr1, hfin⟩ := isq_more h1 hroom hx
    have hb1 := h1.blk
    have hcap := h1.capN
    have hhi1 := h1.hi
    have hw : IntKind.i64.wrap ((ys.length : Int) + 1) = ys.length + 1 := wrap_small (by omega)
    have hlt2 : (f1 + ys.length) % N1 < N1 := Nat.mod_lt _ (by omega)
    have h3 : (((f1 + ys.length) % N1 : Nat) : Int) < N1 := by exact_mod_cast hlt2
    have h4 : (0 : Int) ≤ (((f1 + ys.length) % N1 : Nat) : Int) := by omega
    have h5 : (f1 + ys.length) % N1 + 1 ≤ N1 := by omega
    have hm : ((f1 : Int) + ys.length) % N1 = (((f1 + ys.length) % N1 : Nat) : Int) := by push_cast; rfl
    try simp [hb1, ringV]
    have hat := at_run (H := H) (q := q) (a0 := i64 most) (a3 := i64 ys.length) (a4 := .int .u64 total) (f := f1) (i := ys.length) (N := N1) (ra := some ⟨r1, 0, none⟩) (by omega) (by omega) (by omega) (by omega) (by rw [hb1]; rfl)
    refine callV_R cb24 hat ?_
    rintro _ _ ⟨rfl, rfl⟩
    rw [hm]
    simp [-Int.natCast_emod, ix32 _ _ _ _ _ _ h4 h3, hb1, hx, hcs, hcl, h5, hlt2, hw, hrq, hrq.symm, ringV, hne]
    refine ⟨some r1, ⟨f1, N1, hfin _ rfl (by simp) (by simp [hrq])⟩, ⟨Nat.le_refl _, ?_⟩, .inl rfl⟩
    intro l hl hn
    rw [foot_some, not_or] at hn
    simp [hn.1, hn.2]
theorem push_full {y : Value} (h : IsQ H q r most (y :: xs) total f N) (hfull : (xs.length : Int) + 1 = most) {x : Value} (hx : isCell x = true) :
    CallR cx 14 #[ptr q, x] H (fun v H' => v = .tuple #[y, .bool true] ∧ ∃ f', IsQ H' q r most (xs ++ [x]) (IntKind.u64.wrap (total + 1)) f' N ∧ Keep (Foot q r) H H') := by
  have hb := h.blk
  have hhi := h.hi
  refine wk14 (by simp) ?_
  cases r with
  | none => have := h.ring.1; have := h.inN; simp at this; omega
  | some r1 =>
    simp [c14, hb, ringV, hfull]
    refine callV_R cb13 (pop_run h) ?_
    rintro _ H1 ⟨rfl, h1, hk, hnx⟩
    have hroom : xs.length < N := by have := h.inN; simp at this; omega
    obtain ⟨f1, h1⟩ : ∃ f1, IsQ H1 q (some r1) most xs total f1 N := ⟨_, h1⟩
    generalize hyy : xs = ys at *
    generalize hNN : N = N1 at *
    have hb1' := h1.blk
    have hNe : ((ys.length : Int) = N1) = False := by simp; omega
    simp [hb1', ringV, hNe]
    obtain ⟨cs, hcs, hcl, hrq, hf1, hr1, hfin⟩ := isq_more h1 hroom hx
    have hb1 := h1.blk
    have hcap := h1.capN
    have hhi1 := h1.hi
    have hw : IntKind.i64.wrap ((ys.length : Int) + 1) = ys.length + 1 := wrap_small (by omega)
    have hlt2 : (f1 + ys.length) % N1 < N1 := Nat.mod_lt _ (by omega)
    have h3 : (((f1 + ys.length) % N1 : Nat) : Int) < N1 := by exact_mod_cast hlt2
    have h4 : (0 : Int) ≤ (((f1 + ys.length) % N1 : Nat) : Int) := by omega
    have h5 : (f1 + ys.length) % N1 + 1 ≤ N1 := by omega
    have hm : ((f1 : Int) + ys.length) % N1 = (((f1 + ys.length) % N1 : Nat) : Int) := by push_cast; rfl
    try simp [hb1, ringV]
    have hat := at_run (H := H1) (q := q) (a0 := i64 most) (a3 := i64 ys.length) (a4 := .int .u64 total) (f := f1) (i := ys.length) (N := N1) (ra := some ⟨r1, 0, none⟩) (by omega) (by omega) (by omega) (by omega) (by rw [hb1]; rfl)
    refine callV_R cb24 hat ?_
    rintro _ _ ⟨rfl, rfl⟩
    rw [hm]
    simp [-Int.natCast_emod, ix32 _ _ _ _ _ _ h4 h3, hb1, hx, hcs, hcl, h5, hlt2, hw, hrq, hrq.symm, ringV]
    refine ⟨⟨f1, hfin _ rfl (by simp) (by simp [hrq])⟩, ⟨hk.1, ?_⟩⟩
    intro l hl hn
    have hn' := hn
    rw [foot_some, not_or] at hn
    simp [hn.1, hn.2]
    exact hk.2 l hl hn'
end Go.Proofs.Ytfbepkamckpofaa.C

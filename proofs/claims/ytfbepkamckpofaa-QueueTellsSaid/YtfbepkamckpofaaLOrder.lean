/- The queue's laws over the small heap: QueueOrder. Own text of this session. -/
import Derived.Test.YtfbepkamckpofaaQ4
import Derived.Test.YtfbepkamckpofaaA15
set_option linter.unusedVariables false
set_option linter.unusedSimpArgs false
set_option maxRecDepth 4000
set_option maxHeartbeats 4000000
namespace Go.Proofs.Ytfbepkamckpofaa.C
open Go Go.RowKit Go.Proofs.YtfbepkamckpofaaA

/-- what went (in a row of the law's own) and what is there still; nothing below n0 is turned -/
structure Sorted (n0 : Nat) (H0 H : AH) (q : Nat) (m : Int) (gv : Value) (g xs : List Int) : Prop where
  ex : ∃ r total f N O, IsQ H q r m (xs.map i64) total f N ∧ Row 2 true H gv (g.map i64) O ∧ (∀ l, r = some l → n0 ≤ l) ∧ (∀ l, O = some l → n0 ≤ l ∧ l ≠ q ∧ r ≠ some l)
  q0 : n0 ≤ q
  keep : Keep (fun l => n0 ≤ l) H0 H
theorem Sorted.push {n0 : Nat} {H0 H : AH} {q : Nat} {m : Int} {gv : Value} {g xs : List Int} (h : Sorted n0 H0 H q m gv g xs) (hn : n0 ≤ H0.next) (x : Int) :
    CallR cx 14 #[ptr q, i64 x] H (fun v H' => (v = .tuple #[i64 0, .bool false] ∧ Sorted n0 H0 H' q m gv g (xs ++ [x])) ∨ (∃ y t, xs = y :: t ∧ v = .tuple #[i64 y, .bool true] ∧ Sorted n0 H0 H' q m gv g (t ++ [x]))) := by
  obtain ⟨⟨r, total, f, N, O, hq, hr, hrn, hO⟩, hq0, hk⟩ := h
  have hlow : ∀ l, O = some l → l < H.next := fun l e => by subst e; exact hr.low
  by_cases hm : (xs.length : Int) < m
  · refine (push_room hq (by simpa using hm) (x := i64 x) rfl).mono ?_
    rintro v H' ⟨rfl, r', f', N', hq', hk', hr'⟩
    refine .inl ⟨rfl, ⟨r', _, f', N', O, by simpa using hq', hr.keep hk' ?_, ?_, ?_⟩, hq0, hk.trans (hk'.high hq0 hrn)⟩
    · intro l e hf
      rcases hf with h | h
      · exact (hO l e).2.1 h
      · exact (hO l e).2.2 h
    · intro l e
      rcases hr' with h | ⟨l', h, h'⟩
      · exact hrn l (h ▸ e)
      · rw [h] at e; cases e; have := hk.1; omega
    · intro l e
      refine ⟨(hO l e).1, (hO l e).2.1, fun h => ?_⟩
      rcases hr' with h2 | ⟨l', h2, h3⟩
      · exact (hO l e).2.2 (h2 ▸ h)
      · rw [h2] at h; cases h; have := hlow l e; omega
  · have hfew := hq.few
    have hlo := hq.lo
    simp at hfew
    cases xs with
    | nil => simp at hm; omega
    | cons y t =>
      refine (push_full (y := i64 y) (xs := t.map i64) (by simpa using hq) (by simp at hm hfew ⊢; omega) (x := i64 x) rfl).mono ?_
      rintro v H' ⟨rfl, f', hq', hk'⟩
      refine .inr ⟨y, t, rfl, rfl, ⟨r, _, f', N, O, by simpa using hq', hr.keep hk' ?_, hrn, hO⟩, hq0, hk.trans (hk'.high hq0 hrn)⟩
      intro l e hf
      rcases hf with h | h
      · exact (hO l e).2.1 h
      · exact (hO l e).2.2 h
theorem Sorted.pop {n0 : Nat} {H0 H : AH} {q : Nat} {m : Int} {gv : Value} {g xs : List Int} (h : Sorted n0 H0 H q m gv g xs) :
    CallR cx 13 #[ptr q] H (fun v H' => (xs = [] ∧ v = .tuple #[i64 0, .bool false] ∧ Sorted n0 H0 H' q m gv g []) ∨ (∃ y t, xs = y :: t ∧ v = .tuple #[i64 y, .bool true] ∧ Sorted n0 H0 H' q m gv g t)) := by
  obtain ⟨⟨r, total, f, N, O, hq, hr, hrn, hO⟩, hq0, hk⟩ := h
  cases xs with
  | nil =>
    refine (pop_empty (by simpa using hq)).mono ?_
    rintro v H' ⟨rfl, rfl⟩
    exact .inl ⟨rfl, rfl, ⟨r, total, f, N, O, hq, hr, hrn, hO⟩, hq0, hk⟩
  | cons y t =>
    refine (pop_run (x := i64 y) (xs := t.map i64) (by simpa using hq)).mono ?_
    rintro v H' ⟨rfl, hq', hk', _⟩
    refine .inr ⟨y, t, rfl, rfl, ⟨r, _, _, N, O, hq', hr.keep hk' ?_, hrn, hO⟩, hq0, hk.trans (hk'.high hq0 hrn)⟩
    intro l e hf
    rcases hf with h | h
    · exact (hO l e).2.1 h
    · exact (hO l e).2.2 h
/-- one more that went -/
theorem Sorted.gone {n0 : Nat} {H0 H : AH} {q : Nat} {m : Int} {gv : Value} {g xs : List Int} (h : Sorted n0 H0 H q m gv g xs) (hn : n0 ≤ H0.next) (hl : g.length < 1000000000) (x : Int) :
    ∃ gv' H', aAppend Try.prog 32 32 gv (.slice (some ⟨H.next, 0, none⟩) 1 1) ⟨H.next + 1, upd H.get H.next (.cells [i64 x] 2 true 1)⟩ = some (gv', H') ∧ Sorted n0 H0 H' q m gv' (g ++ [x]) xs := by
  obtain ⟨⟨r, total, f, N, O, hq, hr, hrn, hO⟩, hq0, hk⟩ := h
  obtain ⟨H2, hap, hnx, hget, hrow, hkp⟩ := row_append el32 hr (by simp; omega) (v := i64 x) rfl
  have hlow : ∀ l, O = some l → l < H.next := fun l e => by subst e; exact hr.low
  have hkeep : Keep (fun l => O = some l) H H2 := ⟨by omega, fun l hl hn => hkp l hl hn⟩
  have hqr : ∀ l, Foot q r l → l < H.next := fun l hf => by
    rcases hf with rfl | h
    · exact hq.qlt
    · subst h; exact hq.ring.1
  refine ⟨_, H2, by simpa using hap, ⟨r, total, f, N, _, hq.keep hkeep ?_, by simpa using hrow, hrn, ?_⟩, hq0, hk.trans (hkeep.mono fun l _ h => (hO l h).1)⟩
  · intro l hf h
    rcases hf with rfl | h'
    · exact (hO l h).2.1 rfl
    · exact (hO l h).2.2 h'
  · intro l e
    cases e
    have := hk.1
    have := hq.qlt
    refine ⟨by omega, by omega, fun e => ?_⟩
    have := hqr _ (.inr e)
    omega

theorem u8_wf {n : Int} (h : (Lit.int .u8 n).wf = true) : 0 ≤ n ∧ n ≤ 255 := by
  simp [Lit.wf, IntKind.min, IntKind.max, IntKind.signed, IntKind.bits] at h
  omega
theorem wrap_small' {n : Int} (h : -9000000000000000000 ≤ n ∧ n ≤ 9000000000000000000) : IntKind.i64.wrap n = n := wrap_small h
theorem queueOrder_run {H0 : AH} {sv : Value} {zs : List Int} {O : Option Nat} {len : Nat} {a0 a2 : Int} (hrow : Row 2 false H0 sv (zs.map i64) O) (hlen : zs.length = len) (hwf : ∀ n ∈ zs, (Lit.int .i64 n).wf = true) (y : len * 8 ≤ 140737488351232)
    (w0 : (Lit.int .u8 a0).wf = true) (w2 : (Lit.int .u8 a2).wf = true) : CallR cx 5 #[.int .u8 a0, sv, .int .u8 a2] H0 (fun v _ => v = .bool true) := by
  have b0 := u8_wf w0
  have b2 := u8_wf w2
  have hw0 : IntKind.i64.wrap a0 = a0 := wrap_small (by omega)
  have hw1 : IntKind.i64.wrap (1 + a0) = 1 + a0 := wrap_small (by omega)
  have hw2 : IntKind.i64.wrap a2 = a2 := wrap_small (by omega)
  obtain ⟨ra, rfl, hra⟩ := hrow.isSlice
  simp only [List.length_map] at hrow
  refine wk5 (by simp) ?_
  simp [c5, hw0, hw1]
  refine callV_R cb12 (new_run (by omega)) ?_
  rintro _ _ ⟨rfl, rfl⟩
  have hq0 := isq_new (H := H0) (n := 1 + a0) (by omega)
  have hf0 : Fresh H0 (H0.new (.cells [i64 (1 + a0), .slice none 0 0, i64 0, i64 0, .int .u64 0] 58 true 0)) := Fresh.ofNew
  have hn0 : H0.next < (H0.new (.cells [i64 (1 + a0), .slice none 0 0, i64 0, i64 0, .int .u64 0] 58 true 0)).next := Nat.lt_succ_self _
  generalize H0.new (.cells [i64 (1 + a0), .slice none 0 0, i64 0, i64 0, .int .u64 0] 58 true 0) = H1 at *
  by_cases h200 : 200 < (zs.length : Int)
  · simp [h200]
    refine callV_R cb9 alive_run ?_
    rintro _ _ ⟨rfl, _⟩
    simp
  have hS0 : Sorted H0.next H0 H1 H0.next (1 + a0) (.slice none 0 0) [] [] := ⟨⟨none, 0, 0, 0, none, hq0, Row.nil, fun l e => by (cases e), fun l e => by (cases e)⟩, Nat.le_refl _, hf0.keep⟩
  simp [h200]
  refine aw_loop_to zs.length (fun k s => s.env 7 = ptr H0.next ∧ s.env 1 = .slice ra zs.length zs.length ∧ s.env 36 = .slice ra zs.length zs.length ∧ s.env 37 = i64 zs.length ∧ s.env 38 = i64 k ∧ s.env 2 = .int .u8 a2 ∧ s.ds = [] ∧
    ∃ gv g xs, s.env 9 = gv ∧ g ++ xs = zs.take k ∧ Sorted H0.next H0 s.H H0.next (1 + a0) gv g xs) ?_ ?_ ?_
  · rintro k ⟨env, H2, ds⟩ hk ⟨e7, e1, e36, e37, e38, e2, eds, gv, g, xs, e9, hgx, hS⟩
    simp only at e7 e1 e36 e37 e38 e2 eds e9 hS
    have hkN : (k : Int) < zs.length := by omega
    have h0k : (0 : Int) ≤ k := by omega
    have hw : IntKind.i64.wrap ((k : Int) + 1) = (k : Int) + 1 := wrap_small (by omega)
    cases O with
    | none => have := hrow.2; simp at this; subst this; simp at hk
    | some ol =>
    obtain ⟨o, cs, hsl, hcs, htk, hle, hlo⟩ := hrow
    obtain rfl : ra = some ⟨ol, o, none⟩ := by simpa using hsl
    have hcs2 : H2.get ol = some (.cells cs 2 false 1) := by rw [hS.keep.get hlo (by omega), hcs]
    have hcx : cs[o + k]? = some (i64 zs[k]) := by rw [row_at htk (by simpa using hk)]; simp
    have htk1 : zs.take (k + 1) = g ++ xs ++ [zs[k]] := by rw [List.take_add_one, hgx, List.getElem?_eq_getElem hk]; rfl
    have hgl : g.length < 1000000000 := by have := congrArg List.length hgx; simp at this; omega
    simp [e7, e36, e37, e38, hkN, ix32 _ _ _ _ _ _ h0k hkN, hcs2, hcx]
    refine callV_R cb14 (hS.push (Nat.le_refl _) zs[k]) ?_
    rintro _ H3 (⟨rfl, hS3⟩ | ⟨yy, t, hxs, rfl, hS3⟩)
    · simp [e7, e1, e36, e37, e38, e2, e9, hw, eds]
      exact ⟨g, xs ++ [zs[k]], by rw [htk1]; simp, hS3⟩
    · obtain ⟨gv', H4, hap, hS4⟩ := hS3.gone (Nat.le_refl _) hgl yy
      simp [e7, e1, e36, e37, e38, e2, e9, hw, eds, hap]
      exact ⟨g ++ [yy], t ++ [zs[k]], by rw [htk1, hxs]; simp, hS4⟩
  · rintro ⟨env, H2, ds⟩ ⟨e7, e1, e36, e37, e38, e2, eds, gv, g, xs, e9, hgx, hS⟩
    simp only at e7 e1 e36 e37 e38 e2 eds e9 hS
    simp [e37, e38]
    rw [List.take_length] at hgx
    refine aw_loop_to a2.toNat (fun k s => s.env 7 = ptr H0.next ∧ s.env 1 = .slice ra zs.length zs.length ∧ s.env 14 = i64 k ∧ s.env 2 = .int .u8 a2 ∧ s.ds = [] ∧
      ∃ gv g xs, s.env 9 = gv ∧ g ++ xs = zs ∧ Sorted H0.next H0 s.H H0.next (1 + a0) gv g xs) ?_ ?_ ?_
    · rintro k ⟨env, H2, ds⟩ hk ⟨e7, e1, e14, e2, eds, gv, g, xs, e9, hgx, hS⟩
      simp only at e7 e1 e14 e2 eds e9 hS
      have hkN : (k : Int) < a2 := by omega
      have hw : IntKind.i64.wrap ((k : Int) + 1) = (k : Int) + 1 := wrap_small (by omega)
      have hgl : g.length < 1000000000 := by have := congrArg List.length hgx; simp at this; omega
      simp [e7, e14, e2, hw2, hkN]
      refine callV_R cb13 hS.pop ?_
      rintro _ H3 (⟨rfl, rfl, hS3⟩ | ⟨yy, t, rfl, rfl, hS3⟩)
      · simp [e7, e1, e14, e2, e9, hw, eds]
        exact ⟨g, [], hgx, hS3⟩
      · obtain ⟨gv', H4, hap, hS4⟩ := hS3.gone (Nat.le_refl _) hgl yy
        simp [e7, e1, e14, e2, e9, hw, eds, hap]
        exact ⟨g ++ [yy], t, by rw [← hgx]; simp, hS4⟩
    · rintro ⟨env, H2, ds⟩ ⟨e7, e1, e14, e2, eds, gv, g, xs, e9, hgx, hS⟩
      simp only at e7 e1 e14 e2 eds e9 hS
      have hkN : (a2.toNat : Int) = a2 := by omega
      obtain ⟨⟨r, total, f, N, O', hq, hr, hrn, hO⟩, hq0', hk⟩ := hS
      have hlx : (xs.map i64).take 1000 = xs.map i64 := List.take_of_length_le (by have := congrArg List.length hgx; simp at this ⊢; omega)
      simp [e7, e14, e2, hw2, hkN]
      refine callV_R cb16 (told_run (most := 1000) (.inr ⟨_, r, _, _, f, N, rfl, hq⟩)) ?_
      rintro _ H3 ⟨tv, O3, rfl, hrow3, hO3, hf3⟩
      rw [hlx] at hrow3
      have hr3 := hr.keep hf3 (fun _ _ => id)
      obtain ⟨sr, H4, O4, hap, hrow4, hO4, hkp4⟩ := row_append_row el32 hr3 hrow3 (by have := congrArg List.length hgx; simp at this ⊢; omega) (by simp)
      have hzs : g.map i64 ++ xs.map i64 = zs.map i64 := by rw [← hgx, List.map_append]
      rw [hzs] at hrow4
      have hrow' : Row 2 false H4 (.slice ra zs.length zs.length) (zs.map i64) O := by
        have h3 : Keep (fun l => H0.next ≤ l) H0 H3 := hk.trans hf3.keep
        refine hrow.same (fun l hl => ?_) ?_
        · subst hl
          have hlow := hrow.low
          rw [hkp4 l (by have := h3.1; omega) (fun e => by have := (hO l e).1; omega), h3.get hlow (by omega)]
        · rcases hO4 with ⟨_, rfl⟩ | ⟨_, h⟩
          · exact h3.1
          · have := h3.1; omega
      simp [e1, e9, hap]
      refine callV_R cb17 (same_run hrow4 hrow' (by omega)) ?_
      rintro _ _ ⟨rfl, rfl⟩
      simp
      refine callV_R cb9 alive_run ?_
      rintro _ _ ⟨rfl, _⟩
      simp [eds]
    · simp [e7, e1, e2, eds]
      exact ⟨g, xs, hgx, by rw [e9]; exact hS⟩
  · simp
    exact ⟨[], [], ⟨rfl, rfl⟩, hS0⟩
end Go.Proofs.Ytfbepkamckpofaa.C

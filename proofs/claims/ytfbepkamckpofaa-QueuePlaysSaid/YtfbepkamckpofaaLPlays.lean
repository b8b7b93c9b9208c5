/- The queue's laws over the small heap: QueuePlays. Own text of this session. -/
import Derived.Test.YtfbepkamckpofaaQ4
import Derived.Test.YtfbepkamckpofaaA15
set_option linter.unusedVariables false
set_option linter.unusedSimpArgs false
set_option maxRecDepth 4000
set_option maxHeartbeats 4000000
namespace Go.Proofs.Ytfbepkamckpofaa.C
open Go Go.RowKit Go.Proofs.YtfbepkamckpofaaA

/-- what went (in a row of the law's own) and what is there still; nothing below n0 is turned -/
structure Play (n0 : Nat) (H0 H : AH) (q : Nat) (m : Int) (gv : Value) (g xs : List Int) (total : Int) : Prop where
  ex : ∃ r f N O, IsQ H q r m (xs.map i64) total f N ∧ Row 2 true H gv (g.map i64) O ∧ (∀ l, r = some l → n0 ≤ l) ∧ (∀ l, O = some l → n0 ≤ l ∧ l ≠ q ∧ r ≠ some l)
  q0 : n0 ≤ q
  keep : Keep (fun l => n0 ≤ l) H0 H
theorem Play.push {n0 : Nat} {H0 H : AH} {q : Nat} {m : Int} {gv : Value} {g xs : List Int} {total : Int} (h : Play n0 H0 H q m gv g xs total) (hn : n0 ≤ H0.next) (x : Int) :
    CallR cx 14 #[ptr q, i64 x] H (fun v H' => (v = .tuple #[i64 0, .bool false] ∧ (xs.length : Int) < m ∧ Play n0 H0 H' q m gv g (xs ++ [x]) (IntKind.u64.wrap (total + 1))) ∨ (∃ y t, xs = y :: t ∧ v = .tuple #[i64 y, .bool true] ∧ (t.length : Int) + 1 = m ∧ Play n0 H0 H' q m gv g (t ++ [x]) (IntKind.u64.wrap (total + 1)))) := by
  obtain ⟨⟨r, f, N, O, hq, hr, hrn, hO⟩, hq0, hk⟩ := h
  have hlow : ∀ l, O = some l → l < H.next := fun l e => by subst e; exact hr.low
  by_cases hm : (xs.length : Int) < m
  · refine (push_room hq (by simpa using hm) (x := i64 x) rfl).mono ?_
    rintro v H' ⟨rfl, r', f', N', hq', hk', hr'⟩
    refine .inl ⟨rfl, hm, ⟨r', f', N', O, by simpa using hq', hr.keep hk' ?_, ?_, ?_⟩, hq0, hk.trans (hk'.high hq0 hrn)⟩
    · intro l e hf
      rcases hf with h | h
      · exact (hO l e).2.1 h
      · exact (hO l e).2.2 h
    · intro l e
      rcases hr' with h | ⟨l', h, h'⟩
      · exact hrn l (h ▸ e)
      · rw [h] at e; cases e; have := hk.1; omega
    · intro l e
      refine ⟨(hO l e).1, (hO l e).2.1, fun h => ?_⟩
      rcases hr' with h2 | ⟨l', h2, h3⟩
      · exact (hO l e).2.2 (h2 ▸ h)
      · rw [h2] at h; cases h; have := hlow l e; omega
  · have hfew := hq.few
    have hlo := hq.lo
    simp at hfew
    cases xs with
    | nil => simp at hm; omega
    | cons y t =>
      refine (push_full (y := i64 y) (xs := t.map i64) (by simpa using hq) (by simp at hm hfew ⊢; omega) (x := i64 x) rfl).mono ?_
      rintro v H' ⟨rfl, f', hq', hk'⟩
      refine .inr ⟨y, t, rfl, rfl, by simp at hm hfew; omega, ⟨r, f', N, O, by simpa using hq', hr.keep hk' ?_, hrn, hO⟩, hq0, hk.trans (hk'.high hq0 hrn)⟩
      intro l e hf
      rcases hf with h | h
      · exact (hO l e).2.1 h
      · exact (hO l e).2.2 h
theorem Play.pop {n0 : Nat} {H0 H : AH} {q : Nat} {m : Int} {gv : Value} {g xs : List Int} {total : Int} (h : Play n0 H0 H q m gv g xs total) :
    CallR cx 13 #[ptr q] H (fun v H' => (xs = [] ∧ v = .tuple #[i64 0, .bool false] ∧ Play n0 H0 H' q m gv g [] total) ∨ (∃ y t, xs = y :: t ∧ v = .tuple #[i64 y, .bool true] ∧ Play n0 H0 H' q m gv g t total)) := by
  obtain ⟨⟨r, f, N, O, hq, hr, hrn, hO⟩, hq0, hk⟩ := h
  cases xs with
  | nil =>
    refine (pop_empty (by simpa using hq)).mono ?_
    rintro v H' ⟨rfl, rfl⟩
    exact .inl ⟨rfl, rfl, ⟨r, f, N, O, hq, hr, hrn, hO⟩, hq0, hk⟩
  | cons y t =>
    refine (pop_run (x := i64 y) (xs := t.map i64) (by simpa using hq)).mono ?_
    rintro v H' ⟨rfl, hq', hk', _⟩
    refine .inr ⟨y, t, rfl, rfl, ⟨r, _, N, O, hq', hr.keep hk' ?_, hrn, hO⟩, hq0, hk.trans (hk'.high hq0 hrn)⟩
    intro l e hf
    rcases hf with h | h
    · exact (hO l e).2.1 h
    · exact (hO l e).2.2 h
/-- one more that went -/
theorem Play.gone {n0 : Nat} {H0 H : AH} {q : Nat} {m : Int} {gv : Value} {g xs : List Int} {total : Int} (h : Play n0 H0 H q m gv g xs total) (hn : n0 ≤ H0.next) (hl : g.length < 1000000000) (x : Int) :
    ∃ gv' H', aAppend Try.prog 32 32 gv (.slice (some ⟨H.next, 0, none⟩) 1 1) ⟨H.next + 1, upd H.get H.next (.cells [i64 x] 2 true 1)⟩ = some (gv', H') ∧ Play n0 H0 H' q m gv' (g ++ [x]) xs total := by
  obtain ⟨⟨r, f, N, O, hq, hr, hrn, hO⟩, hq0, hk⟩ := h
  obtain ⟨H2, hap, hnx, hget, hrow, hkp⟩ := row_append el32 hr (by simp; omega) (v := i64 x) rfl
  have hlow : ∀ l, O = some l → l < H.next := fun l e => by subst e; exact hr.low
  have hkeep : Keep (fun l => O = some l) H H2 := ⟨by omega, fun l hl hn => hkp l hl hn⟩
  have hqr : ∀ l, Foot q r l → l < H.next := fun l hf => by
    rcases hf with rfl | h
    · exact hq.qlt
    · subst h; exact hq.ring.1
  refine ⟨_, H2, by simpa using hap, ⟨r, f, N, _, hq.keep hkeep ?_, by simpa using hrow, hrn, ?_⟩, hq0, hk.trans (hkeep.mono fun l _ h => (hO l h).1)⟩
  · intro l hf h
    rcases hf with rfl | h'
    · exact (hO l h).2.1 rfl
    · exact (hO l h).2.2 h'
  · intro l e
    cases e
    have := hk.1
    have := hq.qlt
    refine ⟨by omega, by omega, fun e => ?_⟩
    have := hqr _ (.inr e)
    omega


theorem Play.part {n0 : Nat} {H0 H : AH} {q : Nat} {m : Int} {gv : Value} {y : Int} {g xs : List Int} {total : Int} (h : Play n0 H0 H q m gv (y :: g) xs total) :
    ∃ gv', aSlice Try.prog 32 gv (some (i64 1)) none H = some gv' ∧ Play n0 H0 H q m gv' g xs total := by
  obtain ⟨⟨r, f, N, O, hq, hr, hrn, hO⟩, hq0, hk⟩ := h
  obtain ⟨sv', h1, h2⟩ := row_part el32 hr (lo := some (i64 1)) (hi := none) (a := 1) (b := g.length + 1) (by simp [bnd]) (by simp [bnd]; omega) (by omega) (by simp)
  refine ⟨sv', h1, ⟨r, f, N, O, hq, ?_, hrn, hO⟩, hq0, hk⟩
  have : ((y :: g).map i64).take (g.length + 1) = (y :: g).map i64 := List.take_of_length_le (by simp)
  rw [this] at h2
  simpa using h2
/-- behind the act: what came of it -/
def Mid (n0 : Nat) (H0 H : AH) (q : Nat) (m : Int) (k : Nat) (neg : Prop) (v9 v10 v13 v14 : Value) : Prop :=
  ∃ g xs total v ok, g.length ≤ k + 1 ∧ v10 = .int .u64 total ∧ v13 = i64 v ∧ v14 = .bool ok ∧ Play n0 H0 H q m v9 g xs total ∧
    ((ok = true ∧ g = v :: xs ∧ (neg ∨ m < g.length)) ∨ (ok = false ∧ v = 0 ∧ xs = g ∧ (neg → g = []) ∧ (g.length : Int) ≤ m))
/-- the queue, and the row that is to be like it -/
def End (n0 : Nat) (H0 H : AH) (q : Nat) (m : Int) (k : Nat) (v9 v10 : Value) : Prop :=
  ∃ g total, g.length ≤ k ∧ v10 = .int .u64 total ∧ Play n0 H0 H q m v9 g g total
theorem queuePlays_run {H0 : AH} {sv : Value} {zs : List Int} {O : Option Nat} {len : Nat} {a0 a2 : Int} (hrow : Row 2 false H0 sv (zs.map i64) O) (hlen : zs.length = len) (hwf : ∀ n ∈ zs, (Lit.int .i64 n).wf = true) (y : len * 8 ≤ 140737488351232)
    (w0 : (Lit.int .i64 a0).wf = true) (w2 : (Lit.int .i64 a2).wf = true) : CallR cx 4 #[i64 a0, sv, i64 a2] H0 (fun v _ => v = .bool true) := by
  obtain ⟨ra, rfl, hra⟩ := hrow.isSlice
  simp only [List.length_map] at hrow
  refine wk4 (by simp) ?_
  by_cases hb : 1 ≤ a0 ∧ a0 ≤ 65536
  · simp [c4]
    refine callV_R cb12 (new_run hb) ?_
    rintro _ _ ⟨rfl, rfl⟩
    have h1 : ¬ a0 < 1 := by omega
    have h2 : ¬ 65536 < a0 := by omega
    have hq0 := isq_new (H := H0) (n := a0) hb
    have hf0 : Fresh H0 (H0.new (.cells [i64 a0, .slice none 0 0, i64 0, i64 0, .int .u64 0] 58 true 0)) := Fresh.ofNew
    have hn0 : H0.next < (H0.new (.cells [i64 a0, .slice none 0 0, i64 0, i64 0, .int .u64 0] 58 true 0)).next := Nat.lt_succ_self _
    generalize H0.new (.cells [i64 a0, .slice none 0 0, i64 0, i64 0, .int .u64 0] 58 true 0) = H1 at *
    simp [h1, h2]
    by_cases h200 : 200 < (zs.length : Int)
    · simp [h200]
      refine callV_R cb9 alive_run ?_
      rintro _ _ ⟨rfl, _⟩
      simp
    simp [h200]
    have hS0 : Play H0.next H0 H1 H0.next a0 (.slice none 0 0) [] [] 0 := ⟨⟨none, 0, 0, none, hq0, Row.nil, fun l e => by (cases e), fun l e => by (cases e)⟩, Nat.le_refl _, hf0.keep⟩
    refine aw_loop_to zs.length (fun k s => s.env 0 = i64 a0 ∧ s.env 2 = i64 a2 ∧ s.env 7 = ptr H0.next ∧ s.env 51 = .slice ra zs.length zs.length ∧ s.env 52 = i64 zs.length ∧ s.env 53 = i64 k ∧ s.ds = [] ∧
      End H0.next H0 s.H H0.next a0 k (s.env 9) (s.env 10)) ?_ ?_ ?_
    · rintro k ⟨env, H2, ds⟩ hk ⟨e0, e2, e7, e51, e52, e53, eds, g, total, hgk, e10, hS⟩
      simp only at e0 e2 e7 e51 e52 e53 eds e10 hS
      generalize e9 : env 9 = gv at hS
      have hkN : (k : Int) < zs.length := by omega
      have h0k : (0 : Int) ≤ k := by omega
      have hw : IntKind.i64.wrap ((k : Int) + 1) = (k : Int) + 1 := wrap_small (by omega)
      cases O with
      | none => have := hrow.2; simp at this; subst this; simp at hk
      | some ol =>
      obtain ⟨o, cs, hsl, hcs, htk, hle, hlo⟩ := hrow
      obtain rfl : ra = some ⟨ol, o, none⟩ := by simpa using hsl
      have hcs2 : H2.get ol = some (.cells cs 2 false 1) := by rw [hS.keep.get hlo (by omega), hcs]
      have hcx : cs[o + k]? = some (i64 zs[k]) := by rw [row_at htk (by simpa using hk)]; simp
      have hgl : g.length < 1000000000 := by omega
      simp [e0, e2, e7, e9, e10, e51, e52, e53, hkN, ix32 _ _ _ _ _ _ h0k hkN, hcs2, hcx]
      refine onBool_join (fun s => s.env 0 = i64 a0 ∧ s.env 2 = i64 a2 ∧ s.env 7 = ptr H0.next ∧ s.env 51 = .slice (some ⟨ol, o, none⟩) zs.length zs.length ∧ s.env 52 = i64 zs.length ∧ s.env 53 = i64 k ∧ s.ds = [] ∧ s.env 12 = i64 zs[k] ∧
        Mid H0.next H0 s.H H0.next a0 k (zs[k] < 0) (s.env 9) (s.env 10) (s.env 13) (s.env 14)) ?_ ?_
      · by_cases hneg : zs[k] < 0
        · simp [hneg, e7]
          refine callV_R cb13 hS.pop ?_
          rintro _ H3 (⟨rfl, rfl, hS3⟩ | ⟨yy, t, rfl, rfl, hS3⟩)
          · simp [e0, e2, e7, e9, e10, e51, e52, e53, eds]
            exact ⟨[], [], total, 0, false, by simp, rfl, rfl, rfl, hS3, .inr ⟨rfl, rfl, rfl, fun _ => rfl, by simp; omega⟩⟩
          · simp [e0, e2, e7, e9, e10, e51, e52, e53, eds]
            exact ⟨yy :: t, t, total, yy, true, by omega, rfl, rfl, rfl, hS3, .inl ⟨rfl, rfl, .inl hneg⟩⟩
        · simp [hneg, e7]
          refine callV_R cb14 (hS.push (Nat.le_refl _) zs[k]) ?_
          rintro _ H3 (⟨rfl, hlt, hS3⟩ | ⟨yy, t, rfl, rfl, hlt, hS3⟩)
          · obtain ⟨gv', H4, hap, hS4⟩ := hS3.gone (Nat.le_refl _) hgl zs[k]
            simp [e0, e2, e7, e9, e10, e51, e52, e53, eds, hap]
            exact ⟨g ++ [zs[k]], g ++ [zs[k]], _, 0, false, by simp; omega, rfl, rfl, rfl, hS4, .inr ⟨rfl, rfl, rfl, fun h => absurd h hneg, by simp; omega⟩⟩
          · obtain ⟨gv', H4, hap, hS4⟩ := hS3.gone (Nat.le_refl _) hgl zs[k]
            simp [e0, e2, e7, e9, e10, e51, e52, e53, eds, hap]
            exact ⟨yy :: t ++ [zs[k]], t ++ [zs[k]], _, yy, true, by simp at hgk ⊢; omega, rfl, rfl, rfl, hS4, .inl ⟨rfl, rfl, .inr (by simp; omega)⟩⟩
      · rintro ⟨env, H3, ds⟩ ⟨e0, e2, e7, e51, e52, e53, eds, e12, g, xs, total, v, ok, hgk, e10, e13, e14, hS, hcase⟩
        simp only at e0 e2 e7 e51 e52 e53 eds e12 e10 e13 e14 hS
        generalize e9 : env 9 = gv at hS
        have hrow9 : ∃ a, gv = .slice a g.length g.length := by
          obtain ⟨⟨r, f, N, O, hq, hr, hrn, hO⟩, hq0, hk⟩ := hS
          obtain ⟨a, h, _⟩ := hr.isSlice
          exact ⟨a, by simpa using h⟩
        obtain ⟨ga, rfl⟩ := hrow9
        have hgoes : ∀ b, (if zs[k] < 0 then decide (0 < (g.length : Int)) else false) = b → True := fun _ _ => trivial
        refine aw_cut (fun s => s.env 0 = i64 a0 ∧ s.env 2 = i64 a2 ∧ s.env 7 = ptr H0.next ∧ s.env 51 = .slice (some ⟨ol, o, none⟩) zs.length zs.length ∧ s.env 52 = i64 zs.length ∧ s.env 53 = i64 k ∧ s.ds = [] ∧
          s.H = H3 ∧ s.env 9 = .slice ga g.length g.length ∧ s.env 10 = .int .u64 total ∧ s.env 13 = i64 v ∧ s.env 14 = .bool ok ∧ s.env 15 = .bool ok) ?_ ?_
        · by_cases hneg : zs[k] < 0
          · rcases hcase with ⟨rfl, rfl, hc⟩ | ⟨rfl, rfl, rfl, hc, hm⟩
            · simp [e12, hneg, e9, e0, e2, e7, e10, e13, e14, e51, e52, e53, eds]
            · obtain rfl := hc hneg
              simp [e12, hneg, e9, e0, e2, e7, e10, e13, e14, e51, e52, e53, eds]
              omega
          · rcases hcase with ⟨rfl, rfl, hc⟩ | ⟨rfl, rfl, rfl, hc, hm⟩
            · have hlt : a0 < (xs.length : Int) + 1 := by rcases hc with h | h; exact absurd h hneg; simpa using h
              simp [e12, hneg, e9, e0, e2, e7, e10, e13, e14, e51, e52, e53, eds, hlt]
            · have hlt : ¬ a0 < (xs.length : Int) := by omega
              simp [e12, hneg, e9, e0, e2, e7, e10, e13, e14, e51, e52, e53, eds, hlt]
        · rintro ⟨env, H4, ds⟩ ⟨e0, e2, e7, e51, e52, e53, eds, eH, e9, e10, e13, e14, e15⟩
          simp only at e0 e2 e7 e51 e52 e53 eds e9 eH e10 e13 e14 e15
          subst eH
          refine aw_cut (fun s => s.env 0 = i64 a0 ∧ s.env 2 = i64 a2 ∧ s.env 7 = ptr H0.next ∧ s.env 51 = .slice (some ⟨ol, o, none⟩) zs.length zs.length ∧ s.env 52 = i64 zs.length ∧ s.env 53 = i64 k ∧ s.ds = [] ∧
            s.H = H4 ∧ s.env 9 = .slice ga g.length g.length ∧ s.env 10 = .int .u64 total ∧ s.env 15 = .bool ok) ?_ ?_
          · rcases hcase with ⟨rfl, rfl, hc⟩ | ⟨rfl, rfl, rfl, hc, hm⟩
            · obtain ⟨l, o', cs', rfl, hg, hc0, _⟩ : ∃ l o cs, ga = some ⟨l, o, none⟩ ∧ H4.get l = some (.cells cs 2 true 1) ∧ cs[o + 0]? = some (i64 v) ∧ True := by
                obtain ⟨⟨r, f, N, O, hq, hr, hrn, hO⟩, hq0, hk⟩ := hS
                obtain ⟨l, o, cs, h1, h2, h3, _⟩ := hr.cell (i := 0) (x := i64 v) (by simp)
                exact ⟨l, o, cs, h1, h2, h3, trivial⟩
              have hpos : ((0 : Int)) < ((xs.length + 1 : Nat) : Int) := by omega
              simp [e0, e2, e7, e9, e10, e13, e14, e15, e51, e52, e53, eds, bn4, ix32 _ _ _ _ _ _ (Int.le_refl 0) hpos, hg]
              simp at hc0
              simp [hc0, e0, e2, e7, e9, e10, e13, e14, e15, e51, e52, e53, eds]
            · simp [e0, e2, e7, e9, e10, e13, e14, e15, e51, e52, e53, eds, bn4]
          rintro ⟨env, H5, ds⟩ ⟨e0, e2, e7, e51, e52, e53, eds, eH, e9, e10, e15⟩
          simp only at e0 e2 e7 e51 e52 e53 eds e9 eH e10 e15
          subst eH
          refine aw_cut (fun s => s.env 0 = i64 a0 ∧ s.env 2 = i64 a2 ∧ s.env 7 = ptr H0.next ∧ s.env 51 = .slice (some ⟨ol, o, none⟩) zs.length zs.length ∧ s.env 52 = i64 zs.length ∧ s.env 53 = i64 k ∧ s.ds = [] ∧
            End H0.next H0 s.H H0.next a0 (k + 1) (s.env 9) (s.env 10)) ?_ ?_
          · rcases hcase with ⟨rfl, rfl, hc⟩ | ⟨rfl, rfl, rfl, hc, hm⟩
            · obtain ⟨gv', hsl', hS'⟩ := hS.part
              simp at hsl'
              simp [e0, e2, e7, e9, e10, e15, e51, e52, e53, eds, hsl']
              exact ⟨xs, total, by simp at hgk; omega, rfl, hS'⟩
            · simp [e0, e2, e7, e9, e10, e15, e51, e52, e53, eds]
              exact ⟨xs, total, hgk, rfl, hS⟩
          rintro ⟨env, H4, ds⟩ ⟨e0, e2, e7, e51, e52, e53, eds, g, total, hgk, e10, hS⟩
          simp only at e0 e2 e7 e51 e52 e53 eds e10 hS
          generalize e9 : env 9 = gv at hS
          obtain ⟨⟨r, f, N, O, hq, hr, hrn, hO⟩, hq0, hk⟩ := hS
          obtain ⟨ga, hga, _⟩ := hr.isSlice
          simp only [List.length_map] at hga
          subst hga
          have h4 : Keep (fun l => H0.next ≤ l) H0 H4 := hk
          refine aw_cut (fun s => s.env 0 = i64 a0 ∧ s.env 2 = i64 a2 ∧ s.env 7 = ptr H0.next ∧ s.env 51 = .slice (some ⟨ol, o, none⟩) zs.length zs.length ∧ s.env 52 = i64 zs.length ∧ s.env 53 = i64 k ∧ s.ds = [] ∧
            s.H = H4 ∧ s.env 9 = .slice ga g.length g.length ∧ s.env 10 = .int .u64 total ∧ ((0 ≤ a2 ∧ a2 < g.length ∧ ∃ x, g[a2.toNat]? = some x ∧ s.env 16 = i64 x ∧ s.env 17 = .bool true) ∨ (¬ (0 ≤ a2 ∧ a2 < g.length) ∧ s.env 16 = i64 0 ∧ s.env 17 = .bool false))) ?_ ?_
          · simp [e7, e2]
            by_cases hth : 0 ≤ a2 ∧ a2 < g.length
            · have hj : ((a2.toNat : Nat) : Int) = a2 := by omega
              have hlt : a2.toNat < g.length := by omega
              have hx : (g.map i64)[a2.toNat]? = some (i64 g[a2.toNat]) := by simp [hlt]
              have hget := get_run hq hx
              rw [hj] at hget
              refine callV_R cb15 hget ?_
              rintro _ _ ⟨rfl, rfl⟩
              simp [e0, e2, e7, e9, e10, e51, e52, e53, eds]
              exact ⟨hth.1, hth.2⟩
            · refine callV_R cb15 (get_out hq (by simpa using hth)) ?_
              rintro _ _ ⟨rfl, rfl⟩
              simp [e0, e2, e7, e9, e10, e51, e52, e53, eds]
              omega
          clear e0 e2 e7 e9 e10 e51 e52 e53 eds
          rintro ⟨env, H5, ds⟩ ⟨e0, e2, e7, e51, e52, e53, eds, eH, e9, e10, hat⟩
          simp only at e0 e2 e7 e51 e52 e53 eds eH e9 e10 hat
          subst eH
          refine aw_cut (fun s => s.env 0 = i64 a0 ∧ s.env 2 = i64 a2 ∧ s.env 7 = ptr H0.next ∧ s.env 51 = .slice (some ⟨ol, o, none⟩) zs.length zs.length ∧ s.env 52 = i64 zs.length ∧ s.env 53 = i64 k ∧ s.ds = [] ∧
            s.H = H5 ∧ s.env 9 = .slice ga g.length g.length ∧ s.env 10 = .int .u64 total ∧ ((0 ≤ a2 ∧ a2 < g.length ∧ ∃ x, g[a2.toNat]? = some x ∧ s.env 16 = i64 x ∧ s.env 17 = .bool true ∧ s.env 18 = .bool true) ∨ (s.env 16 = i64 0 ∧ s.env 17 = .bool false ∧ s.env 18 = .bool false))) ?_ ?_
          · rcases hat with ⟨ha, hb', x, hx, e16, e17⟩ | ⟨hn, e16, e17⟩
            · simp [e0, e2, e7, e9, e10, e16, e17, e51, e52, e53, eds, ha, hb']
              rw [List.getElem?_eq_getElem (by omega)] at hx
              exact (Option.some.inj hx).symm
            · by_cases ha : 0 ≤ a2
              · have : ¬ a2 < g.length := fun h => hn ⟨ha, h⟩
                simp [e0, e2, e7, e9, e10, e16, e17, e51, e52, e53, eds, ha, this]
              · simp [e0, e2, e7, e9, e10, e16, e17, e51, e52, e53, eds, ha]
          clear e0 e2 e7 e9 e10 e51 e52 e53 eds hat
          rintro ⟨env, H6, ds⟩ ⟨e0, e2, e7, e51, e52, e53, eds, eH, e9, e10, hat⟩
          simp only at e0 e2 e7 e51 e52 e53 eds eH e9 e10 hat
          subst eH
          simp [e7]
          have hlx : (g.map i64).take 1000 = g.map i64 := List.take_of_length_le (by simp; omega)
          refine callV_R cb16 (told_run (most := 1000) (.inr ⟨_, r, _, _, f, N, rfl, hq⟩)) ?_
          rintro _ H7 ⟨tv, O3, rfl, hrow3, hO3, hf3⟩
          rw [hlx] at hrow3
          have hr3 := hr.keep hf3 (fun _ _ => id)
          have hq3 := hq.keep hf3 (fun _ _ => id)
          have hS3 : End H0.next H0 H7 H0.next a0 (k + 1) (.slice ga g.length g.length) (.int .u64 total) := by
            refine ⟨g, total, hgk, rfl, ⟨r, f, N, O, hq3, hr3, hrn, hO⟩, hq0, hk.trans hf3.keep⟩
          rcases hat with ⟨ha, hb', x, hx, e16, e17, e18⟩ | ⟨e16, e17, e18⟩
          · obtain ⟨l, o', cs', hga, hg, hc0, _⟩ := hr3.cell (i := a2.toNat) (x := i64 x) (by simp [hx])
            have hb3 : a2 < ((g.length : Nat) : Int) := hb'
            subst hga
            simp [e0, e2, e7, e9, e10, e16, e17, e18, e51, e52, e53, eds, bn4, ix32 _ _ _ _ _ _ ha hb3, hg, hc0]
            refine callV_R cb17 (same_run hrow3 hr3 (by omega)) ?_
            rintro _ _ ⟨rfl, rfl⟩
            simp [e7, e9]
            refine callV_R cb18 (len_run hq3) ?_
            rintro _ _ ⟨rfl, rfl⟩
            simp [e7, e9]
            refine callV_R cb19 (total_run hq3) ?_
            rintro _ _ ⟨rfl, rfl⟩
            simp [e0, e2, e7, e9, e10, e51, e52, e53, eds, hw]
            exact hS3
          · simp [e0, e2, e7, e9, e10, e16, e17, e18, e51, e52, e53, eds, bn4]
            refine callV_R cb17 (same_run hrow3 hr3 (by omega)) ?_
            rintro _ _ ⟨rfl, rfl⟩
            simp [e7, e9]
            refine callV_R cb18 (len_run hq3) ?_
            rintro _ _ ⟨rfl, rfl⟩
            simp [e7, e9]
            refine callV_R cb19 (total_run hq3) ?_
            rintro _ _ ⟨rfl, rfl⟩
            simp [e0, e2, e7, e9, e10, e51, e52, e53, eds, hw]
            exact hS3
    · rintro ⟨env, H2, ds⟩ ⟨e0, e2, e7, e51, e52, e53, eds, hE⟩
      simp only at e0 e2 e7 e51 e52 e53 eds hE
      simp [e52, e53]
      refine callV_R cb9 alive_run ?_
      rintro _ _ ⟨rfl, _⟩
      simp [eds]
    · simp
      exact ⟨[], 0, by simp, rfl, hS0⟩
  · simp [c4]
    refine callV_R cb12 (new_bad hb) ?_
    rintro _ _ ⟨rfl, rfl⟩
    by_cases h1 : a0 < 1
    · simp [h1]
      refine callV_R cb9 alive_run ?_
      rintro _ _ ⟨rfl, _⟩
      simp
    · have h2 : 65536 < a0 := by omega
      simp [h1, h2]
      refine callV_R cb9 alive_run ?_
      rintro _ _ ⟨rfl, _⟩
      simp
end Go.Proofs.Ytfbepkamckpofaa.C

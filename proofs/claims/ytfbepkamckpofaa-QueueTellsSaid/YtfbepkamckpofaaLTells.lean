/- The queue's laws over the small heap: QueueTells. Own text of this session. -/
import Derived.Test.YtfbepkamckpofaaLOrder
set_option linter.unusedVariables false
set_option linter.unusedSimpArgs false
set_option maxRecDepth 4000
set_option maxHeartbeats 4000000
namespace Go.Proofs.Ytfbepkamckpofaa.C
open Go Go.RowKit Go.Proofs.YtfbepkamckpofaaA

/-- what the law's loop keeps: the row of what was seen, and the queue, of which as many are gone -/
def TellsI (n0 b5 b12 L m : Nat) (zs : List Int) (env1 : Env) (k : Nat) (H : AH) (Ok : Nat → Prop) : Prop :=
  ∃ sv O q r total f N, (∀ x, Ok x ↔ (x = b5 ∨ x = b12 ∨ x = L ∨ O = some x ∨ Foot q r x)) ∧ k ≤ zs.length ∧ H.get b5 = some (.cells [ptr q] 33 true 0) ∧ H.get b12 = some (.cells [sv] 32 true 0) ∧
    H.get L = some (.loop env1 86 #[67, 68] c6_0as c6_0bd .ready none m) ∧ Row 2 true H sv ((zs.take k).map i64) O ∧ IsQ H q r 200 ((zs.drop k).map i64) total f N ∧
    (∀ o, O = some o → n0 ≤ o ∧ o ≠ q ∧ r ≠ some o ∧ o ≠ b5 ∧ o ≠ b12 ∧ o ≠ L) ∧ n0 ≤ q ∧ (∀ o, r = some o → n0 ≤ o) ∧ (q ≠ b5 ∧ q ≠ b12 ∧ q ≠ L) ∧ (∀ o, r = some o → o ≠ b5 ∧ o ≠ b12 ∧ o ≠ L) ∧ (b5 < H.next ∧ b12 < H.next ∧ L < H.next) ∧ b5 ≠ b12 ∧ b5 ≠ L ∧ b12 ≠ L
theorem TellsI.stable {n0 b5 b12 L m : Nat} {zs : List Int} {env1 : Env} {k : Nat} {H H' : AH} {Ok : Nat → Prop} (h : TellsI n0 b5 b12 L m zs env1 k H Ok) (hk : ∀ l, Ok l → H'.get l = H.get l) (hn : H.next ≤ H'.next) : TellsI n0 b5 b12 L m zs env1 k H' Ok := by
  obtain ⟨sv, O, q, r, total, f, N, h1, h2, h3, h4, h5, h6, h7, h8, h9, h10, h11, h12, h13, h14⟩ := h
  have hkp : Keep (fun l => ¬ Ok l) H H' := ⟨hn, fun l _ hl => hk l (Classical.not_not.1 hl)⟩
  refine ⟨sv, O, q, r, total, f, N, h1, h2, ?_, ?_, ?_, h6.same (fun l hl => hk l ((h1 l).2 (by simp [hl]))) hn, h7.keep hkp (fun l hf hn => hn ((h1 l).2 (by simp [hf]))), h8, h9, h10, h11, h12, by omega, h14⟩
  · rw [hk _ ((h1 _).2 (by simp)), h3]
  · rw [hk _ ((h1 _).2 (by simp)), h4]
  · rw [hk _ ((h1 _).2 (by simp)), h5]
theorem TellsI.low {n0 b5 b12 L m : Nat} {zs : List Int} {env1 : Env} {k : Nat} {H : AH} {Ok : Nat → Prop} (h : TellsI n0 b5 b12 L m zs env1 k H Ok) : ∀ l, Ok l → l < H.next := by
  obtain ⟨sv, O, q, r, total, f, N, h1, h2, h3, h4, h5, h6, h7, h8, h9, h10, h11, h12, h13, h14⟩ := h
  intro l hl
  rcases (h1 l).1 hl with h | h | h | h | h
  · omega
  · omega
  · omega
  · subst h; exact h6.low
  · rcases h with rfl | h
    · exact h7.qlt
    · subst h; exact h7.ring.1
theorem tells_client {n0 b5 b12 L m : Nat} {zs : List Int} {env1 : Env} (e5 : env1 5 = ptr b5) (e12 : env1 12 = ptr b12) (hsm : zs.length ≤ 200) :
    Client cx (.func (.yield L) #[] #[]) (fun k => #[i64 k, ((zs.map i64)[k]?).getD default]) zs.length (fun k => TellsI n0 b5 b12 L m zs env1 k) (fun _ _ => False) := by
  refine ⟨fun h => h.stable, fun h => h.elim, fun h => h.low, fun h => h.elim, ?_⟩
  rintro k H Ok hk hI
  obtain ⟨sv, O, q, r, total, f, N, h1, h2, h3, h4, h5, h6, h7, h8, h9, h10, h11, h12, h13, h14⟩ := hI
  have hx : (zs.map i64)[k]? = some (i64 zs[k]) := by simp [List.getElem?_eq_getElem hk]
  have hdr : zs.drop k = zs[k] :: zs.drop (k + 1) := List.drop_eq_getElem_cons hk
  refine yield_go h5 rfl c6_0as_c_code c6_0bd_c_code c6_0as_c_ok c6_0bd_c_ok ?_
  simp [c6_0as_c, bindAll, h5, hx]
  generalize hHb : upd H.get L (.loop env1 86 #[67, 68] c6_0as c6_0bd .busy none m) = gb
  have hgb : ∀ y, y ≠ L → gb y = H.get y := fun y hy => by rw [← hHb]; simp [hy]
  have hgl : gb L = some (.loop env1 86 #[67, 68] c6_0as c6_0bd .busy none m) := by rw [← hHb]; simp
  have hrow : Row 2 true ⟨H.next, gb⟩ sv ((zs.take k).map i64) O := h6.same (fun o ho => hgb o (h8 o ho).2.2.2.2.2) (Nat.le_refl _)
  have hkb : Keep (fun l => l = L) H ⟨H.next, gb⟩ := ⟨Nat.le_refl _, fun l _ hn => hgb l hn⟩
  have hFoot : ∀ l, Foot q r l → l ≠ L ∧ l ≠ b5 ∧ l ≠ b12 ∧ l < H.next ∧ O ≠ some l := fun l hf => by
    have hlt : l < H.next := by
      rcases hf with rfl | h
      · exact h7.qlt
      · subst h; exact h7.ring.1
    rcases hf with rfl | h
    · exact ⟨h11.2.2, h11.1, h11.2.1, hlt, fun e => (h8 _ e).2.1 rfl⟩
    · exact ⟨(h12 l h).2.2, (h12 l h).1, (h12 l h).2.1, hlt, fun e => (h8 _ e).2.2.1 h⟩
  have hq1 : IsQ ⟨H.next, gb⟩ q r 200 ((zs.drop k).map i64) total f N := h7.keep hkb (fun l hf e => (hFoot l hf).1 e)
  obtain ⟨H2, hap, hn2, hget, hrow2, hkeep⟩ := row_append el32 hrow (by simp; omega) (v := i64 zs[k]) rfl
  simp at hn2
  have hl2 : ∀ y, y < H.next → O ≠ some y → H2.get y = gb y := fun y h1 h2 => hkeep y h1 h2
  have o5 : O ≠ some b5 := fun e => (h8 _ e).2.2.2.1 rfl
  have o12 : O ≠ some b12 := fun e => (h8 _ e).2.2.2.2.1 rfl
  have oL : O ≠ some L := fun e => (h8 _ e).2.2.2.2.2 rfl
  simp [c6_0bd_c, e5, e12, hgb, h14, h3, h4, hap, hl2 b12 h13.2.1 o12, hl2 b5 h13.1 o5]
  have hlen : min k zs.length = k := by omega
  simp only [List.length_map, List.length_take, hlen] at hap hrow2
  rw [hlen]
  have hq2 : IsQ ⟨H2.next, upd H2.get b12 (.cells [sl (H.next + 1) 0 (k + 1)] 32 true 0)⟩ q r 200 ((zs.drop k).map i64) total f N := by
    refine hq1.keep (S := fun l => l = b12 ∨ O = some l) ⟨by simp; omega, fun l hl hn => ?_⟩ ?_
    · simp at hl hn
      simp [hn.1, hl2 l hl hn.2]
    · intro l hf e
      rcases e with e | e
      · exact (hFoot l hf).2.2.1 e
      · exact (hFoot l hf).2.2.2.2 e
  rw [hdr] at hq2
  have g5 : (⟨H2.next, upd H2.get b12 (.cells [sl (H.next + 1) 0 (k + 1)] 32 true 0)⟩ : AH).get b5 = some (.cells [ptr q] 33 true 0) := by simp [h14, hl2 b5 h13.1 o5, hgb, h3]
  have g12 : (⟨H2.next, upd H2.get b12 (.cells [sl (H.next + 1) 0 (k + 1)] 32 true 0)⟩ : AH).get b12 = some (.cells [sl (H.next + 1) 0 (k + 1)] 32 true 0) := by simp
  have gL : (⟨H2.next, upd H2.get b12 (.cells [sl (H.next + 1) 0 (k + 1)] 32 true 0)⟩ : AH).get L = some (.loop env1 86 #[67, 68] c6_0as c6_0bd .busy none m) := by simp [h14.2.2.symm, hl2 L h13.2.2 oL, hgl]
  have gR : Row 2 true ⟨H2.next, upd H2.get b12 (.cells [sl (H.next + 1) 0 (k + 1)] 32 true 0)⟩ (sl (H.next + 1) 0 (k + 1)) ((zs.take (k + 1)).map i64) (some (H.next + 1)) := by
    have : (zs.take (k + 1)).map i64 = (zs.take k).map i64 ++ [i64 zs[k]] := by rw [List.take_add_one, List.getElem?_eq_getElem hk, List.map_append]; rfl
    rw [this]
    refine hrow2.same (fun o e => ?_) (Nat.le_refl _)
    cases e
    simp [show ¬ H.next + 1 = b12 by omega]
  have gK : ∀ l, l < H.next → ¬ Ok l → (⟨H2.next, upd H2.get b12 (.cells [sl (H.next + 1) 0 (k + 1)] 32 true 0)⟩ : AH).get l = H.get l := by
    intro l hl hn
    have n12 : ¬ l = b12 := fun e => hn ((h1 l).2 (by simp [e]))
    have nL : ¬ l = L := fun e => hn ((h1 l).2 (by simp [e]))
    have nO : O ≠ some l := fun e => hn ((h1 l).2 (by simp [e]))
    simp [n12, hl2 l hl nO, hgb l nL]
  have gn : (⟨H2.next, upd H2.get b12 (.cells [sl (H.next + 1) 0 (k + 1)] 32 true 0)⟩ : AH).next = H.next + 2 := by simp [hn2]
  generalize (⟨H2.next, upd H2.get b12 (.cells [sl (H.next + 1) 0 (k + 1)] 32 true 0)⟩ : AH) = H3 at *
  refine callV_R cb13 (pop_run (x := i64 zs[k]) (xs := (zs.drop (k + 1)).map i64) (show IsQ H3 q r 200 (i64 zs[k] :: (zs.drop (k + 1)).map i64) total f N from hq2)) ?_
  rintro _ H4 ⟨rfl, hq4, hk4, hn4⟩
  have nF : ∀ l, (l = b5 ∨ l = b12 ∨ l = L ∨ H.next ≤ l) → ¬ Foot q r l := fun l h hf => by
    have := hFoot l hf
    rcases h with h | h | h | h
    · exact this.2.1 h
    · exact this.2.2.1 h
    · exact this.1 h
    · have := this.2.2.2.1; omega
  have k5 : H4.get b5 = some (.cells [ptr q] 33 true 0) := by rw [hk4.get (by omega) (nF _ (by simp)), g5]
  have k12 : H4.get b12 = some (.cells [sl (H.next + 1) 0 (k + 1)] 32 true 0) := by rw [hk4.get (by omega) (nF _ (by simp)), g12]
  have kL : H4.get L = some (.loop env1 86 #[67, 68] c6_0as c6_0bd .busy none m) := by rw [hk4.get (by omega) (nF _ (by simp)), gL]
  have kR := gR.keep hk4 (fun l e => nF l (by cases e; omega))
  simp [kL, Ex.isNormal, Ex.jump]
  have hU : Keep (fun l => l = L) H4 ⟨H4.next, upd H4.get L (.loop env1 86 #[67, 68] c6_0as c6_0bd .ready none m)⟩ := ⟨Nat.le_refl _, fun l _ hn => by simp at hn; simp [hn]⟩
  refine ⟨fun y => y = b5 ∨ y = b12 ∨ y = L ∨ some (H.next + 1) = some y ∨ Foot q r y, ?_, ⟨by simp; omega, fun l hl hn => ?_⟩, ?_⟩
  · intro l hl
    rcases hl with h | h | h | h | h
    · exact .inl ((h1 l).2 (by simp [h]))
    · exact .inl ((h1 l).2 (by simp [h]))
    · exact .inl ((h1 l).2 (by simp [h]))
    · right; cases h; omega
    · exact .inl ((h1 l).2 (by simp [h]))
  · have nL : ¬ l = L := fun e => hn ((h1 l).2 (by simp [e]))
    have nf : ¬ Foot q r l := fun e => hn ((h1 l).2 (by simp [e]))
    simp [nL]
    rw [hk4.get (by omega) nf, gK l hl hn]
  · refine ⟨_, some (H.next + 1), q, r, total, _, N, fun y => Iff.rfl, by omega, ?_, ?_, by simp, kR.keep hU (fun l e h => by cases e; omega), hq4.keep hU (fun l hf h => (hFoot l hf).1 h), ?_, h9, h10, h11, h12, by simp; omega, h14⟩
    · simp [h14.2.1, k5]
    · simp [h14.2.2, k12]
    · intro o e
      cases e
      refine ⟨?_, ?_, ?_, by omega, by omega, by omega⟩
      · have := h9; have := hq1.qlt; simp at this; omega
      · have := h7.qlt; omega
      · intro e; have := (hFoot _ (.inr e)).2.2.2.1; omega

theorem alloc33 (H : AH) : aAlloc Try.prog 33 H = some (ptr H.next, ⟨H.next + 1, upd H.get H.next (.cells [.pointer none] 33 true 0)⟩) := by kernel_rfl
theorem queueTells_run {H0 : AH} {sv : Value} {zs : List Int} {O : Option Nat} {len : Nat} {a1 : Int} (hrow : Row 2 false H0 sv (zs.map i64) O) (hlen : zs.length = len) (hwf : ∀ n ∈ zs, (Lit.int .i64 n).wf = true) (y : len * 8 ≤ 140737488351232)
    (w1 : (Lit.int .u8 a1).wf = true) : CallR cx 6 #[sv, .int .u8 a1] H0 (fun v _ => v = .bool true) := by
  have b1 := u8_wf w1
  have hw1 : IntKind.i64.wrap a1 = a1 := wrap_small (by omega)
  obtain ⟨ra, rfl, hra⟩ := hrow.isSlice
  simp only [List.length_map] at hrow
  refine wk6 (by simp) ?_
  simp [c6]
  refine callV_R cb12 (new_run (by omega)) ?_
  rintro _ _ ⟨rfl, rfl⟩
  have hq0 := isq_new (H := H0) (n := 200) (by omega)
  have hf0 : Fresh H0 (H0.new (.cells [i64 200, .slice none 0 0, i64 0, i64 0, .int .u64 0] 58 true 0)) := Fresh.ofNew
  have hn0 : H0.next + 1 = (H0.new (.cells [i64 200, .slice none 0 0, i64 0, i64 0, .int .u64 0] 58 true 0)).next := rfl
  generalize H0.new (.cells [i64 200, .slice none 0 0, i64 0, i64 0, .int .u64 0] 58 true 0) = H1 at *
  by_cases h200 : 200 < (zs.length : Int)
  · simp [h200, alloc33]
    refine callV_R cb9 alive_run ?_
    rintro _ _ ⟨rfl, _⟩
    simp
  simp [h200, alloc33]
  obtain ⟨b5, hb5⟩ : ∃ b5, b5 = H1.next := ⟨_, rfl⟩
  rw [← hb5]
  refine aw_loop_to zs.length (fun k s => s.env 0 = .slice ra zs.length zs.length ∧ s.env 1 = .int .u8 a1 ∧ s.env 5 = ptr b5 ∧ s.env 29 = .slice ra zs.length zs.length ∧ s.env 30 = i64 zs.length ∧ s.env 31 = i64 k ∧ s.ds = [] ∧
    ∃ r total f N, IsQ s.H H0.next r 200 ((zs.take k).map i64) total f N ∧ (∀ l, r = some l → H0.next ≤ l ∧ l ≠ b5) ∧ Keep (fun l => H0.next ≤ l) H0 s.H ∧ s.H.get b5 = some (.cells [ptr H0.next] 33 true 0) ∧ b5 < s.H.next) ?_ ?_ ?_
  · rintro k ⟨env, H2, ds⟩ hk ⟨e0, e1, e5, e29, e30, e31, eds, r, total, f, N, hq, hr, hkp, h5, h5n⟩
    simp only at e0 e1 e5 e29 e30 e31 eds hq hkp h5 h5n
    have hkN : (k : Int) < zs.length := by omega
    have h0k : (0 : Int) ≤ k := by omega
    have hw : IntKind.i64.wrap ((k : Int) + 1) = (k : Int) + 1 := wrap_small (by omega)
    cases O with
    | none => have := hrow.2; simp at this; subst this; simp at hk
    | some ol =>
    obtain ⟨o, cs, hsl, hcs, htk, hle, hlo⟩ := hrow
    obtain rfl : ra = some ⟨ol, o, none⟩ := by simpa using hsl
    have hcs2 : H2.get ol = some (.cells cs 2 false 1) := by rw [hkp.get hlo (by omega), hcs]
    have hcx : cs[o + k]? = some (i64 zs[k]) := by rw [row_at htk (by simpa using hk)]; simp
    have htk1 : (zs.take (k + 1)).map i64 = (zs.take k).map i64 ++ [i64 zs[k]] := by rw [List.take_add_one, List.getElem?_eq_getElem hk, List.map_append]; rfl
    simp [e0, e5, e29, e30, e31, hkN, ix32 _ _ _ _ _ _ h0k hkN, hcs2, hcx, h5]
    refine callV_R cb14 (push_room hq (by simp; omega) (x := i64 zs[k]) rfl) ?_
    rintro _ H3 ⟨rfl, r', f', N', hq', hk', hr'⟩
    simp [e0, e1, e5, e29, e30, e31, hw, eds]
    have hnf : ¬ Foot H0.next r b5 := by
      rintro (h | h)
      · omega
      · exact (hr _ h).2 rfl
    refine ⟨r', ⟨_, f', N', by rw [← List.map_take, htk1]; exact hq'⟩, ?_, hkp.trans (hk'.high (Nat.le_refl _) (fun l e => (hr l e).1)), by rw [hk'.get h5n hnf, h5], by have := hk'.1; omega⟩
    intro l e
    rcases hr' with h | ⟨l', h, h'⟩
    · exact hr l (h ▸ e)
    · rw [h] at e; cases e; have := hkp.1; omega
  · rintro ⟨env, H2, ds⟩ ⟨e0, e1, e5, e29, e30, e31, eds, r, total, f, N, hq, hr, hkp, h5, h5n⟩
    simp only at e0 e1 e5 e29 e30 e31 eds hq hkp h5 h5n
    rw [List.take_length] at hq
    obtain ⟨m1, hm1⟩ : ∃ m1 : Nat, a1 = m1 := ⟨a1.toNat, by omega⟩
    subst hm1
    simp [e0, e1, e5, e30, e31, h5, hw1]
    refine callV_R cb16 (told_run (most := m1) (.inr ⟨_, r, _, _, f, N, rfl, hq⟩)) ?_
    rintro _ H3 ⟨tv, O3, rfl, hrow3, hO3, hf3⟩
    have g5 : H3.get b5 = some (.cells [ptr H0.next] 33 true 0) := by rw [hf3.get h5n, h5]
    have hq3 := hq.keep hf3 (fun _ _ => id)
    simp [e5, g5]
    refine callV_R cb20 all_run ?_
    rintro _ _ ⟨rfl, rfl⟩
    simp [e0, e1, hw1]
    have hf4 : Fresh H3 ⟨H3.next + 1, upd H3.get H3.next (.cells [.pointer (some ⟨H0.next, 0, none⟩)] 33 true 0)⟩ := Fresh.ofNew
    have hbx : (⟨H3.next + 1, upd H3.get H3.next (.cells [.pointer (some ⟨H0.next, 0, none⟩)] 33 true 0)⟩ : AH).get H3.next = some (.cells [.pointer (some ⟨H0.next, 0, none⟩)] 33 true 0) := by simp
    have hn4 : (⟨H3.next + 1, upd H3.get H3.next (.cells [.pointer (some ⟨H0.next, 0, none⟩)] 33 true 0)⟩ : AH).next = H3.next + 1 := rfl
    generalize (⟨H3.next + 1, upd H3.get H3.next (.cells [.pointer (some ⟨H0.next, 0, none⟩)] 33 true 0)⟩ : AH) = H4 at *
    have hkp4 : Keep (fun l => H0.next ≤ l) H0 H4 := (hkp.trans hf3.keep).trans hf4.keep
    have hrow4 : Row 2 false H4 (.slice ra zs.length zs.length) (zs.map i64) O := hrow.keep hkp4 (fun l e => by subst e; have := hrow.low; omega)
    obtain ⟨sp, hsp, hrowp⟩ := row_part el32 hrow4 (lo := none) (hi := some (.int .i64 (min (zs.length : Int) m1))) (a := 0) (b := min zs.length m1) (by simp [bnd]; omega) (by simp [bnd]) (Nat.zero_le _) (by simp; omega)
    have hpt : ((zs.map i64).take (min zs.length m1)).drop 0 = (zs.take m1).map i64 := by
      rw [List.drop_zero, ← List.map_take]
      congr 1
      rcases Nat.le_total zs.length m1 with h | h
      · rw [Nat.min_eq_left h, List.take_of_length_le h, List.take_of_length_le (Nat.le_refl _)]
      · rw [Nat.min_eq_right h]
    rw [hpt] at hrowp
    have hrow3' : Row 2 true H4 tv ((zs.take m1).map i64) O3 := by rw [List.map_take]; exact hrow3.keep hf4 (fun _ _ => id)
    simp [hsp]
    refine callV_R cb17 (same_run hrow3' hrowp (by simp; omega)) ?_
    rintro _ H6 ⟨rfl, hH6⟩
    rw [hH6]
    simp [alloc32]
    generalize henv : put _ 86 (some 66) _ = env1
    have f0 : env1 0 = .slice ra zs.length zs.length := by rw [← henv]; simp [e0]
    have f5 : env1 5 = ptr b5 := by rw [← henv]; simp [e5]
    have f12 : env1 12 = ptr H4.next := by rw [← henv]; simp
    have f66 : env1 66 = .func (.func 26) #[] #[ptr H3.next] := by rw [← henv]; simp
    clear henv
    have hq4 : IsQ H4 H0.next r 200 (zs.map i64) total f N := hq3.keep hf4 (fun _ _ => id)
    have hb5n : b5 < H4.next := by have := hf3.1; have := hf4.1; omega
    have g5' : H4.get b5 = some (.cells [ptr H0.next] 33 true 0) := by rw [hf4.get (by have := hf3.1; omega), g5]
    have hql := hq4.qlt
    have hrl : ∀ l, r = some l → l < H4.next := fun l e => by subst e; exact hq4.ring.1
    have hq5 : IsQ ⟨H4.next + 3, upd (upd (upd H4.get H4.next (.cells [.slice none 0 0] 32 true 0)) (H4.next + 1) .mark) (H4.next + 2) (.loop env1 86 #[67, 68] c6_0as c6_0bd .ready none (H4.next + 1))⟩ H0.next r 200 (zs.map i64) total f N := by
      refine hq4.keep (S := fun _ => False) ⟨by simp, fun l hl _ => ?_⟩ (fun _ _ => id)
      simp [show ¬ l = H4.next + 2 by omega, show ¬ l = H4.next + 1 by omega, show ¬ l = H4.next by omega]
    refine range_go (f := 26) (fs := #[]) (cs := #[ptr H3.next]) f66 (by kernel_rfl) (R := _) (all1_run (a0 := some ⟨H0.next, 0, none⟩) (xs := zs.map i64) (b := H3.next) (O := fun x => x = b5 ∨ x = H4.next ∨ x = H4.next + 2 ∨ (none : Option Nat) = some x ∨ Foot H0.next r x)
      (I := TellsI H0.next b5 H4.next (H4.next + 2) (H4.next + 1) zs env1) (K := fun _ _ => False) (by rw [List.length_map]; exact tells_client f5 f12 (by omega)) ?_ ?_ ?_ ?_) ?_
    · exact .inr ⟨_, r, _, _, f, N, rfl, hq5⟩
    · simp; omega
    · simp [show ¬ H3.next = H4.next + 2 by omega, show ¬ H3.next = H4.next + 1 by omega, show ¬ H3.next = H4.next by omega, hbx]
    · refine ⟨.slice none 0 0, none, H0.next, r, total, f, N, fun y => Iff.rfl, Nat.zero_le _, ?_, ?_, by simp, Row.nil, hq5, fun o e => (by cases e), Nat.le_refl _, fun o e => (hr o e).1, ⟨by omega, by omega, by omega⟩, fun o e => ⟨(hr o e).2, by have := hrl o e; omega, by have := hrl o e; omega⟩, ⟨by simp; omega, by simp; omega, by simp⟩, by omega, by omega, by omega⟩
      · simp [show ¬ b5 = H4.next + 2 by omega, show ¬ b5 = H4.next + 1 by omega, show ¬ b5 = H4.next by omega, g5']
      · simp [show ¬ H4.next = H4.next + 2 by omega, show ¬ H4.next = H4.next + 1 by omega]
    · rintro v H5 ⟨rfl, O', hO', hk, hcase⟩
      rcases hcase with hI | hI
      · rw [List.length_map] at hI
        obtain ⟨sv5, O5, q5, r5, t5, f5', N5, h1, h2, h3, h4, h5', h6, h7, h8, h9, h10, h11, h12, h13, h14⟩ := hI
        show withLoop (H5.get (H4.next + 2)) _
        rw [h5', withLoop_some]
        refine ⟨by simp, .normal, rfl, ?_⟩
        have hmk : H5.get (H4.next + 1) = some .mark := by
          rw [hk.get (by simp) ?_]
          · simp
          · rintro (h | h | h | h | h | h)
            · omega
            · omega
            · omega
            · cases h
            · omega
            · have := hrl _ h; omega
        show aw cx 86 none _ _ ⟨env1, ⟨H5.next, YtfbepkamckpofaaA.del H5.get (H4.next + 2)⟩, (H4.next + 1) :: ds⟩
        have hkd : Keep (fun l => l = H4.next + 2) H5 ⟨H5.next, YtfbepkamckpofaaA.del H5.get (H4.next + 2)⟩ := ⟨Nat.le_refl _, fun l _ hn => by simp [hn]⟩
        have hn6 : (⟨H5.next, YtfbepkamckpofaaA.del H5.get (H4.next + 2)⟩ : AH).next = H5.next := rfl
        generalize (⟨H5.next, YtfbepkamckpofaaA.del H5.get (H4.next + 2)⟩ : AH) = H6 at *
        rw [List.take_length] at h6
        rw [List.drop_length] at h7
        have hk5n := hk.1
        simp at hk5n
        have j12 : H6.get H4.next = some (.cells [sv5] 32 true 0) := by rw [hkd.get (by omega) (by omega), h4]
        have j5 : H6.get b5 = some (.cells [ptr q5] 33 true 0) := by rw [hkd.get (by omega) (by omega), h3]
        have jm : H6.get (H4.next + 1) = some .mark := by rw [hkd.get (by omega) (by omega), hmk]
        have jr : Row 2 true H6 sv5 (zs.map i64) O5 := h6.keep hkd (fun l e => (h8 l e).2.2.2.2.2)
        have jq : IsQ H6 q5 r5 200 [] t5 f5' N5 := h7.keep hkd (fun l hf => by
          rcases hf with rfl | h
          · exact h11.2.2
          · exact (h12 l h).2.2)
        have jrow : Row 2 false H6 (.slice ra zs.length zs.length) (zs.map i64) O := by
          refine hrow4.same (fun l e => ?_) (by omega)
          subst e
          have hl0 := hrow.low
          have hl4 := hrow4.low
          rw [hkd.get (by omega) (by omega), hk.get (by simp; omega) ?_]
          · simp [show ¬ l = H4.next + 2 by omega, show ¬ l = H4.next + 1 by omega, show ¬ l = H4.next by omega]
          · rintro (h | h | h | h | h | h)
            · omega
            · omega
            · omega
            · cases h
            · omega
            · have := (hr _ h).1; omega
        simp [f0, f5, f12, j12]
        refine callV_R cb17 (same_run jr jrow (by omega)) ?_
        rintro _ H7 ⟨rfl, hH7⟩
        rw [hH7]
        simp [f5, j5]
        refine callV_R cb18 (len_run jq) ?_
        rintro _ H8 ⟨rfl, hH8⟩
        rw [hH8]
        simp
        refine callV_R cb9 alive_run ?_
        rintro _ H9 ⟨rfl, hf9⟩
        simp [takeMarks, hf9.get (show H4.next + 1 < H6.next by omega), jm, eds]
      · exact hI.elim
  · simp
    have hs : Keep (fun l => l = b5) H1 ⟨b5 + 1, upd (upd H1.get b5 (.cells [.pointer none] 33 true 0)) b5 (.cells [ptr H0.next] 33 true 0)⟩ := ⟨by simp; omega, fun l _ hn => by simp at hn; simp [hn]⟩
    refine ⟨none, ⟨0, 0, 0, hq0.keep hs (fun l hf e => ?_)⟩, fun l e => (by cases e), hf0.keep.trans (hs.mono fun l hl e => by omega)⟩
    rw [foot_none] at hf
    omega
end Go.Proofs.Ytfbepkamckpofaa.C

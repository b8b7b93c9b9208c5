/- Going through a set, over the small heap. Own text of this session. -/
import Derived.Test.YtdmidlgnfepfjaaDoorBits
set_option linter.unusedVariables false
set_option linter.unusedSimpArgs false
set_option maxRecDepth 4000
set_option maxHeartbeats 8000000
namespace Go.Proofs.YtdmidlgnfepfjaaDoor.C
open Go Go.RowKit Go.Proofs.YtdmidlgnfepfjaaDoorA Go.Proofs.YtdmidlgnfepfjaaDoor.Ones
variable {H : AH}
theorem sn47 (ox oy : Operand) (a : Option Addr) (n c : Nat) : aBin Tryd.prog .eql 47 ox oy (.slice a n c) (.slice none 0 0) = some (.bool a.isNone) := by simp [aBin, aNil, un47, nilFits, nilCmp]
theorem bs47_0 (H : AH) : aBuildSlice Tryd.prog 47 0 [] H = some (.slice (some ⟨H.next, 0, none⟩) 0 0, ⟨H.next + 1, upd H.get H.next (.cells [] 50 true 1)⟩) := by kernel_rfl
theorem el47 : El Tryd.prog 47 50 := ⟨un47, by kernel_rfl, (Tryd.prog.info? 50).getD default, by kernel_rfl, by kernel_rfl, of_decide_eq_true (by kernel_rfl), by kernel_rfl⟩
theorem alloc3 (H : AH) : aAlloc Tryd.prog 3 H = some (ptr H.next, ⟨H.next + 1, upd H.get H.next (.cells [i64 0] 3 true 0)⟩) := by kernel_rfl
/-- slices.Clone of a set's words -/
theorem clone_run {S W w : Nat} {ws : List Nat} (h : IsSet H S W w ws) : CallR cx 27 #[.slice (some ⟨W, 0, none⟩) ws.length ws.length] H (fun v H' => Fresh H H' ∧ ∃ Oc, Row 50 true H' v (wcells ws) Oc ∧ ∀ o, Oc = some o → H.next ≤ o) := by
  refine wk27 (by simp) ?_
  have hwd := h.wide
  have hlen := h.len
  have hr1 : Row 50 true ⟨H.next + 1, upd H.get H.next (.cells [] 50 true 1)⟩ (.slice (some ⟨H.next, 0, none⟩) 0 0) [] (some H.next) := ⟨0, [], by simp, by simp, by simp, by simp, by simp⟩
  have hr2 : Row 50 true ⟨H.next + 1, upd H.get H.next (.cells [] 50 true 1)⟩ (.slice (some ⟨W, 0, none⟩) ws.length ws.length) (wcells ws) (some W) := by
    have := h.lW
    refine ⟨0, wcells ws, by simp, ?_, by rw [List.drop_zero, List.take_of_length_le (Nat.le_refl _)], by simp, by simp; omega⟩
    simp [show ¬ W = H.next by omega, h.hW]
  obtain ⟨sr, H2, O2, a1, a2, a3, a4⟩ := row_append_row el47 hr1 hr2 (by simp; omega) (by intro x hx; obtain ⟨n, _, rfl⟩ := List.mem_map.1 hx; rfl)
  simp [c27, sn47, bs47_0, a1]
  rw [List.nil_append] at a2
  refine ⟨⟨?_, fun l hl _ => ?_⟩, O2, a2, fun o ho => ?_⟩
  · rcases a3 with ⟨_, rfl⟩ | ⟨_, h2⟩
    · simp
    · simp at h2; omega
  · rw [a4 l (by simp; omega) (by simp; omega)]
    simp [show ¬ l = H.next by omega]
  · rcases a3 with ⟨h1, _⟩ | ⟨h1, _⟩
    · rw [h1] at ho; cases ho; exact Nat.le_refl _
    · rw [h1] at ho; cases ho; simp
theorem all_run {H : AH} {a : Option Addr} : CallR cx 15 #[.pointer a] H (fun v H' => v = .func (.func 26) #[] #[ptr H.next] ∧ H' = ⟨H.next + 1, upd H.get H.next (.cells [.pointer a] 23 true 0)⟩) := by
  refine wk15 (by simp) ?_
  simp [c15, AH.new]
theorem takeMarks_ok : ∀ (ds : List Nat) (H : AH), ds.Nodup → (∀ l ∈ ds, H.get l = some .mark) → ∃ H', takeMarks ds H = some H' ∧ H'.next = H.next ∧ ∀ x, x ∉ ds → H'.get x = H.get x
  | [], H, _, _ => ⟨H, rfl, rfl, fun _ _ => rfl⟩
  | d :: ds, H, hn, hm => by
    obtain ⟨hd, hn'⟩ := List.nodup_cons.1 hn
    have h1 := hm d List.mem_cons_self
    obtain ⟨H', e1, e2, e3⟩ := takeMarks_ok ds ⟨H.next, YtdmidlgnfepfjaaDoorA.del H.get d⟩ hn' (fun l hl => by
      have : ¬ l = d := fun e => hd (e ▸ hl)
      simp [this]
      exact hm l (List.mem_cons_of_mem _ hl))
    refine ⟨H', by simp [takeMarks, h1, e1], e2, fun x hx => ?_⟩
    have hx1 : ¬ x = d := fun e => hx (e ▸ List.mem_cons_self)
    have hx2 : x ∉ ds := fun h => hx (List.mem_cons_of_mem _ h)
    rw [e3 x hx2]
    simp [hx1]
/-- what the inner loop keeps beside its client -/
def InP (P : AH → (Nat → Prop) → Prop) (n0 ba L mk : Nat) (g : Value) (a : Nat) (env1 : Env) (st : LoopState) (pd : Option Code) (H : AH) (Ok : Nat → Prop) : Prop :=
  ∃ O, (∀ x, Ok x ↔ (x = n0 ∨ x = ba ∨ x = L ∨ O x)) ∧ P H O ∧ H.get n0 = some (.cells [g] 29 true 0) ∧ H.get ba = some (.cells [i64 (a : Nat)] 3 true 0) ∧ H.get L = some (.loop env1 30 #[21] c26_0as c26_0bd st pd mk) ∧
    (n0 < H.next ∧ ba < H.next ∧ L < H.next) ∧ (¬ O n0 ∧ ¬ O ba ∧ ¬ O L) ∧ n0 ≠ ba ∧ n0 ≠ L ∧ ba ≠ L
theorem InP.stable {P : AH → (Nat → Prop) → Prop} (hP : ∀ {H H' O}, P H O → (∀ l, O l → H'.get l = H.get l) → H.next ≤ H'.next → P H' O) {n0 ba L mk : Nat} {g : Value} {a : Nat} {env1 : Env} {st : LoopState} {pd : Option Code} {H H' : AH} {Ok : Nat → Prop}
    (h : InP P n0 ba L mk g a env1 st pd H Ok) (hk : ∀ l, Ok l → H'.get l = H.get l) (hn : H.next ≤ H'.next) : InP P n0 ba L mk g a env1 st pd H' Ok := by
  obtain ⟨O, h1, h2, h3, h4, h5, h6, h7⟩ := h
  refine ⟨O, h1, hP h2 (fun l hl => hk l ((h1 l).2 (by simp [hl]))) hn, ?_, ?_, ?_, by omega, h7⟩
  · rw [hk _ ((h1 _).2 (by simp)), h3]
  · rw [hk _ ((h1 _).2 (by simp)), h4]
  · rw [hk _ ((h1 _).2 (by simp)), h5]
theorem InP.low {P : AH → (Nat → Prop) → Prop} (hP : ∀ {H O}, P H O → ∀ l, O l → l < H.next) {n0 ba L mk : Nat} {g : Value} {a : Nat} {env1 : Env} {st : LoopState} {pd : Option Code} {H : AH} {Ok : Nat → Prop}
    (h : InP P n0 ba L mk g a env1 st pd H Ok) : ∀ l, Ok l → l < H.next := by
  obtain ⟨O, h1, h2, h3, h4, h5, h6, h7⟩ := h
  intro l hl
  rcases (h1 l).1 hl with h | h | h | h
  · omega
  · omega
  · omega
  · exact hP h2 l h
theorem inner_client {g : Value} {ws : List Nat} {N : Nat} {I : Nat → AH → (Nat → Prop) → Prop} {K : AH → (Nat → Prop) → Prop} (hc : Client cx g (fun k => #[i64 (((elemsB ws N)[k]?).getD 0 : Nat)]) (below ws N) I K)
    {n0 ba L mk a x : Nat} {env1 : Env} (hN : 64 * (a + 1) ≤ N) (ha : a < 100000) (hx : x = ws.getD a 0) (e2 : env1 2 = ptr n0) (e3 : env1 3 = ptr ba) :
    Client cx (.func (.yield L) #[] #[]) (fun k => #[i64 (((bitsL x 64)[k]?).getD 0 : Nat)]) (bitsN x 64) (fun j => InP (I (below ws (64 * a) + j)) n0 ba L mk g a env1 .ready none) (InP K n0 ba L mk g a env1 .done (some .ret)) := by
  refine ⟨fun h => h.stable hc.stable, fun h => h.stable hc.stableK, fun h => h.low hc.low, fun h => h.low hc.lowK, ?_⟩
  rintro j H Ok hj ⟨O, h1, h2, h3, h4, h5, h6, h7, h8⟩
  obtain ⟨p, hp1, hp2, hp3⟩ := bitsN_hit x j 64 hj
  have hbl := bitsL_at hp2 64 hp1
  rw [hp3] at hbl
  have hbit := bitAt_word ws a p hp1
  rw [← hx, hp2] at hbit
  have hbel := below_add ws a p (by omega)
  rw [← hx, hp3] at hbel
  have hel := elemsB_at hbit N (by omega)
  have hlt : below ws (64 * a) + j < below ws N := by rw [← hbel]; exact below_strict ws (by omega) hbit
  rw [hbel] at hel
  have hs6 := shl6 a (by omega)
  obtain ⟨q, hq⟩ : ∃ q, q = 64 * a + p := ⟨_, rfl⟩
  obtain ⟨a6, ha6⟩ : ∃ a6, a6 = 64 * a := ⟨_, rfl⟩
  have hw3 : IntKind.i64.wrap ((a6 : Int) + (p : Int)) = (q : Int) := by rw [w64 (by omega)]; omega
  rw [← hq] at hel
  rw [← ha6] at hs6 hel h2 hlt ⊢
  refine yield_go h5 rfl c26_0as_c_code c26_0bd_c_code c26_0as_c_ok c26_0bd_c_ok ?_
  rw [hbl]
  simp [c26_0as_c, bindAll, h5]
  generalize hHb : upd H.get L (.loop env1 30 #[21] c26_0as c26_0bd .busy none mk) = gb
  have hgb : ∀ y, y ≠ L → gb y = H.get y := fun y hy => by rw [← hHb]; simp [hy]
  have hgl : gb L = some (.loop env1 30 #[21] c26_0as c26_0bd .busy none mk) := by rw [← hHb]; simp
  have hIb : I (below ws a6 + j) ⟨H.next, gb⟩ O := hc.stable h2 (fun l hl => hgb l (fun e => h7.2.2 (e ▸ hl))) (Nat.le_refl _)
  simp [c26_0bd_c, e2, e3, hgb, h8, h3, h4, hs6, hw3]
  have hst := hc.step hlt hIb
  simp only [hel, Option.getD_some] at hst
  obtain ⟨v, H4, hcall, O', hO', hk', hv⟩ := callV_of hst
  have k0 : H4.get n0 = some (.cells [g] 29 true 0) := by rw [hk'.get h6.1 h7.1, ← h3]; exact hgb _ h8.2.1
  have kb : H4.get ba = some (.cells [i64 (a : Nat)] 3 true 0) := by rw [hk'.get h6.2.1 h7.2.1, ← h4]; exact hgb _ h8.2.2
  have kL : H4.get L = some (.loop env1 30 #[21] c26_0as c26_0bd .busy none mk) := by rw [hk'.get h6.2.2 h7.2.2]; exact hgl
  have hnn : H.next ≤ H4.next := hk'.1
  have hnew : ∀ l, (l = n0 ∨ l = ba ∨ l = L) → ¬ O' l := fun l hl h => by
    have hlt : l < H.next := by rcases hl with h | h | h <;> omega
    rcases hO' l h with h | h
    · rcases hl with e | e | e <;> subst e
      · exact h7.1 h
      · exact h7.2.1 h
      · exact h7.2.2 h
    · have h' : H.next ≤ l := h
      omega
  have fin : ∀ (P : AH → (Nat → Prop) → Prop) (st : LoopState) (pd : Option Code), (∀ {H H' O}, P H O → (∀ l, O l → H'.get l = H.get l) → H.next ≤ H'.next → P H' O) → P H4 O' →
      ∃ O'', (∀ l, O'' l → Ok l ∨ H.next ≤ l) ∧ Keep Ok H ⟨H4.next, upd H4.get L (.loop env1 30 #[21] c26_0as c26_0bd st pd mk)⟩ ∧ InP P n0 ba L mk g a env1 st pd ⟨H4.next, upd H4.get L (.loop env1 30 #[21] c26_0as c26_0bd st pd mk)⟩ O'' := by
    intro P st pd hP hp
    refine ⟨fun y => y = n0 ∨ y = ba ∨ y = L ∨ O' y, fun l hl => ?_, ⟨hnn, fun l hl hn => ?_⟩, O', fun y => Iff.rfl, ?_, ?_, ?_, by simp, by simp; omega, ⟨hnew _ (by simp), hnew _ (by simp), hnew _ (by simp)⟩, h8⟩
    · rcases hl with h | h | h | h
      · exact .inl ((h1 l).2 (by simp [h]))
      · exact .inl ((h1 l).2 (by simp [h]))
      · exact .inl ((h1 l).2 (by simp [h]))
      · rcases hO' l h with h | h
        · exact .inl ((h1 l).2 (by simp [h]))
        · exact .inr h
    · have n1 : ¬ l = L := fun e => hn ((h1 l).2 (by simp [e]))
      have n2 : ¬ O l := fun e => hn ((h1 l).2 (by simp [e]))
      simp [n1]
      rw [hk'.get hl n2]
      exact hgb l n1
    · refine hP hp (fun l hl => ?_) (Nat.le_refl _)
      have : ¬ l = L := fun e => hnew L (by simp) (e ▸ hl)
      simp [this]
    · simp [h8, k0]
    · simp [h8, kb]
  refine callV_G hcall ?_
  rcases hv with ⟨rfl, hv⟩ | ⟨rfl, hv⟩
  · obtain ⟨O'', f1, f2, f3⟩ := fin (I (below ws a6 + (j + 1))) .ready none hc.stable (by rw [← Nat.add_assoc]; exact hv)
    simp [kL, Ex.isNormal, Ex.jump]
    exact ⟨O'', f1, f2, f3⟩
  · obtain ⟨O'', f1, f2, f3⟩ := fin K .done (some .ret) hc.stableK hv
    simp [kL, Ex.isNormal, Ex.jump]
    exact ⟨O'', f1, f2, f3⟩
end Go.Proofs.YtdmidlgnfepfjaaDoor.C

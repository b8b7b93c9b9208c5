import Derived.Test.YtfbepkamckpofaaQ
import Derived.Test.YtfbepkamckpofaaA14
set_option linter.unusedVariables false
set_option linter.unusedSimpArgs false
set_option maxRecDepth 4000
set_option maxHeartbeats 2000000
namespace Go.Proofs.Ytfbepkamckpofaa.C
open Go Go.RowKit Go.Proofs.YtfbepkamckpofaaA

theorem IsQ.keep {H H' : AH} {S : Nat → Prop} {q : Nat} {r : Option Nat} {most : Int} {xs : List Value} {total : Int} {f N : Nat} (h : IsQ H q r most xs total f N) (hk : Keep S H H') (hs : ∀ l, Foot q r l → ¬ S l) : IsQ H' q r most xs total f N := by
  refine ⟨by rw [hk.get h.qlt (hs q (.inl rfl))]; exact h.blk, h.lo, h.hi, h.few, h.inN, h.capN, Nat.lt_of_lt_of_le h.qlt hk.1, ?_, h.cell⟩
  have hr := h.ring
  cases r with
  | none => exact hr
  | some r =>
    obtain ⟨h1, h2, h3, cs, h4, h5, h6, h7⟩ := hr
    exact ⟨Nat.lt_of_lt_of_le h1 hk.1, h2, h3, cs, by rw [hk.get h1 (hs r (.inr rfl))]; exact h4, h5, h6, h7⟩
/-- a queue, or none: what it has -/
def QV (H : AH) (qv : Value) (xs : List Value) : Prop := (qv = .pointer none ∧ xs = []) ∨ ∃ q r most total f N, qv = ptr q ∧ IsQ H q r most xs total f N
theorem QV.fresh {H H' : AH} {qv : Value} {xs : List Value} (h : QV H qv xs) (hk : Fresh H H') : QV H' qv xs := by
  rcases h with h | ⟨q, r, most, total, f, N, rfl, h⟩
  · exact .inl h
  · exact .inr ⟨q, r, most, total, f, N, rfl, h.keep hk fun _ _ => id⟩
theorem QV.len {H : AH} {qv : Value} {xs : List Value} (h : QV H qv xs) : CallR cx 18 #[qv] H (fun v H' => v = i64 xs.length ∧ H' = H) := by
  rcases h with ⟨rfl, rfl⟩ | ⟨q, r, most, total, f, N, rfl, h⟩
  · exact len_nil
  · exact len_run h
theorem QV.at {H : AH} {qv : Value} {xs : List Value} (h : QV H qv xs) {i : Nat} {x : Value} (hx : xs[i]? = some x) : CallR cx 15 #[qv, i64 i] H (fun v H' => v = .tuple #[x, .bool true] ∧ H' = H) := by
  rcases h with ⟨rfl, rfl⟩ | ⟨q, r, most, total, f, N, rfl, h⟩
  · simp at hx
  · exact get_run h hx
theorem QV.small {H : AH} {qv : Value} {xs : List Value} (h : QV H qv xs) : xs.length ≤ 65536 := by
  rcases h with ⟨rfl, rfl⟩ | ⟨q, r, most, total, f, N, rfl, h⟩
  · simp
  · have := h.few; have := h.hi; omega
theorem QV.cell {H : AH} {qv : Value} {xs : List Value} (h : QV H qv xs) : ∀ x ∈ xs, isCell x = true := by
  rcases h with ⟨rfl, rfl⟩ | ⟨q, r, most, total, f, N, rfl, h⟩
  · simp
  · exact h.cell
/-- the things, one by one -/
theorem things_run {H0 : AH} {g qv : Value} {b : Nat} {xs : List Value} (I : Nat → AH → Prop) (hI : ∀ k H, I k H → QV H qv xs ∧ H.get b = some (.cells [qv] 33 true 0))
    (hstep : ∀ k H x, xs[k]? = some x → I k H → CallV cx g #[x] H (fun v H' => v = .bool true ∧ I (k + 1) H')) (h0 : I 0 H0) : CallR cx 28 #[g, ptr b] H0 (fun v H' => v = .tuple #[] ∧ I xs.length H') := by
  obtain ⟨hq, hb⟩ := hI _ _ h0
  have hsm := hq.small
  refine wk28 (by simp) ?_
  simp [c28, hb]
  refine callV_R cb18 hq.len ?_
  rintro _ _ ⟨rfl, rfl⟩
  refine aw_loop_to xs.length (fun k s => s.env 0 = g ∧ s.env 1 = ptr b ∧ s.env 7 = i64 xs.length ∧ s.env 8 = i64 k ∧ s.ds = [] ∧ I k s.H) ?_ ?_ ?_
  · rintro k ⟨env, H1, ds⟩ hk ⟨e0, e1, e7, e8, eds, hi⟩
    simp only at e0 e1 e7 e8 eds hi
    obtain ⟨hq1, hb1⟩ := hI _ _ hi
    have hkN : (k : Int) < xs.length := by omega
    obtain ⟨x, hx⟩ : ∃ x, xs[k]? = some x := ⟨xs[k], List.getElem?_eq_getElem (by omega)⟩
    have hw : IntKind.i64.wrap ((k : Int) + 1) = (k : Int) + 1 := wrap_small (by omega)
    simp [e0, e1, e7, e8, hkN, hb1]
    refine callV_R cb15 (hq1.at hx) ?_
    rintro _ _ ⟨rfl, rfl⟩
    simp [e0, e1, e7, e8]
    obtain ⟨v, H', hc, rfl, hi'⟩ := callV_of (hstep k _ x hx hi)
    refine callV_G hc ?_
    simp [e0, e1, e7, e8, eds, hw, hi']
  · rintro ⟨env, H1, ds⟩ ⟨e0, e1, e7, e8, eds, hi⟩
    simp only at e0 e1 e7 e8 eds hi
    subst eds
    simp [e7, e8, hi]
  · simp [h0]

theorem el32 : El Try.prog 32 2 := ⟨un32, by kernel_rfl, (Try.prog.info? 2).getD default, by kernel_rfl, by kernel_rfl, of_decide_eq_true (by kernel_rfl), by kernel_rfl⟩
theorem thingsC_run {H : AH} {a : Option Addr} : CallR cx 27 #[.pointer a] H (fun v H' => v = .func (.func 28) #[] #[ptr H.next] ∧ H' = ⟨H.next + 1, upd H.get H.next (.cells [.pointer a] 33 true 0)⟩) := by
  refine wk27 (by simp) ?_
  simp [c27, AH.new]
theorem all_run {H : AH} {a : Option Addr} : CallR cx 20 #[.pointer a] H (fun v H' => v = .func (.func 26) #[] #[ptr H.next] ∧ H' = ⟨H.next + 1, upd H.get H.next (.cells [.pointer a] 33 true 0)⟩) := by
  refine wk20 (by simp) ?_
  simp [c20, AH.new]
theorem alloc32 (H : AH) : aAlloc Try.prog 32 H = some (ptr H.next, ⟨H.next + 1, upd H.get H.next (.cells [.slice none 0 0] 32 true 0)⟩) := by kernel_rfl
theorem alloc4 (H : AH) : aAlloc Try.prog 4 H = some (ptr H.next, ⟨H.next + 1, upd H.get H.next (.cells [.bool false] 4 true 0)⟩) := by kernel_rfl

/-- All's loop over the things: they are put in a row -/
theorem gather {H0 : AH} {n0 a l m : Nat} {qv : Value} {xs : List Value} {b2 : Nat} {env0 : Env} (ha : env0 3 = ptr a) (hnn : n0 ≤ H0.next) (hal : a ≠ l) (ham : a ≠ m) (hab : a ≠ b2) (hlm : l ≠ m) (hlb : l ≠ b2) (hmb : m ≠ b2)
    (hln : a < n0 ∧ l < n0 ∧ m < n0 ∧ b2 < n0)
    (hqv : ∀ H, (∀ x, x < n0 → x ≠ a → x ≠ l → H.get x = H0.get x) → H0.next ≤ H.next → QV H qv xs) (hb : H0.get b2 = some (.cells [qv] 33 true 0)) (hbox : H0.get a = some (.cells [.slice none 0 0] 32 true 0))
    (hloop : H0.get l = some (.loop env0 27 #[9] c26_0as c26_0bd .ready none m)) :
    CallR cx 28 #[.func (.yield l) #[] #[], ptr b2] H0 (fun v H' => v = .tuple #[] ∧ H0.next ≤ H'.next ∧ (∀ x, x < n0 → x ≠ a → x ≠ l → H'.get x = H0.get x) ∧ H'.get l = some (.loop env0 27 #[9] c26_0as c26_0bd .ready none m) ∧
      ∃ sv O, H'.get a = some (.cells [sv] 32 true 0) ∧ Row 2 true H' sv xs O ∧ ∀ o, O = some o → n0 ≤ o) := by
  have hsm := (hqv H0 (fun _ _ _ _ => rfl) (Nat.le_refl _)).small
  have hcell := (hqv H0 (fun _ _ _ _ => rfl) (Nat.le_refl _)).cell
  refine (things_run (qv := qv) (xs := xs) (fun k H' => H0.next ≤ H'.next ∧ (∀ x, x < n0 → x ≠ a → x ≠ l → H'.get x = H0.get x) ∧ H'.get l = some (.loop env0 27 #[9] c26_0as c26_0bd .ready none m) ∧
      ∃ sv O, H'.get a = some (.cells [sv] 32 true 0) ∧ Row 2 true H' sv (xs.take k) O ∧ ∀ o, O = some o → n0 ≤ o) ?_ ?_ ?_).mono ?_
  · rintro k H ⟨h1, h2, _⟩
    exact ⟨hqv H h2 h1, by rw [h2 b2 hln.2.2.2 hab.symm hlb.symm]; exact hb⟩
  · rintro k H x hx ⟨h1, h2, h3, sv, O, h4, h5, h6⟩
    have hk : k < xs.length := by
      rcases Nat.lt_or_ge k xs.length with h | h
      · exact h
      · rw [List.getElem?_eq_none h] at hx; cases hx
    have hlen : (xs.take k).length = k := by simp; omega
    refine yield_go h3 rfl c26_0as_c_code c26_0bd_c_code c26_0as_c_ok c26_0bd_c_ok ?_
    have hna : a < H.next := by omega
    have hn2 : ¬ a = H.next := by omega
    have hn3 : ¬ l = H.next := by omega
    have hn4 : ¬ l = H.next + 1 := by omega
    have hn5 : ¬ a = H.next + 1 := by omega
    have hOl : ∀ o, O = some o → ¬ o = l ∧ ¬ o = a := fun o e => by have := h6 o e; omega
    have hxc : isCell x = true := hcell x (List.mem_of_getElem? hx)
    simp [c26_0as_c, bindAll, h3]
    -- the body's heap: the loop is busy
    generalize hHb : upd H.get l (.loop env0 27 #[9] c26_0as c26_0bd .busy none m) = gb
    have hgb : ∀ y, y ≠ l → gb y = H.get y := fun y hy => by rw [← hHb]; simp [hy]
    have hgl : gb l = some (.loop env0 27 #[9] c26_0as c26_0bd .busy none m) := by rw [← hHb]; simp
    have hrow : Row 2 true ⟨H.next, gb⟩ sv (xs.take k) O := h5.same (fun o ho => hgb o (hOl o ho).1) (Nat.le_refl _)
    obtain ⟨H2, hap, hn, hget, hrow2, hkeep⟩ := row_append el32 hrow (by omega) hxc
    have hl2 : H2.get l = some (.loop env0 27 #[9] c26_0as c26_0bd .busy none m) := by rw [hkeep l (by simp; omega) (fun e => (hOl l e).1 rfl)]; exact hgl
    have ha2 : H2.get a = some (.cells [sv] 32 true 0) := by rw [hkeep a (by simp; omega) (fun e => (hOl a e).2 rfl)]; simp [hgb a hal, h4]
    simp only [hlen] at hap hrow2
    simp [c26_0bd_c, ha, hgb a hal, h4, hxc, hap, ha2, hal, hal.symm, hl2, Ex.isNormal, Ex.jump]
    have htk : xs.take (k + 1) = xs.take k ++ [x] := by rw [List.take_add_one, hx]; rfl
    simp at hn
    refine ⟨by omega, ?_, some (H.next + 1), ?_, fun o e => by cases e; omega⟩
    · intro y hy hya hyl
      simp [hyl, hya]
      rw [hkeep y (by simp; omega) (fun e => by have := h6 y e; omega)]
      simp [hgb y hyl, h2 y hy hya hyl]
    · rw [htk]
      refine hrow2.same (fun o e => ?_) (by simp)
      cases e
      simp [show ¬ H.next + 1 = a by omega, show ¬ H.next + 1 = l by omega]
  · refine ⟨Nat.le_refl _, fun _ _ _ _ => rfl, hloop, _, none, hbox, Row.nil, fun o h => by cases h⟩
  · rintro v H' ⟨rfl, h1, h2, h3, h4⟩
    exact ⟨rfl, h1, h2, h3, by simpa using h4⟩

theorem all1_run {H0 : AH} {O : Nat → Prop} {g : Value} {a0 : Option Addr} {xs : List Value} {b : Nat} {I : Nat → AH → (Nat → Prop) → Prop} {K : AH → (Nat → Prop) → Prop}
    (hc : Client cx g (fun k => #[i64 k, (xs[k]?).getD default]) xs.length I K) (hq : QV H0 (.pointer a0) xs) (hbl : b < H0.next) (hb : H0.get b = some (.cells [.pointer a0] 33 true 0)) (h0 : I 0 H0 O) :
    CallR cx 26 #[g, ptr b] H0 (fun v H' => v = .tuple #[] ∧ TellEnd xs.length I K H0 O H') := by
  have hsm := hq.small
  have hbn : ¬ b = H0.next := by omega
  have hlow := hc.low h0
  refine wk26 (by simp) ?_
  simp [c26, alloc32, hb, hbn]
  refine callV_R cb27 thingsC_run ?_
  rintro _ _ ⟨rfl, rfl⟩
  simp
  generalize henv : put (put (put (envOf #[g, ptr b]) 27 (some 3) (ptr H0.next)) 27 (some 7) (Value.pointer a0)) 27 (some 8) (Value.func (Fn.func 28) #[] #[ptr (H0.next + 1)]) = env1
  have e0 : env1 0 = g := by rw [← henv]; simp
  have e3 : env1 3 = ptr H0.next := by rw [← henv]; simp
  have e8 : env1 8 = .func (.func 28) #[] #[ptr (H0.next + 1)] := by rw [← henv]; simp
  refine range_go (f := 28) (fs := #[]) (cs := #[ptr (H0.next + 1)]) e8 (by kernel_rfl) (R := _) (gather (env0 := env1) (n0 := H0.next + 4) (a := H0.next) (l := H0.next + 3) (m := H0.next + 2) (b2 := H0.next + 1) (qv := .pointer a0) (xs := xs) ?_ ?_ ?_ ?_ ?_ ?_ ?_ ?_ ?_ ?_ ?_ ?_ ?_) ?_
  rotate_right 1
  · rintro v H3 ⟨rfl, hn3, hold, hl3, sv, O1, hbox, hrow, hO1⟩
    rw [show (⟨env1, ⟨H0.next + 1 + 1, upd (upd H0.get H0.next (ABlk.cells [Value.slice none 0 0] 32 true 0)) (H0.next + 1) (ABlk.cells [Value.pointer a0] 33 true 0)⟩, []⟩ : St).H.next + 1 = H0.next + 3 from rfl, hl3]
    simp
    refine ⟨.normal, rfl, ?_⟩
    obtain ⟨ra, hra, hra2⟩ := hrow.isSlice
    subst hra
    have hold' : ∀ x, x < H0.next → H3.get x = H0.get x := by
      intro x hx
      rw [hold x (by omega) (by omega) (by omega)]
      simp [show ¬ x = H0.next + 1 + 1 + 1 by omega, show ¬ x = H0.next + 1 + 1 by omega, show ¬ x = H0.next + 1 by omega, show ¬ x = H0.next by omega]
    have hmk : H3.get (H0.next + 2) = some .mark := by
      rw [hold _ (by omega) (by omega) (by omega)]; simp
    have hn3' : H0.next + 4 ≤ H3.next := hn3
    clear hold hn3
    simp [e0, e3, e8, hbox, show ¬ H0.next = H0.next + 3 by omega]
    generalize hHs : (⟨H3.next, YtfbepkamckpofaaA.del H3.get (H0.next + 3)⟩ : AH) = Hs
    have hnx : Hs.next = H3.next := by rw [← hHs]
    have hgs : ∀ x, x ≠ H0.next + 3 → Hs.get x = H3.get x := fun x hx => by rw [← hHs]; simp [hx]
    have hI0 : I 0 Hs O := hc.stable h0 (fun l hl => by have := hlow l hl; rw [hgs l (by omega), hold' l (by omega)]) (by omega)
    have hrow' : Row 2 true Hs (.slice ra xs.length xs.length) xs O1 := hrow.same (fun o ho => hgs o (by have := hO1 o ho; omega)) (by omega)
    have hmk' : Hs.get (H0.next + 2) = some .mark := by rw [hgs _ (by omega), hmk]
    have hold2 : ∀ x, x < H0.next → Hs.get x = H0.get x := fun x hx => by rw [hgs x (by omega), hold' x hx]
    clear hHs hgs
    -- the last step
    have fin : ∀ (H' : AH) (Ok : Nat → Prop) (p : AH → (Nat → Prop) → Prop), (∀ {H H' O}, p H O → (∀ l, O l → H'.get l = H.get l) → H.next ≤ H'.next → p H' O) → p H' Ok → (∀ l, Ok l → O l ∨ Hs.next ≤ l) → Keep O Hs H' →
        takeMarks [H0.next + 1 + 1] H' = some ⟨H'.next, YtfbepkamckpofaaA.del H'.get (H0.next + 2)⟩ ∧ (∀ l, Ok l → O l ∨ H0.next ≤ l) ∧ Keep O H0 ⟨H'.next, YtfbepkamckpofaaA.del H'.get (H0.next + 2)⟩ ∧ p ⟨H'.next, YtfbepkamckpofaaA.del H'.get (H0.next + 2)⟩ Ok := by
      intro H' Ok p hst hp hO hk
      have h1 : H'.get (H0.next + 2) = some .mark := by rw [hk.get (by omega) (fun h => by have := hlow _ h; omega), hmk']
      refine ⟨by simp [takeMarks, h1], fun l hl => (hO l hl).imp id (by omega), ⟨by have := hk.1; simp; omega, fun l hl hn => ?_⟩, hst hp (fun l hl => ?_) (Nat.le_refl _)⟩
      · simp [show ¬ l = H0.next + 2 by omega]
        rw [hk.get (by omega) hn, hold2 l hl]
      · have : ¬ l = H0.next + 2 := by
          rcases hO l hl with h | h
          · have := hlow _ h; omega
          · omega
        simp [this]
    refine aw_loop_to xs.length (fun k s => s.env 0 = g ∧ s.env 14 = .slice ra xs.length xs.length ∧ s.env 15 = i64 xs.length ∧ s.env 16 = i64 k ∧ s.ds = [H0.next + 1 + 1] ∧
      ∃ Ok, I k s.H Ok ∧ (∀ l, Ok l → O l ∨ Hs.next ≤ l) ∧ Keep O Hs s.H) ?_ ?_ ?_
    · rintro k ⟨env, H1, ds⟩ hk ⟨f0, f14, f15, f16, fds, Ok, hik, hok, hkeep⟩
      simp only at f0 f14 f15 f16 fds hik hkeep
      have hkN : (k : Int) < xs.length := by omega
      have h0k : (0 : Int) ≤ k := by omega
      obtain ⟨x, hx⟩ : ∃ x, xs[k]? = some x := ⟨xs[k], List.getElem?_eq_getElem (by omega)⟩
      have hw : IntKind.i64.wrap ((k : Int) + 1) = (k : Int) + 1 := wrap_small (by omega)
      cases O1 with
      | none => obtain ⟨_, rfl⟩ := hrow'; simp at hx
      | some o1 =>
      obtain ⟨o, cs, hsl, hcs, htk, hle, hlo⟩ := hrow'
      have hro : ra = some ⟨o1, o, none⟩ := by simpa using hsl
      subst hro
      have hcs1 : H1.get o1 = some (.cells cs 2 true 1) := by rw [hkeep.get hlo (fun h => by have := hlow _ h; have := hO1 o1 rfl; omega), hcs]
      have hcx : cs[o + k]? = some x := by rw [row_at htk hk, hx]
      simp [f0, f14, f15, f16, hkN, ix32 _ _ _ _ _ _ h0k hkN, hcs1, hcx]
      have hst := hc.step hk hik
      simp only [hx, Option.getD_some] at hst
      obtain ⟨v, H', hcall, O', hO', hk', hv⟩ := callV_of hst
      have hok' : ∀ l, O' l → O l ∨ Hs.next ≤ l := fun l hl => by
        rcases hO' l hl with h | h
        · exact hok l h
        · exact .inr (Nat.le_trans hkeep.1 h)
      have hkp : Keep O Hs H' := ⟨Nat.le_trans hkeep.1 hk'.1, fun l hl hn => by
        rw [hk'.get (Nat.lt_of_lt_of_le hl hkeep.1) (fun h => by rcases hok l h with h | h; exact hn h; omega), hkeep.get hl hn]⟩
      refine callV_G hcall ?_
      rcases hv with ⟨rfl, hv⟩ | ⟨rfl, hv⟩
      · simp [f0, f14, f15, f16, hw, fds]
        exact ⟨O', hv, hok', hkp⟩
      · obtain ⟨h1, h2, h3, h4⟩ := fin H' O' K hc.stableK hv hok' hkp
        simp [f0, f14, f15, f16, fds, h1]
        exact ⟨O', h2, h3, .inr h4⟩
    · rintro ⟨env, H1, ds⟩ ⟨f0, f14, f15, f16, fds, Ok, hik, hok, hkeep⟩
      simp only at f0 f14 f15 f16 fds hik hkeep
      obtain ⟨h1, h2, h3, h4⟩ := fin H1 Ok (I xs.length) hc.stable hik hok hkeep
      simp [f15, f16, fds, h1]
      exact ⟨Ok, h2, h3, .inl h4⟩
    · simp [e0]
      exact ⟨O, hI0, fun l hl => .inl hl, Keep.refl⟩
  all_goals try simp [show ¬ H0.next = H0.next + 1 + 1 + 1 by omega, show ¬ H0.next = H0.next + 1 + 1 by omega]
  all_goals try omega
  · intro H h1 h2
    refine hq.fresh ⟨by omega, fun l hl _ => ?_⟩
    rw [h1 l (by omega) (by omega) (by omega)]
    simp [show ¬ l = H0.next + 3 by omega, show ¬ l = H0.next + 2 by omega, show ¬ l = H0.next + 1 by omega, show ¬ l = H0.next by omega]
end Go.Proofs.Ytfbepkamckpofaa.C

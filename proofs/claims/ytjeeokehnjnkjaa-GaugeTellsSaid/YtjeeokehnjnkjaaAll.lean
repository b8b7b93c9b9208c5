/- Going through a gauge's askings, over the small heap: All, Last, Bools. Own text of this session. -/
import Derived.Test.YtjeeokehnjnkjaaGau
set_option linter.unusedVariables false
set_option linter.unusedSimpArgs false
set_option maxRecDepth 4000
set_option maxHeartbeats 4000000
namespace Go.Proofs.Ytjeeokehnjnkjaa.C
open Go Go.RowKit Go.Proofs.YtjeeokehnjnkjaaA
variable {H : AH}
theorem el22 : El Try.prog 22 4 := ⟨un22, by kernel_rfl, (Try.prog.info? 4).getD default, by kernel_rfl, by kernel_rfl, of_decide_eq_true (by kernel_rfl), by kernel_rfl⟩
/-- the last ones, as many as a width -/
def lastB (bs : List Bool) (w : Nat) : List Bool := bs.drop (bs.length - w)
theorem lastB_len (bs : List Bool) (w : Nat) : (lastB bs w).length = min bs.length w := by simp [lastB]; omega
theorem lastB_at (bs : List Bool) (w : Nat) {k : Nat} (hk : k < min bs.length w) : (lastB bs w)[k]? = some (bs.getD (bs.length - min bs.length w + k) false) := by
  have : bs.length - w + k = bs.length - min bs.length w + k := by omega
  rw [lastB, List.getElem?_drop, this, List.getD_eq_getElem?_getD, List.getElem?_eq_getElem (by omega)]
  rfl
abbrev bcells (xs : List Bool) : List Value := xs.map Value.bool
theorem all_run {H : AH} {a : Option Addr} : CallR cx 20 #[.pointer a] H (fun v H' => v = .func (.func 26) #[] #[ptr H.next] ∧ H' = ⟨H.next + 1, upd H.get H.next (.cells [.pointer a] 23 true 0)⟩) := by
  refine wk20 (by simp) ?_
  simp [c20, AH.new]
/-- All's function: the askings are put in a row, then told -/
theorem all1_run {H0 : AH} {O : Nat → Prop} {g : Value} {gq S W w b : Nat} {bs : List Bool} {I : Nat → AH → (Nat → Prop) → Prop} {K : AH → (Nat → Prop) → Prop}
    (hc : Client cx g (fun k => #[((bcells (lastB bs w))[k]?).getD default]) (min bs.length w) I K) (hG : IsG H0 gq S W w bs) (hbl : b < H0.next) (hb : H0.get b = some (.cells [ptr gq] 23 true 0)) (h0 : I 0 H0 O) :
    CallR cx 26 #[g, ptr b] H0 (fun v H' => v = .tuple #[] ∧ TellEnd (min bs.length w) I K H0 O H') := by
  have hlow := hc.low h0
  have hfew := hG.few
  obtain ⟨m, hm⟩ : ∃ m, m = min bs.length w := ⟨_, rfl⟩
  rw [← hm] at hc ⊢
  have hlen := lastB_len bs w
  have hat : ∀ k, k < m → (lastB bs w)[k]? = some (bs.getD (bs.length - m + k) false) := fun k hk => by rw [hm] at hk ⊢; exact lastB_at bs w hk
  rw [← hm] at hlen
  have hmb : m ≤ bs.length := by omega
  have hmw : m ≤ w := by omega
  generalize lastB bs w = xs at hc hlen hat
  refine wk26 (by simp) ?_
  unfold c26
  refine aw_cut (fun t => t.env 0 = g ∧ t.env 1 = ptr b ∧ t.env 3 = .slice none 0 0 ∧ t.ds = [] ∧ t.H = H0) (by simp) ?_
  rintro ⟨env, H', ds⟩ ⟨e0, e1, e3, eds, hH⟩
  simp only at e0 e1 e3 eds hH
  subst hH
  refine aw_cut (fun t => t.env 0 = g ∧ t.ds = [] ∧ Fresh H' t.H ∧ ∃ Or, Row 4 true t.H (t.env 3) (bcells xs) Or ∧ ∀ x, Or = some x → H'.next ≤ x) ?_ ?_
  · simp [e1, hb]
    refine callV_R cb8 (glen_run hG) ?_
    rintro _ H1 ⟨rfl, hH⟩
    subst hH
    rw [← hm]
    have hw0 : IntKind.i64.wrap ((m : Int) - 1) = (m : Int) - 1 := w64 (by omega)
    simp [hw0]
    refine aw_loop_to m (fun k t => t.env 0 = g ∧ t.env 1 = ptr b ∧ t.env 4 = i64 ((m : Int) - 1 - k) ∧ t.ds = [] ∧ Fresh H1 t.H ∧ ∃ Or, Row 4 true t.H (t.env 3) (bcells (xs.take k)) Or ∧ ∀ x, Or = some x → H1.next ≤ x) ?_ ?_ ?_
    · clear e0 e1 e3 eds
      rintro k ⟨env, H2, ds⟩ hk ⟨e0, e1, e4, eds, hf, O', hrow, hO⟩
      simp only at e0 e1 e4 eds hf hrow
      generalize e3 : env 3 = ov at hrow
      have hb2 : H2.get b = some (.cells [ptr gq] 23 true 0) := by rw [hf.get hbl, hb]
      obtain ⟨i, hi⟩ : ∃ i, i = m - 1 - k := ⟨_, rfl⟩
      have hii : (m : Int) - 1 - k = (i : Int) := by omega
      rw [hii] at e4
      have hi0 : (0 : Int) ≤ i := by omega
      have hw : IntKind.i64.wrap ((i : Int) - 1) = (m : Int) - 1 - ((k : Int) + 1) := by rw [w64 (by omega)]; omega
      simp [e0, e1, e3, e4, hb2]
      refine callV_R cb27 (back_run (hG.fresh hf) (i := i) (by omega) (by omega)) ?_
      rintro _ H3 ⟨rfl, hH⟩
      subst hH
      have hx := hat k hk
      have hbi : bs.length - 1 - i = bs.length - m + k := by omega
      rw [hbi]
      generalize bs.getD (bs.length - m + k) false = x at hx
      have hel : (bcells (xs.take k)).length = k := by simp; omega
      obtain ⟨H4, hap, hnx, hget, hrow4, hkp⟩ := row_append el22 hrow (by rw [hel]; omega) (v := .bool x) rfl
      have hOlow : ∀ z, O' = some z → z < H3.next := fun z e => by subst e; exact hrow.low
      rw [hel] at hap hrow4
      simp [e0, e1, e3, e4, hap, hw, eds]
      refine ⟨⟨by have := hf.1; omega, fun z hz _ => by rw [hkp z (by have := hf.1; omega) (fun e => by have := hO z e; omega), hf.get hz]⟩, some (H3.next + 1), ?_, ?_⟩
      · have : bcells (xs.take (k + 1)) = bcells (xs.take k) ++ [.bool x] := by
          rw [List.take_add_one, hx, Option.toList, bcells, List.map_append]; rfl
        have h5 := hrow4
        rw [← this] at h5
        simpa [bcells] using h5
      · intro z e; cases e; have := hf.1; omega
    · clear e0 e1 e3 eds
      rintro ⟨env, H2, ds⟩ ⟨e0, e1, e4, eds, hf, O', hrow, hO⟩
      simp only at e0 e1 e4 eds hf hrow
      have hneg : (m : Int) - 1 - (m : Int) = -1 := by omega
      rw [hneg] at e4
      rw [List.take_of_length_le (by omega)] at hrow
      simp [e0, e4, eds, hf]
      exact ⟨O', hrow, hO⟩
    · simp [e0, e1, e3, eds, Fresh.refl]
      exact ⟨none, Row.nil, by simp⟩
  clear e0 e1 e3 eds
  rintro ⟨env, Hs, ds⟩ ⟨e0, eds, hf, Or, hrow, hO⟩
  simp only at e0 eds hf hrow
  generalize e3 : env 3 = ov at hrow
  have hI0 : I 0 Hs O := hc.stable h0 (fun l hl => by rw [hf.get (hlow l hl)]) hf.1
  obtain ⟨ra, rfl, _⟩ := hrow.isSlice
  simp only [List.length_map, hlen] at e3 hrow
  -- the last step
  have fin : ∀ (H2 : AH) (Ok : Nat → Prop), (∀ l, Ok l → O l ∨ Hs.next ≤ l) → Keep O Hs H2 → (∀ l, Ok l → O l ∨ H'.next ≤ l) ∧ Keep O H' H2 := by
    intro H2 Ok hO hk
    refine ⟨fun l hl => (hO l hl).imp id (by have := hf.1; omega), ⟨by have := hk.1; have := hf.1; omega, fun l hl hn => ?_⟩⟩
    rw [hk.get (by have := hf.1; omega) hn, hf.get hl]
  simp [e3]
  refine aw_loop_to m (fun k s => s.env 0 = g ∧ s.env 20 = .slice ra m m ∧ s.env 21 = i64 m ∧ s.env 22 = i64 k ∧ s.ds = [] ∧ ∃ Ok, I k s.H Ok ∧ (∀ l, Ok l → O l ∨ Hs.next ≤ l) ∧ Keep O Hs s.H) ?_ ?_ ?_
  · clear e0 e3 eds
    rintro k ⟨env, H1, ds⟩ hk ⟨f0, f20, f21, f22, fds, Ok, hik, hok, hkeep⟩
    simp only at f0 f20 f21 f22 fds hik hkeep
    have hkN : (k : Int) < m := by omega
    have hw : IntKind.i64.wrap ((k : Int) + 1) = (k : Int) + 1 := w64 (by omega)
    have hx := hat k hk
    generalize bs.getD (bs.length - m + k) false = x at hx
    have hxc : (bcells xs)[k]? = some (.bool x) := by simp [hx]
    have hr1 : Row 4 true H1 (.slice ra m m) (bcells xs) Or := hrow.keep hkeep (fun l e h => by have := hlow _ h; have := hO l e; omega)
    obtain ⟨la, oa, ca, rfl, g1, g2, _⟩ := hr1.cell hxc
    have hix := ix22 la oa m m .i64 (k : Int) (by omega) hkN
    rw [Int.toNat_natCast] at hix
    simp [f0, f20, f21, f22, hk, hix, g1, g2]
    have hst := hc.step hk hik
    simp only [hxc, Option.getD_some] at hst
    obtain ⟨v, H2, hcall, O', hO', hk', hv⟩ := callV_of hst
    have hok' : ∀ l, O' l → O l ∨ Hs.next ≤ l := fun l hl => by
      rcases hO' l hl with h | h
      · exact hok l h
      · exact .inr (Nat.le_trans hkeep.1 h)
    have hkp : Keep O Hs H2 := ⟨Nat.le_trans hkeep.1 hk'.1, fun l hl hn => by
      rw [hk'.get (Nat.lt_of_lt_of_le hl hkeep.1) (fun h => by rcases hok l h with h | h; exact hn h; omega), hkeep.get hl hn]⟩
    refine callV_G hcall ?_
    rcases hv with ⟨rfl, hv⟩ | ⟨rfl, hv⟩
    · simp [f0, f20, f21, f22, hw, fds]
      exact ⟨O', hv, hok', hkp⟩
    · obtain ⟨h1, h2⟩ := fin H2 O' hok' hkp
      simp [f0, f20, f21, f22, fds]
      exact ⟨O', h1, h2, .inr hv⟩
  · clear e0 e3 eds
    rintro ⟨env, H1, ds⟩ ⟨f0, f20, f21, f22, fds, Ok, hik, hok, hkeep⟩
    simp only at f0 f20 f21 f22 fds hik hkeep
    obtain ⟨h1, h2⟩ := fin H1 Ok hok hkeep
    simp [f21, f22, fds]
    exact ⟨Ok, h1, h2, .inl hik⟩
  · simp [e0, eds]
    exact ⟨O, hI0, fun l hl => .inl hl, Keep.refl⟩
/-- ref.Last -/
theorem last_run {wr : Bool} {sv : Value} {bs : List Bool} {Or : Option Nat} {w : Nat} (h : Row 4 wr H sv (bcells bs) Or) (hl : bs.length < 1000000) (hw : w ≤ 1000000) : CallR cx 13 #[sv, i64 w] H (fun v H' => H' = H ∧ ∃ Or', Row 4 wr H v (bcells (lastB bs w)) Or' ∧ (∀ x, Or' = some x → Or = some x)) := by
  obtain ⟨ra, rfl, _⟩ := h.isSlice
  simp only [List.length_map] at h ⊢
  refine wk13 (by simp) ?_
  by_cases hlt : w < bs.length
  · have hltI : (w : Int) < bs.length := by omega
    obtain ⟨d, hd⟩ : ∃ d, d = bs.length - w := ⟨_, rfl⟩
    have hwd : IntKind.i64.wrap ((bs.length : Int) - (w : Int)) = (d : Int) := by rw [w64 (by omega)]; omega
    obtain ⟨sv', hsl, hrow'⟩ := row_part el22 h (lo := some (i64 (d : Int))) (hi := none) (a := d) (b := bs.length) (by simp [bnd]) (by simp [bnd]; omega) (by omega) (by simp)
    have hdr : ((bcells bs).take bs.length).drop d = bcells (lastB bs w) := by rw [List.take_of_length_le (by simp), hd, lastB, bcells, bcells, List.map_drop]
    rw [hdr] at hrow'
    simp [c13, hlt, hwd, hsl]
    exact ⟨_, hrow', fun x h => h⟩
  · have hltI : ¬ (w : Int) < bs.length := by omega
    have e : lastB bs w = bs := by rw [lastB, Nat.sub_eq_zero_of_le (by omega)]; rfl
    simp [c13, hlt, e]
    exact ⟨Or, h, fun x h => h⟩
/-- Bools -/
theorem bools_run {wa wb : Bool} {sa sb : Value} {xs ys : List Bool} {Oa Ob : Option Nat} (ha : Row 4 wa H sa (bcells xs) Oa) (hb : Row 4 wb H sb (bcells ys) Ob) (hl : xs.length < 1000000000) : CallR cx 19 #[sa, sb] H (fun v H' => v = .bool (decide (xs = ys)) ∧ H' = H) := by
  obtain ⟨ra, rfl, _⟩ := ha.isSlice
  obtain ⟨rb, rfl, _⟩ := hb.isSlice
  simp only [List.length_map] at ha hb ⊢
  refine wk19 (by simp) ?_
  by_cases hlen : xs.length = ys.length
  case neg =>
    have : ¬ xs = ys := fun e => hlen (by rw [e])
    have h1 : ¬ (xs.length : Int) = ys.length := by omega
    simp [c19, h1, this]
  have h1 : (xs.length : Int) = ys.length := by omega
  simp [c19, h1]
  rw [← hlen]
  refine aw_loop_to xs.length (fun k t => t.env 0 = .slice ra xs.length xs.length ∧ t.env 1 = .slice rb xs.length xs.length ∧ t.env 5 = i64 (k : Nat) ∧ t.ds = [] ∧ t.H = H ∧ xs.take k = ys.take k) ?_ ?_ ?_
  · rintro k ⟨env, H1, ds⟩ hk ⟨e0, e1, e5, eds, rfl, htk⟩
    simp only at e0 e1 e5 eds
    have hk' : k < ys.length := by omega
    have hkN : (k : Int) < xs.length := by omega
    have h0k : (0 : Int) ≤ k := by omega
    have hw : IntKind.i64.wrap ((k : Int) + 1) = ((k + 1 : Nat) : Int) := by rw [w64 (by omega)]; push_cast; rfl
    rw [← hlen] at hb
    obtain ⟨la, oa, ca, rfl, g1, g2, _⟩ := ha.cell (i := k) (x := .bool xs[k]) (by simp [hk])
    obtain ⟨lb, ob, cb, rfl, g3, g4, _⟩ := hb.cell (i := k) (x := .bool ys[k]) (by simp [hk'])
    simp only at g1 g3
    have e1' : xs.take (k + 1) = xs.take k ++ [xs[k]] := by rw [List.take_add_one, List.getElem?_eq_getElem hk]; rfl
    have e2' : ys.take (k + 1) = ys.take k ++ [ys[k]] := by rw [List.take_add_one, List.getElem?_eq_getElem hk']; rfl
    by_cases heq : xs[k] = ys[k]
    · simp [e0, e1, e5, hk, ix22 _ _ _ _ _ _ h0k hkN, g1, g2, g3, g4, heq, hw, eds]
      rw [e1', e2', htk, heq]
    · have hne : ¬ xs = ys := fun e => heq (by subst e; rfl)
      have hbe : (xs[k] == ys[k]) = false := by simpa using heq
      simp [e0, e1, e5, hk, ix22 _ _ _ _ _ _ h0k hkN, g1, g2, g3, g4, heq, hbe, hne, eds]
  · rintro ⟨env, H1, ds⟩ ⟨e0, e1, e5, eds, rfl, htk⟩
    simp only at e0 e1 e5 eds
    rw [List.take_length, hlen, List.take_length] at htk
    simp [e0, e5, eds, htk]
  · simp [hlen]
end Go.Proofs.Ytjeeokehnjnkjaa.C

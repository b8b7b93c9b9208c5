/- The document's guess. Own text of this session. -/
import Derived.Test.YtpimepdlbhejhaaDoorGsA
set_option linter.unusedVariables false
set_option linter.unusedSimpArgs false
set_option maxRecDepth 4000
set_option maxHeartbeats 8000000
namespace Go.Proofs.YtpimepdlbhejhaaDoor.C
open Go Go.RowKit Go.Proofs.YtpimepdlbhejhaaDoorA Go.Proofs.YtpimepdlbhejhaaDoor.Plain
variable {H : AH}
theorem eqErr (s : List UInt8) (ox oy : Operand) : aBin Tryd.prog .eql 9 ox oy (.string (str s)) (.string ⟨#[101, 114, 114, 111, 114]⟩) = some (.bool (decide (s = errW))) := aBin_streqL ox oy un9 s errW
def GuessR (k : Int) (s : List UInt8) (H : AH) (v : Value) : Prop := ∃ hit val gone err, Ans H v hit val gone err ∧ Small64 gone ∧ I64 err ∧ val.length ≤ 100000 ∧ gone.length ≤ 100000 ∧ ∀ h2 v2 g2 e2, Good k s h2 v2 g2 e2 → h2 = hit ∧ v2 = val ∧ g2 = gone ∧ e2 = err
theorem two_len {s w0 w1 : List UInt8} (h : splitL 32 s = [w0, w1]) : w1.length ≤ s.length := splitL_short 32 s w1 (by rw [h]; simp)
theorem goodGet2 {s : List UInt8} {h2 : Bool} {v2 : List UInt8} {g2 : List Nat} (h : Good 1 s h2 v2 g2 0) {w0 w1 : List UInt8} (hw : splitL 32 s = [w0, w1]) : h2 = true ∧ g2 = [] ∧ w1 = hex v2 := by
  obtain ⟨⟨_, _, h3⟩, _, h4⟩ := h
  rw [if_neg (by simp), if_pos rfl] at h3
  rw [lineOf, if_neg (by simp), if_pos rfl] at h4
  subst h4
  unfold getLine at hw
  cases h2 with
  | false => rw [if_neg (by simp), one_word (by decide)] at hw; cases hw
  | true =>
    rw [if_pos rfl] at hw
    by_cases hv : v2 = []
    · rw [if_pos hv, one_word (by decide)] at hw; cases hw
    · rw [if_neg hv, hit_words] at hw
      cases hw
      exact ⟨rfl, h3.1, rfl⟩
theorem goodGet1 {s : List UInt8} {h2 : Bool} {v2 : List UInt8} {g2 : List Nat} (h : Good 1 s h2 v2 g2 0) {w0 : List UInt8} {tl : List (List UInt8)} (hw : splitL 32 s = w0 :: tl) (hl : tl.length ≠ 1) : h2 = decide (s = hitW) ∧ v2 = [] ∧ g2 = [] := by
  obtain ⟨⟨_, _, h3⟩, _, h4⟩ := h
  rw [if_neg (by simp), if_pos rfl] at h3
  rw [lineOf, if_neg (by simp), if_pos rfl] at h4
  subst h4
  unfold getLine at hw ⊢
  cases h2 with
  | false => exact ⟨by simp [missW, hitW], h3.2.resolve_left (by simp), h3.1⟩
  | true =>
    rw [if_pos rfl] at hw ⊢
    by_cases hv : v2 = []
    · rw [if_pos hv]; exact ⟨by simp, hv, h3.1⟩
    · rw [if_neg hv, hit_words] at hw
      cases hw
      exact absurd rfl hl
theorem goodDel {s : List UInt8} {h2 : Bool} {v2 : List UInt8} {g2 : List Nat} (h : Good 3 s h2 v2 g2 0) : h2 = decide (s = okW) ∧ v2 = [] ∧ g2 = [] := by
  obtain ⟨⟨_, _, h3⟩, _, h4⟩ := h
  rw [if_neg (by simp), if_neg (by decide), if_pos rfl] at h3
  rw [lineOf, if_neg (by simp), if_neg (by decide), if_neg (by decide)] at h4
  subst h4
  cases h2 with
  | false => exact ⟨by simp [noneW, okW], h3.2, h3.1⟩
  | true => exact ⟨by simp, h3.2, h3.1⟩
theorem goodKeys {k : Int} {s : List UInt8} {h2 : Bool} {v2 : List UInt8} {g2 : List Nat} (h : Good k s h2 v2 g2 0) (h1 : k ≠ 1) (h3 : k ≠ 3) {w0 : List UInt8} {tl : List (List UInt8)} (hw : splitL 32 s = w0 :: tl) : h2 = false ∧ v2 = [] ∧ tl.all okN = true ∧ tl.map rdN = g2 := by
  obtain ⟨⟨hk, _, hm⟩, hz, h4⟩ := h
  rw [if_neg (by simp), if_neg h1, if_neg h3] at hm
  rw [lineOf, if_neg (by simp), if_neg h1, if_pos (by omega)] at h4
  subst h4
  rw [keys_words] at hw
  cases hw
  refine ⟨hm.1, hm.2, ?_, ?_⟩
  · rw [List.all_eq_true]
    intro x hx
    obtain ⟨n, hn, rfl⟩ := List.mem_map.1 hx
    exact (is_rd (l := dec n) (n := n) ⟨hz n hn, rfl⟩).1
  · rw [List.map_map]
    conv => rhs; rw [← List.map_id g2]
    refine List.map_congr_left fun n hn => ?_
    exact (is_rd (l := dec n) (n := n) ⟨hz n hn, rfl⟩).2
theorem guess_run {k : Int} {s : List UInt8} (hs : s.length < 90000) : CallR cx 28 #[i64 k, .string (str s)] H (fun v H' => Fresh H H' ∧ GuessR k s H' v) := by
  obtain ⟨w0, tl, hw⟩ := words_cons s
  have hwl := splitL_le 32 s
  rw [hw, List.length_cons] at hwl
  refine wk28 (by simp) ?_
  unfold c28
  refine aw_cut (fun t => t.env 0 = i64 k ∧ t.env 1 = .string (str s) ∧ t.env 4 = ptr H.next ∧ t.ds = [] ∧ t.H = ⟨H.next + 1, upd H.get H.next (ansB false nilS nilS 0)⟩) (by simp [alloc27]) ?_
  rintro ⟨env, H1, ds⟩ ⟨e0, e1, e4, eds, hH⟩
  simp only at e0 e1 e4 eds hH
  have f1 : Fresh H H1 := by rw [hH]; exact Fresh.ofNew
  have r1 : H1.get H.next = some (ansB false nilS nilS 0) := by rw [hH]; simp
  have l1 : H.next < H1.next := by rw [hH]; simp
  clear hH
  have hwords := rwords_run (H := H1) (s := s) (by omega)
  rw [hw] at hwords
  refine aw_cut (fun t => t.env 0 = i64 k ∧ t.env 1 = .string (str s) ∧ t.env 4 = ptr H.next ∧ t.ds = [] ∧ Fresh H1 t.H ∧ ∃ O, Row 9 true t.H (t.env 5) (strs (w0 :: tl)) O) ?_ ?_
  · simp [e1]
    refine callV_R cb42 hwords ?_
    rintro v H2 ⟨f2, O, h2, _⟩
    simp [e0, e1, e4, eds, f2]
    exact ⟨O, h2⟩
  clear e0 e1 e4 eds hwords
  rintro ⟨env, H2, ds⟩ ⟨e0, e1, e4, eds, f2, O, hrow⟩
  simp only at e0 e1 e4 eds f2 hrow
  generalize e5 : env 5 = wv at hrow
  obtain ⟨ra, rfl, _⟩ := hrow.isSlice
  simp only [strs_length, List.length_cons] at e5 hrow
  have l2 : H.next < H2.next := Nat.lt_of_lt_of_le l1 f2.1
  have r2 : H2.get H.next = some (ansB false nilS nilS 0) := by rw [f2.get l1, r1]
  have fin : ∀ {H3 : AH} (b : Bool) (sv gv : Value) (e : Int), Fresh H2 H3 → isCell sv = true → isCell gv = true → aStore Tryd.prog 27 (ptr H.next) (ansV b sv gv e) H3 = some ⟨H3.next, upd H3.get H.next (ansB b sv gv e)⟩ ∧ aLoad Tryd.prog 27 (ptr H.next) ⟨H3.next, upd H3.get H.next (ansB b sv gv e)⟩ = some (ansV b sv gv e) ∧ Fresh H ⟨H3.next, upd H3.get H.next (ansB b sv gv e)⟩ ∧ H3.get H.next = some (ansB false nilS nilS 0) := by
    intro H3 b sv gv e f hc hg
    have r3 : H3.get H.next = some (ansB false nilS nilS 0) := by rw [f.get l2, r2]
    exact ⟨st27b r3 hc hg, ld27b (by simp), fresh_upd' (f1.trans (f2.trans f)) (Nat.le_refl _), r3⟩
  have hc0 : (strs (w0 :: tl))[0]? = some (.string (str w0)) := rfl
  obtain ⟨la, oa, ca, hra, g1, g2, _⟩ := hrow.cell hc0
  have hix := ix60 la oa (tl.length + 1) (tl.length + 1) .i64 0 (by omega) (by omega)
  simp at g2
  by_cases hA : w0 = errW ∧ tl.length = 1
  · obtain ⟨rfl, h1⟩ := hA
    obtain ⟨w1, rfl⟩ : ∃ w1, tl = [w1] := by
      match tl, h1 with
      | [w1], _ => exact ⟨w1, rfl⟩
    have hc1 : (strs [errW, w1])[1]? = some (.string (str w1)) := rfl
    obtain ⟨lb, ob, cb, hrb, g3, g4, _⟩ := hrow.cell hc1
    rw [hra] at hrb
    cases hrb
    rw [g1] at g3
    cases g3
    have hixb := ix60 la oa 2 2 .i64 1 (by omega) (by omega)
    have hw1 := two_len hw
    simp only [List.length_cons, List.length_nil, Nat.zero_add, Nat.reduceAdd] at e5 hix
    have hee : errW = [101, 114, 114, 111, 114] := rfl
    simp [e4, e5, hra, hix, hixb, g1, g2, g4, hee]
    refine callV_R cb43 (rreadInt_run (l := w1)) ?_
    rintro v H3 ⟨f3, hv⟩
    rcases hv with ⟨i, hi, rfl⟩ | ⟨hno, rfl⟩
    · obtain ⟨a1, a2, a3, r3⟩ := fin false nilS nilS i f3 rfl rfl
      simp [e4, build27e, a1, a2, eds, -aBuild, -ld27, -st27]
      refine ⟨a3, false, [], [], i, ⟨nilS, nilS, none, none, rfl, rows0 _, rowg0 _⟩, (fun n hn => by cases hn), hi.1, by simp, by simp, fun h2 v2 g2 e2 hG => ?_⟩
      obtain ⟨b1, b2, b3, b4⟩ := goodA hG hw
      exact ⟨b1, b2, b3, isI_uniq b4 hi⟩
    · obtain ⟨a1, a2, a3, r3⟩ := fin false nilS nilS 0 f3 rfl rfl
      simp [e4, build27e, a1, a2, eds, -aBuild, -ld27, -st27]
      refine ⟨a3, false, [], [], 0, ⟨nilS, nilS, none, none, rfl, rows0 _, rowg0 _⟩, (fun n hn => by cases hn), by unfold I64; omega, by simp, by simp, fun h2 v2 g2 e2 hG => ?_⟩
      obtain ⟨b1, b2, b3, b4⟩ := goodA hG hw
      exact absurd b4 (hno _)
  refine aw_cut (fun t => t.env 0 = i64 k ∧ t.env 1 = .string (str s) ∧ t.env 4 = ptr H.next ∧ t.env 5 = .slice ra (tl.length + 1) (tl.length + 1) ∧ t.ds = [] ∧ t.H = H2) ?_ ?_
  · by_cases hE : w0 = errW
    · have h1 : ¬ tl.length = 1 := fun h => hA ⟨hE, h⟩
      have h1i : ¬ ((tl.length : Int) + 1 = 2) := by omega
      have hE' : w0 = [101, 114, 114, 111, 114] := hE
      simp [e0, e1, e4, e5, hra, hix, g1, g2, hE', h1, h1i, eds]
    · have hE' : ¬ w0 = [101, 114, 114, 111, 114] := hE
      simp [e0, e1, e4, e5, hra, hix, g1, g2, hE', eds]
  clear e0 e1 e4 e5 eds
  rintro ⟨env, H3, ds⟩ ⟨e0, e1, e4, e5, eds, hH⟩
  simp only at e0 e1 e4 e5 eds hH
  subst hH
  have hB := fun {h2 : Bool} {v2 : List UInt8} {g2 : List Nat} {e2 : Int} (hG : Good k s h2 v2 g2 e2) => goodB hG hw hA
  by_cases hk1 : k = 1
  · subst hk1
    by_cases h1 : tl.length = 1
    · obtain ⟨w1, rfl⟩ : ∃ w1, tl = [w1] := by
        match tl, h1 with
        | [w1], _ => exact ⟨w1, rfl⟩
      have hc1 : (strs [w0, w1])[1]? = some (.string (str w1)) := rfl
      obtain ⟨lb, ob, cb, hrb, g3, g4, _⟩ := hrow.cell hc1
      rw [hra] at hrb
      cases hrb
      rw [g1] at g3
      cases g3
      have hixb := ix60 la oa 2 2 .i64 1 (by omega) (by omega)
      have hw1 := two_len hw
      simp only [List.length_cons, List.length_nil, Nat.zero_add, Nat.reduceAdd] at e5 hix
      simp [e0, e4, e5, hra, hixb, g1, g4]
      refine callV_R cb44 (rreadHex_run (s := w1) (by omega)) ?_
      rintro v H4 ⟨f4, hv⟩
      rcases hv with ⟨l, sv, Ov, hl, rfl, hrow4, _⟩ | ⟨hno, rfl⟩
      · obtain ⟨a, rfl, _⟩ := hrow4.isSlice
        simp only [List.length_map] at hrow4 ⊢
        obtain ⟨a1, a2, a3, r3⟩ := fin true (.slice a l.length l.length) nilS 0 f4 rfl rfl
        have hll : l.length ≤ 100000 := by have := hex_len l; rw [← hl] at this; omega
        simp [e4, build27v, a1, a2, eds, -aBuild, -ld27, -st27]
        refine ⟨a3, true, l, [], 0, ⟨_, nilS, Ov, none, rfl, row_upd hrow4 r3, rowg0 _⟩, (fun n hn => by cases hn), by unfold I64; omega, hll, by simp, fun h2 v2 g2 e2 hG => ?_⟩
        obtain rfl := hB hG
        obtain ⟨b1, b2, b3⟩ := goodGet2 hG hw
        exact ⟨b1, hex_inj (b3.symm.trans hl), b2, rfl⟩
      · obtain ⟨a1, a2, a3, r3⟩ := fin true nilS nilS 0 f4 rfl rfl
        simp [e4, build27v, a1, a2, eds, -aBuild, -ld27, -st27]
        refine ⟨a3, true, [], [], 0, ⟨nilS, nilS, none, none, rfl, rows0 _, rowg0 _⟩, (fun n hn => by cases hn), by unfold I64; omega, by simp, by simp, fun h2 v2 g2 e2 hG => ?_⟩
        obtain rfl := hB hG
        obtain ⟨b1, b2, b3⟩ := goodGet2 hG hw
        exact absurd b3 (hno _)
    · have h1i : ¬ ((tl.length : Int) + 1 = 2) := by omega
      obtain ⟨a1, a2, a3, r3⟩ := fin (decide (s = hitW)) nilS nilS 0 Fresh.refl rfl rfl
      have hh : hitW = [104, 105, 116] := rfl
      rw [hh] at a1 a2 a3
      simp [e0, e1, e4, e5, h1, h1i, build27h, a1, a2, eds, -aBuild, -ld27, -st27]
      refine ⟨a3, decide (s = hitW), [], [], 0, ⟨nilS, nilS, none, none, rfl, rows0 _, rowg0 _⟩, (fun n hn => by cases hn), by unfold I64; omega, by simp, by simp, fun h2 v2 g2 e2 hG => ?_⟩
      obtain rfl := hB hG
      obtain ⟨b1, b2, b3⟩ := goodGet1 hG hw h1
      exact ⟨b1, b2, b3, rfl⟩
  by_cases hk3 : k = 3
  · subst hk3
    obtain ⟨a1, a2, a3, r3⟩ := fin (decide (s = okW)) nilS nilS 0 Fresh.refl rfl rfl
    have hh : okW = [111, 107] := rfl
    rw [hh] at a1 a2 a3
    simp [e0, e1, e4, e5, build27h, a1, a2, eds, -aBuild, -ld27, -st27]
    refine ⟨a3, decide (s = okW), [], [], 0, ⟨nilS, nilS, none, none, rfl, rows0 _, rowg0 _⟩, (fun n hn => by cases hn), by unfold I64; omega, by simp, by simp, fun h2 v2 g2 e2 hG => ?_⟩
    obtain rfl := hB hG
    obtain ⟨b1, b2, b3⟩ := goodDel hG
    exact ⟨b1, b2, b3, rfl⟩
  refine aw_cut (fun t => t.env 4 = ptr H.next ∧ t.env 5 = .slice ra (tl.length + 1) (tl.length + 1) ∧ t.ds = [] ∧ t.H = H3) (by simp [e0, e1, e4, e5, hk1, hk3, eds]) ?_
  clear e0 e1 e4 e5 eds
  rintro ⟨env, H4, ds⟩ ⟨e4, e5, eds, hH⟩
  simp only at e4 e5 eds hH
  subst hH
  obtain ⟨sp, hsp, hrowt⟩ := row_part el60' hrow (lo := some (i64 1)) (hi := none) (a := 1) (b := tl.length + 1) (by simp [bnd]) (by simp [bnd]; omega) (by omega) (by simp)
  have htl : ((strs (w0 :: tl)).take (tl.length + 1)).drop 1 = strs tl := by
    rw [List.take_of_length_le (by simp)]
    rfl
  rw [htl] at hrowt
  simp [e5, hsp]
  refine callV_R cb45 (numbers_run hrowt (by omega)) ?_
  rintro v H5 ⟨f5, gv, Og, b, rfl, hrow5⟩
  obtain ⟨a, rfl, _⟩ := hrow5.isSlice
  obtain ⟨a1, a2, a3, r3⟩ := fin false nilS (.slice a (gcells (if tl.all okN = true then tl.map rdN else [])).length (gcells (if tl.all okN = true then tl.map rdN else [])).length) 0 f5 rfl rfl
  have hGood : ∀ h2 v2 g2 e2, Good k s h2 v2 g2 e2 → h2 = false ∧ v2 = [] ∧ g2 = (if tl.all okN = true then tl.map rdN else []) ∧ e2 = 0 := by
    intro h2 v2 g2 e2 hG
    obtain rfl := hB hG
    obtain ⟨b1, b2, b3, b4⟩ := goodKeys hG hk1 hk3 hw
    rw [if_pos b3]
    exact ⟨b1, b2, b4.symm, rfl⟩
  have hsm : Small64 (if tl.all okN = true then tl.map rdN else []) := by
    split
    · intro n hn
      obtain ⟨x, _, rfl⟩ := List.mem_map.1 hn
      exact rdN_lt x
    · intro n hn; cases hn
  have hle : (if tl.all okN = true then tl.map rdN else []).length ≤ 100000 := by
    split
    · simp; omega
    · simp
  generalize (if tl.all okN = true then tl.map rdN else []) = g at *
  have hru := row_upd (blk := ansB false nilS (.slice a (gcells g).length (gcells g).length) 0) hrow5 r3
  generalize (gcells g).length = nn at *
  simp [e4, build27g, a1, a2, eds, -aBuild, -ld27, -st27]
  exact ⟨a3, false, [], g, 0, ⟨nilS, _, none, Og, rfl, rows0 _, hru⟩, hsm, by unfold I64; omega, by simp, hle, hGood⟩
end Go.Proofs.YtpimepdlbhejhaaDoor.C

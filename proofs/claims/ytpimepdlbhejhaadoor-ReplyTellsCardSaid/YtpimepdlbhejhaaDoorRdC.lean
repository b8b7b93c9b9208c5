/- Answers read of a line: of what is evicted; and Read. Own text of this session. -/
import Derived.Test.YtpimepdlbhejhaaDoorRdB
set_option linter.unusedVariables false
set_option linter.unusedSimpArgs false
set_option maxRecDepth 4000
set_option maxHeartbeats 8000000
namespace Go.Proofs.YtpimepdlbhejhaaDoor.C
open Go Go.RowKit Go.Proofs.YtpimepdlbhejhaaDoorA Go.Proofs.YtpimepdlbhejhaaDoor.Plain
variable {H : AH}
theorem dec_plain (n : Nat) : (32 : UInt8) ∉ dec n := fun h => by
  have := dec_isD n _ h
  simp [isD] at this
open Classical in
noncomputable def rdN (l : List UInt8) : Nat := if h : ∃ n, Is l n then h.choose else 0
open Classical in
noncomputable def okN (l : List UInt8) : Bool := decide (∃ n, Is l n)
theorem okN_is {l : List UInt8} (h : okN l = true) : Is l (rdN l) := by
  have h1 : ∃ n, Is l n := by simpa [okN] using h
  unfold rdN
  rw [dif_pos h1]
  exact h1.choose_spec
theorem is_rd {l : List UInt8} {n : Nat} (h : Is l n) : okN l = true ∧ rdN l = n := by
  have h1 : okN l = true := by simp only [okN, decide_eq_true_eq]; exact ⟨n, h⟩
  exact ⟨h1, (okN_is h1).uniq h⟩
theorem rdN_lt (l : List UInt8) : rdN l < 18446744073709551616 := by
  unfold rdN
  split
  · rename_i h; have := h.choose_spec.1; omega
  · decide
theorem toldN {l : List UInt8} {v : Value} (h : (∃ n, Is l n ∧ v = .tuple #[.int .u64 n, .bool true]) ∨ ((∀ n, ¬ Is l n) ∧ v = .tuple #[.int .u64 0, .bool false])) : v = .tuple #[u64 (rdN l : Nat), .bool (okN l)] := by
  rcases h with ⟨n, hn, rfl⟩ | ⟨hn, rfl⟩
  · obtain ⟨h1, h2⟩ := is_rd hn
    rw [h1, h2]
  · have h1 : ¬ ∃ n, Is l n := fun ⟨n, h⟩ => hn n h
    have h2 : okN l = false := by simp only [okN, decide_eq_false_iff_not]; exact h1
    have h3 : rdN l = 0 := by unfold rdN; rw [dif_neg h1]
    rw [h2, h3]
    rfl
abbrev gcells (g : List Nat) : List Value := g.map fun (n : Nat) => u64 (n : Int)
def Small64 (g : List Nat) : Prop := ∀ n ∈ g, n < 18446744073709551616
def keysLine (g : List Nat) : List UInt8 := Lib.join (okW :: g.map dec) [32]
theorem keys_words {g : List Nat} : splitL 32 (keysLine g) = okW :: g.map dec := by
  refine splitL_join (by simp) ?_
  intro x hx
  rcases List.mem_cons.1 hx with rfl | hx
  · decide
  · obtain ⟨n, _, rfl⟩ := List.mem_map.1 hx
    exact dec_plain n
/-- the words behind the first one, all numbers: the line is theirs -/
theorem keys_line {s : List UInt8} {tl : List (List UInt8)} (h : splitL 32 s = okW :: tl) (hall : ∀ x ∈ tl, okN x = true) : s = keysLine (tl.map rdN) := by
  have h1 : (tl.map rdN).map dec = tl := by
    rw [List.map_map]
    conv => rhs; rw [← List.map_id tl]
    refine List.map_congr_left fun x hx => ?_
    exact (okN_is (hall x hx)).2.symm
  rw [keysLine, h1, ← h, join_splitL]
theorem keys_no {s : List UInt8} {w0 : List UInt8} {tl : List (List UInt8)} (h : splitL 32 s = w0 :: tl) (hbad : w0 ≠ okW ∨ ∃ x ∈ tl, okN x = false) : ∀ g, Small64 g → s ≠ keysLine g := by
  rintro g hg rfl
  rw [keys_words] at h
  injection h with h1 h2
  rcases hbad with hb | ⟨x, hx, hb⟩
  · exact hb h1.symm
  · rw [← h2] at hx
    obtain ⟨n, hn, rfl⟩ := List.mem_map.1 hx
    have := (is_rd (l := dec n) (n := n) ⟨hg n hn, rfl⟩).1
    rw [this] at hb
    cases hb
def KeysR (s : List UInt8) (H : AH) (v : Value) : Prop := (∃ g gv Og, Small64 g ∧ s = keysLine g ∧ Row 39 true H gv (gcells g) Og ∧ v = .tuple #[ansV false nilS gv 0, .bool true]) ∨ ((∀ g, Small64 g → s ≠ keysLine g) ∧ v = .tuple #[ansV false nilS nilS 0, .bool false])
theorem words_cons (s : List UInt8) : ∃ w0 tl, splitL 32 s = w0 :: tl := by
  cases h : splitL 32 s with
  | nil => exact absurd h (splitL_ne 32 s)
  | cons a b => exact ⟨a, b, rfl⟩
theorem readKeys_run {s : List UInt8} (hs : s.length < 100000) : CallR cx 26 #[.string (str s)] H (fun v H' => Fresh H H' ∧ KeysR s H' v) := by
  obtain ⟨w0, tl, hw⟩ := words_cons s
  have hwl := splitL_le 32 s
  rw [hw, List.length_cons] at hwl
  refine wk26 (by simp) ?_
  unfold c26
  refine aw_cut (fun t => t.env 0 = .string (str s) ∧ t.env 2 = ptr H.next ∧ t.ds = [] ∧ t.H = ⟨H.next + 1, upd H.get H.next (ansB false nilS nilS 0)⟩) (by simp [alloc27]) ?_
  rintro ⟨env, H1, ds⟩ ⟨e0, e2, eds, hH⟩
  simp only at e0 e2 eds hH
  have f1 : Fresh H H1 := by rw [hH]; exact Fresh.ofNew
  have r1 : H1.get H.next = some (ansB false nilS nilS 0) := by rw [hH]; simp
  have l1 : H.next < H1.next := by rw [hH]; simp
  clear hH
  have hwords := words_run (H := H1) (s := s) (by omega)
  rw [hw] at hwords
  refine aw_cut (fun t => t.env 2 = ptr H.next ∧ t.ds = [] ∧ Fresh H1 t.H ∧ Row 9 true t.H (t.env 4) (strs (w0 :: tl)) (some H1.next)) ?_ ?_
  · simp [e0]
    refine callV_R cb40 hwords ?_
    rintro v H2 ⟨f2, h2⟩
    simp [e2, eds, f2, h2]
  clear e0 e2 eds hwords
  rintro ⟨env, H2, ds⟩ ⟨e2, eds, f2, hrow⟩
  simp only at e2 eds f2 hrow
  generalize e4 : env 4 = wv at hrow
  obtain ⟨ra, rfl, _⟩ := hrow.isSlice
  simp only [strs_length, List.length_cons] at e4 hrow
  have l2 : H.next < H2.next := Nat.lt_of_lt_of_le l1 f2.1
  have r2 : H2.get H.next = some (ansB false nilS nilS 0) := by rw [f2.get l1, r1]
  have fin : ∀ {H3 : AH} (gv : Value), Fresh H2 H3 → isCell gv = true → aStore Tryd.prog 27 (ptr H.next) (ansV false nilS gv 0) H3 = some ⟨H3.next, upd H3.get H.next (ansB false nilS gv 0)⟩ ∧ aLoad Tryd.prog 27 (ptr H.next) ⟨H3.next, upd H3.get H.next (ansB false nilS gv 0)⟩ = some (ansV false nilS gv 0) ∧ Fresh H ⟨H3.next, upd H3.get H.next (ansB false nilS gv 0)⟩ := by
    intro H3 gv f hc
    exact ⟨st27b (by rw [f.get l2, r2]) rfl hc, ld27b (by simp), fresh_upd' (f1.trans (f2.trans f)) (Nat.le_refl _)⟩
  have hc0 : (strs (w0 :: tl))[0]? = some (.string (str w0)) := rfl
  obtain ⟨la, oa, ca, hra, g1, g2, _⟩ := hrow.cell hc0
  have hix := ix60 la oa (tl.length + 1) (tl.length + 1) .i64 0 (by omega) (by omega)
  by_cases hok : w0 = okW
  case neg =>
    have hok' : ¬ w0 = [111, 107] := hok
    obtain ⟨a1, a2, a3⟩ := fin nilS Fresh.refl rfl
    simp at g2
    simp [e2, e4, hra, hix, g1, g2, hok', build27, a1, a2, eds, -aBuild, -ld27, -st27]
    exact ⟨a3, .inr ⟨keys_no hw (.inl hok), rfl⟩⟩
  subst hok
  have hok' : okW = [111, 107] := rfl
  simp at g2
  refine aw_cut (fun t => t.env 2 = ptr H.next ∧ t.env 4 = .slice ra (tl.length + 1) (tl.length + 1) ∧ t.ds = [] ∧ t.H = H2) (by simp [e2, e4, hra, hix, g1, g2, hok', eds]) ?_
  clear e2 e4 eds
  rintro ⟨env, H3, ds⟩ ⟨e2, e4, eds, hH⟩
  simp only at e2 e4 eds hH
  subst hH
  -- the answer that is filled
  refine aw_cut (fun t => t.env 2 = ptr H.next ∧ t.env 4 = .slice ra (tl.length + 1) (tl.length + 1) ∧ t.env 5 = ptr H3.next ∧ t.ds = [] ∧ t.H = ⟨H3.next + 1, upd H3.get H3.next (ansB false nilS nilS 0)⟩) (by simp [alloc27, e2, e4, eds]) ?_
  clear e2 e4 eds
  rintro ⟨env, H4, ds⟩ ⟨e2, e4, e5, eds, hH⟩
  simp only at e2 e4 e5 eds hH
  have f4 : Fresh H3 H4 := by rw [hH]; exact Fresh.ofNew
  have r4 : H4.get H3.next = some (ansB false nilS nilS 0) := by rw [hH]; simp
  have l4 : H3.next < H4.next := by rw [hH]; simp
  clear hH
  have hrow4 := hrow.keep f4 (fun _ _ => id)
  have el60 : El Tryd.prog 60 9 := el60
  obtain ⟨sp, hsp, hrowt⟩ := row_part el60 hrow4 (lo := some (i64 1)) (hi := none) (a := 1) (b := tl.length + 1) (by simp [bnd]) (by simp [bnd]; omega) (by omega) (by simp)
  have htl : ((strs (okW :: tl)).take (tl.length + 1)).drop 1 = strs tl := by
    rw [List.take_of_length_le (by simp)]
    rfl
  rw [htl] at hrowt
  obtain ⟨rt, rfl, _⟩ := hrowt.isSlice
  simp only [strs_length] at hrowt hsp
  have fin4 := fun {H5 : AH} (gv : Value) (f : Fresh H4 H5) (hc : isCell gv = true) => fin (H3 := H5) gv (f4.trans f) hc
  refine aw_cut (fun t => t.env 2 = ptr H.next ∧ t.env 5 = ptr H3.next ∧ t.ds = [] ∧ Keep (fun l => l = H3.next) H4 t.H ∧ (∀ x ∈ tl, okN x = true) ∧ ∃ gv Og, t.H.get H3.next = some (ansB false nilS gv 0) ∧ Row 39 true t.H gv (gcells (tl.map rdN)) Og ∧ ∀ x, Og = some x → H4.next ≤ x) ?_ ?_
  · simp [e4, hsp]
    refine aw_loop_to tl.length (fun k t => t.env 2 = ptr H.next ∧ t.env 5 = ptr H3.next ∧ t.env 18 = .slice rt tl.length tl.length ∧ t.env 19 = i64 (tl.length : Nat) ∧ t.env 20 = i64 (k : Nat) ∧ t.ds = [] ∧ Keep (fun l => l = H3.next) H4 t.H ∧ (∀ m (hm : m < tl.length), m < k → okN tl[m] = true) ∧ ∃ gv Og, t.H.get H3.next = some (ansB false nilS gv 0) ∧ Row 39 true t.H gv (gcells ((tl.take k).map rdN)) Og ∧ ∀ x, Og = some x → H4.next ≤ x) ?_ ?_ ?_
    · clear e2 e4 e5 eds
      rintro k ⟨env, H5, ds⟩ hk ⟨e2, e5, e18, e19, e20, eds, k5, hall, gv, Og, r5, hg5, hO5⟩
      simp only at e2 e5 e18 e19 e20 eds k5 r5 hg5
      have hkN : (k : Int) < tl.length := by omega
      have hwk := w64 (n := (k : Int) + 1) (by omega)
      have hrow5 := hrowt.keep k5 (fun l e h => by cases e; have := hrow.low; omega)
      obtain ⟨lb, ob, cb, hrb, g3, g4, _⟩ := hrow5.cell (i := k) (x := .string (str tl[k])) (by simp [strs, hk])
      have hixb := ix60 lb ob tl.length tl.length .i64 (k : Int) (by omega) hkN
      rw [Int.toNat_natCast] at hixb
      have htk : (tl.take (k + 1)).map rdN = (tl.take k).map rdN ++ [rdN tl[k]] := by rw [List.take_add_one, List.getElem?_eq_getElem hk, List.map_append]; rfl
      have hmem : tl[k] ∈ tl := List.getElem_mem hk
      have hallk : okN tl[k] = true → ∀ m (hm : m < tl.length), m < k + 1 → okN tl[m] = true := fun h m hm hmk => by
        by_cases e : m = k
        · subst e; exact h
        · exact hall m hm (by omega)
      generalize tl[k] = x at g4 htk hmem hallk
      simp [e2, e5, e18, e19, e20, hk, hkN, hrb, hixb, g3, g4]
      refine callV_R cb41 (read_run (l := x)) ?_
      rintro v H6 ⟨hH, hv⟩
      subst hH
      obtain rfl := toldN hv
      have h5n := k5.1
      cases hbx : okN x with
      | false =>
        have r6 : H6.get H.next = some (ansB false nilS nilS 0) := by rw [k5.get (by omega) (by omega), f4.get l2, r2]
        have a1 := st27b (b' := false) (s' := nilS) (g' := nilS) (e' := 0) r6 rfl rfl
        have a2 : aLoad Tryd.prog 27 (ptr H.next) ⟨H6.next, upd H6.get H.next (ansB false nilS nilS 0)⟩ = some (ansV false nilS nilS 0) := ld27b (by simp)
        have a3 : Fresh H ⟨H6.next, upd H6.get H.next (ansB false nilS nilS 0)⟩ := by
          refine ⟨by have := f1.1; have := f2.1; simp only; omega, fun y hy _ => ?_⟩
          have h1 : ¬ y = H.next := by omega
          simp only [upd_get, h1, if_false]
          rw [k5.get (by omega) (by omega), (f1.trans (f2.trans f4)).get hy]
        simp [e2, e5, e18, e19, e20, build27, a1, a2, eds, -aBuild, -ld27, -st27]
        exact ⟨a3, .inr ⟨keys_no hw (.inr ⟨x, hmem, hbx⟩), rfl⟩⟩
      | true =>
        obtain ⟨rg, rfl, _⟩ := hg5.isSlice
        have hel : (gcells ((tl.take k).map rdN)).length = k := by simp; omega
        rw [hel] at hg5 r5
        obtain ⟨H7, hap, hnx, hget, hrow7, hkp⟩ := row_append el24 hg5 (by rw [hel]; omega) (v := u64 (rdN x : Nat)) rfl
        rw [hel] at hap hrow7
        have hOlow : ∀ z, Og = some z → z < H6.next := fun z e => by subst e; exact hg5.low
        have hnG : Og ≠ some H3.next := fun e => by have := hO5 _ e; omega
        have r7 : H7.get H3.next = some (ansB false nilS (.slice rg k k) 0) := by rw [hkp H3.next (by omega) hnG, r5]
        have hfin7 : Row 39 true ⟨H7.next, upd H7.get H3.next (ansB false nilS (sl (H6.next + 1) 0 (k + 1)) 0)⟩ (sl (H6.next + 1) 0 (k + 1)) (gcells ((tl.take (k + 1)).map rdN)) (some (H6.next + 1)) := by
          rw [htk]
          have : gcells ((tl.take k).map rdN ++ [rdN x]) = gcells ((tl.take k).map rdN) ++ [u64 (rdN x : Nat)] := by simp [gcells]
          rw [this]
          exact hrow7.keep (S := fun y => y = H3.next) ⟨Nat.le_refl _, fun y _ hy => by simp at hy; simp [hy]⟩ (fun y hy hyy => by cases hy; omega)
        simp [e2, e5, e18, e19, e20, r5, r7, hap, hwk, eds]
        refine ⟨⟨by simp; omega, fun y hy hne => ?_⟩, hallk hbx, some (H6.next + 1), by simpa [gcells] using hfin7, fun y e => by cases e; omega⟩
        simp at hne
        simp [hne]
        rw [hkp y (by omega) (fun e => by have := hO5 y e; omega), k5.get hy hne]
    · clear e2 e4 e5 eds
      rintro ⟨env, H5, ds⟩ ⟨e2, e5, e18, e19, e20, eds, k5, hall, gv, Og, r5, hg5, hO5⟩
      simp only at e2 e5 e18 e19 e20 eds k5 r5 hg5
      rw [List.take_length] at hg5
      simp [e2, e5, e19, e20, eds]
      refine ⟨k5, fun x hx => ?_, gv, r5, Og, by simpa [gcells] using hg5, hO5⟩
      obtain ⟨m, hm, rfl⟩ := List.getElem_of_mem hx
      exact hall m hm hm
    · simp [e2, e5, eds, Keep.refl]
      exact ⟨nilS, r4, none, Row.nil, by simp⟩
  clear e2 e4 e5 eds
  rintro ⟨env, H5, ds⟩ ⟨e2, e5, eds, k5, hall, gv, Og, r5, hg5, hO5⟩
  simp only at e2 e5 eds k5 r5 hg5
  have h5n := k5.1
  have r6 : H5.get H.next = some (ansB false nilS nilS 0) := by rw [k5.get (by omega) (by omega), f4.get l2, r2]
  obtain ⟨rg, rfl, _⟩ := hg5.isSlice
  have a0 := ld27b r5
  have a1 := st27b (b' := false) (s' := nilS) (g' := .slice rg (gcells (tl.map rdN)).length (gcells (tl.map rdN)).length) (e' := 0) r6 rfl rfl
  have hrowF : Row 39 true ⟨H5.next, upd H5.get H.next (ansB false nilS (.slice rg (gcells (tl.map rdN)).length (gcells (tl.map rdN)).length) 0)⟩ (.slice rg (gcells (tl.map rdN)).length (gcells (tl.map rdN)).length) (gcells (tl.map rdN)) Og :=
    hg5.keep (S := fun y => y = H.next) ⟨Nat.le_refl _, fun y _ hy => by simp at hy; simp [hy]⟩ (fun y hy hyy => by have := hO5 y hy; omega)
  generalize (gcells (tl.map rdN)).length = nn at *
  have a2 : aLoad Tryd.prog 27 (ptr H.next) ⟨H5.next, upd H5.get H.next (ansB false nilS (.slice rg nn nn) 0)⟩ = some (ansV false nilS (.slice rg nn nn) 0) := ld27b (by simp)
  simp [e2, e5, a0, a1, a2, eds, -ld27, -st27]
  refine ⟨⟨by have := f1.1; have := f2.1; simp only; omega, fun y hy _ => ?_⟩, .inl ⟨tl.map rdN, _, Og, ?_, keys_line hw hall, hrowF, rfl⟩⟩
  · have h1 : ¬ y = H.next := by omega
    simp only [upd_get, h1, if_false]
    rw [k5.get (by omega) (by omega), (f1.trans (f2.trans f4)).get hy]
  · intro n hn
    obtain ⟨x, _, rfl⟩ := List.mem_map.1 hn
    exact rdN_lt x
end Go.Proofs.YtpimepdlbhejhaaDoor.C

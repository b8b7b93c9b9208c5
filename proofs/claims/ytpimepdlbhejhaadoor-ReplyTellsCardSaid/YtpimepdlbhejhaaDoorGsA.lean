/- The document's guess: the words' numbers; an answer that may have a line. Own text of this session. -/
import Derived.Test.YtpimepdlbhejhaaDoorLnA
set_option linter.unusedVariables false
set_option linter.unusedSimpArgs false
set_option maxRecDepth 4000
set_option maxHeartbeats 8000000
namespace Go.Proofs.YtpimepdlbhejhaaDoor.C
open Go Go.RowKit Go.Proofs.YtpimepdlbhejhaaDoorA Go.Proofs.YtpimepdlbhejhaaDoor.Plain
variable {H : AH}
theorem hex_inj : ∀ {l m : List UInt8}, hex l = hex m → l = m
  | [], [], _ => rfl
  | [], b :: m, h => by have := congrArg List.length h; rw [hex_len, hex_len] at this; simp at this
  | a :: l, [], h => by have := congrArg List.length h; rw [hex_len, hex_len] at this; simp at this
  | a :: l, b :: m, h => by
    have e : ∀ (x : UInt8) (r : List UInt8), hex (x :: r) = hd (x.toNat / 16) :: hd (x.toNat % 16) :: hex r := fun _ _ => rfl
    rw [e, e] at h
    simp only [List.cons.injEq] at h
    obtain ⟨h1, h2, h3⟩ := h
    have ha := UInt8.toNat_lt a
    have hb := UInt8.toNat_lt b
    have g1 := hd_inj ⟨a.toNat / 16, by omega⟩ ⟨b.toNat / 16, by omega⟩ h1
    have g2 := hd_inj ⟨a.toNat % 16, by omega⟩ ⟨b.toNat % 16, by omega⟩ h2
    simp only [Fin.mk.injEq] at g1 g2
    have : a = b := UInt8.toNat_inj.1 (by omega)
    rw [this, hex_inj h3]
theorem hd_plain : ∀ n : Fin 16, hd n.val ≠ 32 := by decide
theorem hex_plain : ∀ l : List UInt8, (32 : UInt8) ∉ hex l
  | [], h => by cases h
  | a :: l, h => by
    have e : hex (a :: l) = hd (a.toNat / 16) :: hd (a.toNat % 16) :: hex l := rfl
    have ha := UInt8.toNat_lt a
    rw [e] at h
    rcases List.mem_cons.1 h with h | h
    · exact hd_plain ⟨a.toNat / 16, by omega⟩ h.symm
    rcases List.mem_cons.1 h with h | h
    · exact hd_plain ⟨a.toNat % 16, by omega⟩ h.symm
    · exact hex_plain l h
theorem sdec_plain (i : Int) : (32 : UInt8) ∉ sdec i := by
  unfold sdec
  split
  · intro h
    rcases List.mem_cons.1 h with h | h
    · cases h
    · exact dec_plain _ h
  · exact dec_plain _
theorem err_words (n : Int) : splitL 32 (errLine n) = [errW, sdec n] := by
  have e : errLine n = errW ++ 32 :: sdec n := rfl
  rw [e, splitL_app 32 errW _ (by decide), splitL_plain (sdec_plain n)]
theorem hit_words (v : List UInt8) : splitL 32 (hitP ++ hex v) = [hitW, hex v] := by
  have e : hitP ++ hex v = hitW ++ 32 :: hex v := rfl
  rw [e, splitL_app 32 hitW _ (by decide), splitL_plain (hex_plain v)]
theorem one_word {w : List UInt8} (h : (32 : UInt8) ∉ w) : splitL 32 w = [w] := splitL_plain h
/-- the words of a line that is no error's -/
theorem line0_words {k : Int} {hit : Bool} {val : List UInt8} {gone : List Nat} : ∃ w0 tl, splitL 32 (lineOf k hit val gone 0) = w0 :: tl ∧ w0 ≠ errW := by
  unfold lineOf
  rw [if_neg (by simp)]
  split
  · unfold getLine
    split
    · split
      · exact ⟨hitW, [], one_word (by decide), by decide⟩
      · exact ⟨hitW, _, hit_words val, by decide⟩
    · exact ⟨missW, [], one_word (by decide), by decide⟩
  split
  · exact ⟨okW, _, keys_words, by decide⟩
  split
  · exact ⟨noneW, [], one_word (by decide), by decide⟩
  · exact ⟨okW, [], one_word (by decide), by decide⟩
theorem goodA {k : Int} {s : List UInt8} {hit : Bool} {val : List UInt8} {gone : List Nat} {err : Int} (h : Good k s hit val gone err) {w1 : List UInt8} (hw : splitL 32 s = [errW, w1]) : hit = false ∧ val = [] ∧ gone = [] ∧ IsI w1 err := by
  obtain ⟨⟨_, h2, h3⟩, _, h4⟩ := h
  subst h4
  by_cases he : err = 0
  · subst he
    obtain ⟨w0, tl, hw', hne⟩ := line0_words (k := k) (hit := hit) (val := val) (gone := gone)
    rw [hw'] at hw
    cases hw
    exact absurd rfl hne
  · rw [if_pos he] at h3
    rw [lineOf, if_pos he, err_words] at hw
    obtain ⟨a, b, c⟩ := h3
    refine ⟨a, b, c, ⟨by unfold I64; omega, ?_⟩⟩
    cases hw
    rfl
theorem goodB {k : Int} {s : List UInt8} {hit : Bool} {val : List UInt8} {gone : List Nat} {err : Int} (h : Good k s hit val gone err) {w0 : List UInt8} {tl : List (List UInt8)} (hw : splitL 32 s = w0 :: tl) (hA : ¬ (w0 = errW ∧ tl.length = 1)) : err = 0 := by
  obtain ⟨_, _, h4⟩ := h
  refine Classical.byContradiction fun he => hA ?_
  subst h4
  rw [lineOf, if_pos he, err_words] at hw
  cases hw
  exact ⟨rfl, rfl⟩
def NumR (tl : List (List UInt8)) (H : AH) (v : Value) : Prop := ∃ gv Og b, v = .tuple #[gv, .bool b] ∧ Row 39 true H gv (gcells (if tl.all okN = true then tl.map rdN else [])) Og
/-- ref.numbers -/
theorem numbers_run {tl : List (List UInt8)} {w : Bool} {sv : Value} {O : Option Nat} (h : Row 9 w H sv (strs tl) O) (hl : tl.length < 1000000) :
    CallR cx 45 #[sv] H (fun v H' => Fresh H H' ∧ NumR tl H' v) := by
  obtain ⟨rt, rfl, _⟩ := h.isSlice
  simp only [strs_length] at h ⊢
  refine wk45 (by simp) ?_
  unfold c45
  refine aw_cut (fun t => t.env 0 = .slice rt tl.length tl.length ∧ t.ds = [] ∧ t.H = H) (by simp) ?_
  rintro ⟨env, H1, ds⟩ ⟨e0, eds, hH⟩
  simp only at e0 eds hH
  subst hH
  refine aw_cut (fun t => t.env 0 = .slice rt tl.length tl.length ∧ t.env 4 = nilS ∧ t.ds = [] ∧ t.H = H1) (by simp [e0, eds]) ?_
  clear e0 eds
  rintro ⟨env, H1, ds⟩ ⟨e0, e4, eds, hH⟩
  simp only at e0 e4 eds hH
  subst hH
  refine aw_cut (fun t => t.ds = [] ∧ Fresh H1 t.H ∧ tl.all okN = true ∧ ∃ Og, Row 39 true t.H (t.env 4) (gcells (tl.map rdN)) Og) ?_ ?_
  · simp
    refine aw_loop_to tl.length (fun k t => t.env 0 = .slice rt tl.length tl.length ∧ t.env 5 = i64 (k : Nat) ∧ t.ds = [] ∧ Fresh H1 t.H ∧ (tl.take k).all okN = true ∧ ∃ Og, Row 39 true t.H (t.env 4) (gcells ((tl.take k).map rdN)) Og ∧ ∀ x, Og = some x → H1.next ≤ x) ?_ ?_ ?_
    · clear e0 e4 eds
      rintro k ⟨env, H5, ds⟩ hk ⟨e0, e5, eds, f5, hall, Og, hg5, hO5⟩
      simp only at e0 e5 eds f5 hg5
      generalize e4 : env 4 = gv at hg5
      have hkN : (k : Int) < tl.length := by omega
      have hwk : IntKind.i64.wrap ((k : Int) + 1) = ((k + 1 : Nat) : Int) := by rw [w64 (by omega)]; push_cast; rfl
      have hrow5 := h.keep f5 (fun _ _ => id)
      obtain ⟨lb, ob, cb, hrb, g3, g4, _⟩ := hrow5.cell (i := k) (x := .string (str tl[k])) (by simp [strs, hk])
      have hixb := ix60 lb ob tl.length tl.length .i64 (k : Int) (by omega) hkN
      rw [Int.toNat_natCast] at hixb
      have htk : (tl.take (k + 1)).map rdN = (tl.take k).map rdN ++ [rdN tl[k]] := by rw [List.take_add_one, List.getElem?_eq_getElem hk, List.map_append]; rfl
      have hta : (tl.take (k + 1)).all okN = ((tl.take k).all okN && okN tl[k]) := by rw [List.take_add_one, List.getElem?_eq_getElem hk, List.all_append]; simp
      have hmem : tl[k] ∈ tl := List.getElem_mem hk
      generalize tl[k] = x at g4 htk hta hmem
      simp [e0, e4, e5, hk, hkN, hrb, hixb, g3, g4]
      refine callV_R cb53 (rread_run (l := x)) ?_
      rintro v H6 ⟨f6, hv⟩
      obtain rfl := toldN hv
      cases hbx : okN x with
      | false =>
        have hna : ¬ tl.all okN = true := fun ha => by
          have := List.all_eq_true.1 ha x hmem
          rw [hbx] at this
          cases this
        simp [eds]
        exact ⟨f5.trans f6, nilS, none, false, rfl, by rw [if_neg hna]; exact Row.nil⟩
      | true =>
        have hg6 := hg5.keep f6 (fun _ _ => id)
        obtain ⟨rg, rfl, _⟩ := hg6.isSlice
        have hel : (gcells ((tl.take k).map rdN)).length = k := by simp; omega
        rw [hel] at hg6 e4
        obtain ⟨H7, hap, hnx, hget, hrow7, hkp⟩ := row_append el24 hg6 (by rw [hel]; omega) (v := u64 (rdN x : Nat)) rfl
        rw [hel] at hap hrow7
        have hfin : gcells ((tl.take (k + 1)).map rdN) = gcells ((tl.take k).map rdN) ++ [u64 (rdN x : Nat)] := by rw [htk]; simp [gcells]
        rw [hbx, hall] at hta
        have f7 : Fresh H1 H7 := ⟨by have := f5.1; have := f6.1; omega, fun y hy _ => by
          have := f5.1
          have := f6.1
          rw [hkp y (by omega) (fun e => by have := hO5 y e; omega), f6.get (by omega), f5.get hy]⟩
        simp [e0, e4, e5, hap, hwk, eds]
        refine ⟨f7, by simpa using hta, some (H6.next + 1), ?_, fun y e => by cases e; have := f5.1; have := f6.1; omega⟩
        have := hrow7
        rw [← hfin] at this
        simpa [gcells] using this
    · clear e0 e4 eds
      rintro ⟨env, H5, ds⟩ ⟨e0, e5, eds, f5, hall, Og, hg5, hO5⟩
      simp only at e0 e5 eds f5 hg5
      rw [List.take_length] at hg5 hall
      simp [e0, e5, eds]
      exact ⟨f5, by simpa using hall, Og, by simpa [gcells] using hg5⟩
    · simp [e0, e4, eds, Fresh.refl]
      exact ⟨none, Row.nil, by simp⟩
  clear e0 e4 eds
  rintro ⟨env, H5, ds⟩ ⟨eds, f5, hall, Og, hg5⟩
  simp only at eds f5 hg5
  simp [eds]
  exact ⟨f5, _, Og, true, rfl, by rw [if_pos hall]; exact hg5⟩
end Go.Proofs.YtpimepdlbhejhaaDoor.C

/- Answers read of a line: of a Get. Own text of this session. -/
import Derived.Test.YtpimepdlbhejhaaDoorRdA
set_option linter.unusedVariables false
set_option linter.unusedSimpArgs false
set_option maxRecDepth 4000
set_option maxHeartbeats 8000000
namespace Go.Proofs.YtpimepdlbhejhaaDoor.C
open Go Go.RowKit Go.Proofs.YtpimepdlbhejhaaDoorA Go.Proofs.YtpimepdlbhejhaaDoor.Plain
variable {H : AH}
def okW : List UInt8 := [111, 107]
def hitW : List UInt8 := [104, 105, 116]
def missW : List UInt8 := [109, 105, 115, 115]
def noneW : List UInt8 := [110, 111, 110, 101]
def getLine (hit : Bool) (val : List UInt8) : List UInt8 := if hit then (if val = [] then hitW else hitP ++ hex val) else missW
theorem eqMiss (s : List UInt8) (ox oy : Operand) : aBin Tryd.prog .eql 9 ox oy (.string (str s)) (.string ⟨#[109, 105, 115, 115]⟩) = some (.bool (decide (s = missW))) := aBin_streqL ox oy un9 s missW
theorem eqHit (s : List UInt8) (ox oy : Operand) : aBin Tryd.prog .eql 9 ox oy (.string (str s)) (.string ⟨#[104, 105, 116]⟩) = some (.bool (decide (s = hitW))) := aBin_streqL ox oy un9 s hitW
theorem eqOk (s : List UInt8) (ox oy : Operand) : aBin Tryd.prog .eql 9 ox oy (.string (str s)) (.string ⟨#[111, 107]⟩) = some (.bool (decide (s = okW))) := aBin_streqL ox oy un9 s okW
theorem eqNone (s : List UInt8) (ox oy : Operand) : aBin Tryd.prog .eql 9 ox oy (.string (str s)) (.string ⟨#[110, 111, 110, 101]⟩) = some (.bool (decide (s = noneW))) := aBin_streqL ox oy un9 s noneW
def GetR (s : List UInt8) (H : AH) (v : Value) : Prop := (∃ hit val sv Ov, (hit = true ∨ val = []) ∧ s = getLine hit val ∧ Row 5 true H sv (val.map u8v) Ov ∧ v = .tuple #[ansV hit sv nilS 0, .bool true]) ∨ ((∀ hit val, (hit = true ∨ val = []) → s ≠ getLine hit val) ∧ v = .tuple #[ansV false nilS nilS 0, .bool false])
theorem readGet_run {s : List UInt8} (hs : s.length < 100000) : CallR cx 25 #[.string (str s)] H (fun v H' => Fresh H H' ∧ GetR s H' v) := by
  refine wk25 (by simp) ?_
  unfold c25
  refine aw_cut (fun t => t.env 0 = .string (str s) ∧ t.env 2 = ptr H.next ∧ t.ds = [] ∧ t.H = ⟨H.next + 1, upd H.get H.next (ansB false nilS nilS 0)⟩) (by simp [alloc27]) ?_
  rintro ⟨env, H1, ds⟩ ⟨e0, e2, eds, hH⟩
  simp only at e0 e2 eds hH
  have f1 : Fresh H H1 := by rw [hH]; exact Fresh.ofNew
  have r1 : H1.get H.next = some (ansB false nilS nilS 0) := by rw [hH]; simp
  have l1 : H.next < H1.next := by rw [hH]; simp
  clear hH
  have fin : ∀ {H2 : AH} (b : Bool) (sv : Value), Fresh H1 H2 → isCell sv = true → aStore Tryd.prog 27 (ptr H.next) (ansV b sv nilS 0) H2 = some ⟨H2.next, upd H2.get H.next (ansB b sv nilS 0)⟩ ∧ aLoad Tryd.prog 27 (ptr H.next) ⟨H2.next, upd H2.get H.next (ansB b sv nilS 0)⟩ = some (ansV b sv nilS 0) ∧ Fresh H ⟨H2.next, upd H2.get H.next (ansB b sv nilS 0)⟩ := by
    intro H2 b sv f hc
    exact ⟨st27b (by rw [f.get l1, r1]) hc rfl, ld27b (by simp), fresh_upd' (f1.trans f) (Nat.le_refl _)⟩
  have rn : ∀ H : AH, Row 5 true H nilS (([] : List UInt8).map u8v) none := fun H => Row.nil
  by_cases hm : s = missW
  · obtain ⟨a1, a2, a3⟩ := fin false nilS Fresh.refl rfl
    simp [e0, e2, hm, missW, build27, a1, a2, eds, -aBuild, -ld27, -st27]
    exact ⟨a3, .inl ⟨false, [], nilS, none, .inr rfl, rfl, rn _, rfl⟩⟩
  by_cases hh : s = hitW
  · obtain ⟨a1, a2, a3⟩ := fin true nilS Fresh.refl rfl
    have hmm : ¬ hitW = missW := by decide
    simp [e0, e2, hh, hitW, build27h, a1, a2, eds, -aBuild, -ld27, -st27]
    exact ⟨a3, .inl ⟨true, [], nilS, none, .inl rfl, rfl, rn _, rfl⟩⟩
  have hm' : ¬ s = [109, 105, 115, 115] := hm
  have hh' : ¬ s = [104, 105, 116] := hh
  refine aw_cut (fun t => t.env 0 = .string (str s) ∧ t.env 2 = ptr H.next ∧ t.ds = [] ∧ t.H = H1) (by simp [e0, e2, hm', hh', eds]) ?_
  clear e0 e2 eds
  rintro ⟨env, H2, ds⟩ ⟨e0, e2, eds, hH⟩
  simp only at e0 e2 eds hH
  subst hH
  have hcut := cutP_run (H := H2) (p := hitP) (l := s)
  refine aw_cut (fun t => t.env 2 = ptr H.next ∧ t.env 4 = .string (str (if pre hitP s = true then s.drop hitP.length else s)) ∧ t.env 5 = .bool (pre hitP s) ∧ t.ds = [] ∧ t.H = H2) ?_ ?_
  · simp [e0]
    refine callV_R cb37 hcut ?_
    rintro _ H3 ⟨rfl, hH⟩
    subst hH
    simp [e2, eds]
  clear e0 e2 eds hcut
  rintro ⟨env, H3, ds⟩ ⟨e2, e4, e5, eds, hH⟩
  simp only at e2 e4 e5 eds hH
  subst hH
  obtain ⟨w, hw⟩ : ∃ w, w = (if pre hitP s = true then s.drop hitP.length else s) := ⟨_, rfl⟩
  rw [← hw] at e4
  have hwl : w.length < 100000 := by
    rw [hw]
    split
    · rw [List.length_drop]; omega
    · exact hs
  refine aw_cut (fun t => t.env 2 = ptr H.next ∧ t.env 5 = .bool (pre hitP s) ∧ t.ds = [] ∧ Fresh H3 t.H ∧ ∃ l b sv O, t.env 6 = sv ∧ t.env 7 = .bool b ∧ Row 5 true t.H sv (l.map u8v) O ∧ (∀ x, O = some x → H3.next ≤ x) ∧ ((b = true ∧ w = hex l) ∨ (b = false ∧ ∀ l, w ≠ hex l))) ?_ ?_
  · simp [e4]
    refine callV_R cb39 (readHex_run (by omega)) ?_
    rintro v H4 ⟨f4, ht⟩
    rcases ht with ⟨l, sv, O, h1, rfl, h2, h3⟩ | ⟨h1, rfl⟩
    · simp [e2, e5, eds, f4]
      exact ⟨l, O, h2, h3, h1⟩
    · simp [e2, e5, eds, f4]
      exact ⟨[], none, rn _, by simp, h1⟩
  clear e2 e4 e5 eds
  rintro ⟨env, H4, ds⟩ ⟨e2, e5, eds, f4, l, b, sv, O, e6, e7, hrow, hOx, ht⟩
  simp only at e2 e5 e6 e7 eds f4 hrow
  obtain ⟨ra, rfl, _⟩ := hrow.isSlice
  simp only [List.length_map] at e6 hrow
  obtain ⟨a1, a2, a3⟩ := fin false nilS f4 rfl
  obtain ⟨b1, b2, b3⟩ := fin true (.slice ra l.length l.length) f4 rfl
  by_cases hc : pre hitP s = true ∧ b = true ∧ l ≠ []
  · obtain ⟨h1, rfl, h3⟩ := hc
    have hl0 : ¬ (l.length : Int) = 0 := by
      have := List.length_pos_iff.2 h3
      omega
    simp [e2, e5, e6, e7, h1, hl0, h3, build27v, b1, b2, eds, -aBuild, -ld27, -st27]
    refine ⟨b3, .inl ⟨true, l, _, O, .inl rfl, ?_, hrow.keep (S := fun x => x = H.next) ⟨Nat.le_refl _, fun x _ hx => by simp at hx; simp [hx]⟩ (fun x hx hxx => ?_), rfl⟩⟩
    · obtain ⟨r, hr⟩ := pre_iff.1 h1
      rcases ht with ⟨_, ht⟩ | ⟨ht, _⟩
      · rw [hw, if_pos h1, hr] at ht
        simp at ht
        rw [getLine, if_pos rfl, if_neg h3, hr, ht]
      · cases ht
    · have := hOx x hx
      omega
  · have hno : ∀ hit val, (hit = true ∨ val = []) → s ≠ getLine hit val := by
      rintro hit val hv rfl
      cases hit with
      | false => exact hm rfl
      | true =>
        by_cases hv0 : val = []
        · subst hv0; exact hh rfl
        · have hg : getLine true val = hitP ++ hex val := by rw [getLine, if_pos rfl, if_neg hv0]
          rw [hg] at hw hc
          have hp : pre hitP (hitP ++ hex val) = true := pre_iff.2 ⟨_, rfl⟩
          rw [hp, if_pos rfl] at hw
          simp at hw
          rcases ht with ⟨hb, ht⟩ | ⟨_, ht⟩
          · refine hc ⟨hp, hb, fun hl => ?_⟩
            subst hl
            rw [hw] at ht
            have := congrArg List.length ht
            rw [hex_len, hex_len] at this
            have h0 : val.length = 0 := by simp only [List.length_nil] at this; omega
            exact hv0 (List.length_eq_zero_iff.1 h0)
          · exact ht val hw
    have hres : GetR s ⟨H4.next, upd H4.get H.next (ansB false nilS nilS 0)⟩ (.tuple #[ansV false nilS nilS 0, .bool false]) := .inr ⟨hno, rfl⟩
    cases hp : pre hitP s with
    | false =>
      simp [e2, e5, e6, e7, hp, build27, a1, a2, eds, -aBuild, -ld27, -st27]
      exact ⟨a3, hres⟩
    | true =>
      cases b with
      | false =>
        simp [e2, e5, e6, e7, hp, build27, a1, a2, eds, -aBuild, -ld27, -st27]
        exact ⟨a3, hres⟩
      | true =>
        have hl : l = [] := Classical.byContradiction fun h => hc ⟨hp, rfl, h⟩
        subst hl
        simp [e2, e5, e6, e7, hp, build27, a1, a2, eds, -aBuild, -ld27, -st27]
        exact ⟨a3, hres⟩
end Go.Proofs.YtpimepdlbhejhaaDoor.C

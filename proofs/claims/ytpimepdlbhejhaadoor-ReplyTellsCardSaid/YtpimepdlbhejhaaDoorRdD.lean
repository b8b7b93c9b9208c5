/- Answers read of a line: Read. Own text of this session. -/
import Derived.Test.YtpimepdlbhejhaaDoorRdC
set_option linter.unusedVariables false
set_option linter.unusedSimpArgs false
set_option maxRecDepth 4000
set_option maxHeartbeats 8000000
namespace Go.Proofs.YtpimepdlbhejhaaDoor.C
open Go Go.RowKit Go.Proofs.YtpimepdlbhejhaaDoorA Go.Proofs.YtpimepdlbhejhaaDoor.Plain
variable {H : AH}
/-- an answer's line -/
def lineOf (k : Int) (hit : Bool) (val : List UInt8) (gone : List Nat) (err : Int) : List UInt8 :=
  if err ≠ 0 then errLine err else if k = 1 then getLine hit val else if k = 2 ∨ k = 4 then keysLine gone else if k = 3 ∧ hit = false then noneW else okW
/-- may an answer be told? -/
def MayP (k : Int) (hit : Bool) (val : List UInt8) (gone : List Nat) (err : Int) : Prop :=
  (1 ≤ k ∧ k ≤ 4) ∧ (0 ≤ err ∧ err ≤ 99) ∧ (if err ≠ 0 then hit = false ∧ val = [] ∧ gone = [] else if k = 1 then gone = [] ∧ (hit = true ∨ val = []) else if k = 3 then gone = [] ∧ val = [] else hit = false ∧ val = [])
def Good (k : Int) (s : List UInt8) (hit : Bool) (val : List UInt8) (gone : List Nat) (err : Int) : Prop := MayP k hit val gone err ∧ Small64 gone ∧ lineOf k hit val gone err = s
def Ans (H : AH) (v : Value) (hit : Bool) (val : List UInt8) (gone : List Nat) (err : Int) : Prop := ∃ sv gv Ov Og, v = ansV hit sv gv err ∧ Row 5 true H sv (val.map u8v) Ov ∧ Row 39 true H gv (gcells gone) Og
theorem Ans.fresh {H H' : AH} {v : Value} {hit : Bool} {val : List UInt8} {gone : List Nat} {err : Int} (h : Ans H v hit val gone err) (f : Fresh H H') : Ans H' v hit val gone err := by
  obtain ⟨sv, gv, Ov, Og, rfl, h1, h2⟩ := h
  exact ⟨sv, gv, Ov, Og, rfl, h1.keep f (fun _ _ => id), h2.keep f (fun _ _ => id)⟩
abbrev zeroA : Value := ansV false nilS nilS 0
theorem ans_zero (H : AH) : Ans H zeroA false [] [] 0 := ⟨nilS, nilS, none, none, rfl, Row.nil, Row.nil⟩
def ReadR (k : Int) (s : List UInt8) (H : AH) (v : Value) : Prop :=
  (∃ hit val gone err a, Good k s hit val gone err ∧ Ans H a hit val gone err ∧ v = .tuple #[a, .bool true]) ∨ ((∀ hit val gone err, ¬ Good k s hit val gone err) ∧ v = .tuple #[zeroA, .bool false])
/-- an error's line is no other's -/
theorem good_err {k : Int} {s : List UInt8} {hit : Bool} {val : List UInt8} {gone : List Nat} {err : Int} (h : Good k s hit val gone err) (hno : ∀ n, 1 ≤ n → n ≤ 99 → s ≠ errLine n) : err = 0 := by
  obtain ⟨⟨_, h2, _⟩, _, h4⟩ := h
  refine Classical.byContradiction fun he => ?_
  rw [lineOf, if_pos he] at h4
  exact hno err (by omega) (by omega) h4.symm
theorem rows0 (H : AH) : Row 5 true H nilS (([] : List UInt8).map u8v) none := Row.nil
theorem rowg0 (H : AH) : Row 39 true H nilS (gcells []) none := Row.nil
theorem row_upd {T : TypeId} {own : Bool} {H : AH} {sv : Value} {vs : List Value} {O : Option Nat} {l : Nat} {b : Bool} {x y : Value} {e : Int} {blk : ABlk} (h : Row T own H sv vs O) (hl : H.get l = some (ansB b x y e)) : Row T own ⟨H.next, upd H.get l blk⟩ sv vs O := by
  refine h.keep (S := fun z => z = l) ⟨Nat.le_refl _, fun z _ hz => by simp at hz; simp [hz]⟩ (fun z hz hzz => ?_)
  subst hz
  subst hzz
  obtain ⟨o, cs, _, h2, _⟩ := h
  rw [hl] at h2
  cases h2
/-- reply.Read -/
theorem read1_run {k : Int} {s : List UInt8} (hs : s.length < 100000) : CallR cx 10 #[i64 k, .string (str s)] H (fun v H' => Fresh H H' ∧ ReadR k s H' v) := by
  refine wk10 (by simp) ?_
  unfold c10
  refine aw_cut (fun t => t.env 0 = i64 k ∧ t.env 1 = .string (str s) ∧ t.env 4 = ptr H.next ∧ t.ds = [] ∧ t.H = ⟨H.next + 1, upd H.get H.next (ansB false nilS nilS 0)⟩) (by simp [alloc27]) ?_
  rintro ⟨env, H1, ds⟩ ⟨e0, e1, e4, eds, hH⟩
  simp only at e0 e1 e4 eds hH
  have f1 : Fresh H H1 := by rw [hH]; exact Fresh.ofNew
  have r1 : H1.get H.next = some (ansB false nilS nilS 0) := by rw [hH]; simp
  have l1 : H.next < H1.next := by rw [hH]; simp
  clear hH
  have fin : ∀ {H2 : AH} (b : Bool) (sv gv : Value) (e : Int), Fresh H1 H2 → isCell sv = true → isCell gv = true → aStore Tryd.prog 27 (ptr H.next) (ansV b sv gv e) H2 = some ⟨H2.next, upd H2.get H.next (ansB b sv gv e)⟩ ∧ aLoad Tryd.prog 27 (ptr H.next) ⟨H2.next, upd H2.get H.next (ansB b sv gv e)⟩ = some (ansV b sv gv e) ∧ Fresh H ⟨H2.next, upd H2.get H.next (ansB b sv gv e)⟩ := by
    intro H2 b sv gv e f hc hg
    exact ⟨st27b (by rw [f.get l1, r1]) hc hg, ld27b (by simp), fresh_upd' (f1.trans f) (Nat.le_refl _)⟩
  by_cases hk : 1 ≤ k ∧ k ≤ 4
  case neg =>
    have hbad : ReadR k s ⟨H1.next, upd H1.get H.next (ansB false nilS nilS 0)⟩ (.tuple #[zeroA, .bool false]) := .inr ⟨fun _ _ _ _ h => hk h.1.1, rfl⟩
    obtain ⟨a1, a2, a3⟩ := fin false nilS nilS 0 Fresh.refl rfl rfl
    by_cases h1 : k < 1
    · simp [e0, e4, h1, build27, a1, a2, eds, -aBuild, -ld27, -st27]
      exact ⟨a3, hbad⟩
    · have h2 : 4 < k := by omega
      simp [e0, e4, h1, h2, build27, a1, a2, eds, -aBuild, -ld27, -st27]
      exact ⟨a3, hbad⟩
  have h1 : ¬ k < 1 := by omega
  have h2 : ¬ 4 < k := by omega
  refine aw_cut (fun t => t.env 0 = i64 k ∧ t.env 1 = .string (str s) ∧ t.env 4 = ptr H.next ∧ t.ds = [] ∧ t.H = H1) (by simp [e0, e1, e4, h1, h2, eds]) ?_
  clear e0 e1 e4 eds
  rintro ⟨env, H2, ds⟩ ⟨e0, e1, e4, eds, hH⟩
  simp only at e0 e1 e4 eds hH
  subst hH
  refine aw_cut (fun t => t.env 0 = i64 k ∧ t.env 1 = .string (str s) ∧ t.env 4 = ptr H.next ∧ t.ds = [] ∧ Fresh H2 t.H ∧ ∀ n, 1 ≤ n → n ≤ 99 → s ≠ errLine n) ?_ ?_
  · simp [e1]
    refine callV_R cb24 (readErr_run hs) ?_
    rintro v H3 ⟨f3, hv⟩
    have hst := fun n => st27b (H := ⟨H3.next + 1, upd H3.get H3.next (ansB false nilS nilS 0)⟩) (l := H3.next) (b := false) (s := nilS) (g := nilS) (e := 0) (b' := false) (s' := nilS) (g' := nilS) (e' := n) (by simp) rfl rfl
    have hf4 : ∀ n, Fresh H2 ⟨H3.next + 1, upd (upd H3.get H3.next (ansB false nilS nilS 0)) H3.next (ansB false nilS nilS n)⟩ := fun n => fresh_upd' (fresh_new' f3) f3.1
    rcases hv with ⟨n, n1, n2, rfl, rfl⟩ | ⟨hno, rfl⟩
    · have hl3 := fun n => ld27b (H := ⟨H3.next + 1, upd (upd H3.get H3.next (ansB false nilS nilS 0)) H3.next (ansB false nilS nilS n)⟩) (l := H3.next) (b := false) (s := nilS) (g := nilS) (e := n) (by simp)
      obtain ⟨a1, a2, a3⟩ := fin false nilS nilS n (hf4 n) rfl rfl
      have hgood : Good k (errLine n) false [] [] n := by
        have hn : n ≠ 0 := by omega
        refine ⟨⟨hk, by omega, ?_⟩, by intro x hx; simp at hx, ?_⟩
        · rw [if_pos hn]; exact ⟨rfl, rfl, rfl⟩
        · rw [lineOf, if_pos hn]
      simp [e0, e1, e4, alloc27, hst, hl3, a1, a2, eds, -ld27, -st27]
      exact ⟨a3, .inl ⟨false, [], [], n, _, hgood, ⟨nilS, nilS, none, none, rfl, rows0 _, rowg0 _⟩, rfl⟩⟩
    · simp [e0, e1, e4, alloc27, hst, eds, -ld27, -st27]
      exact ⟨hf4 0, hno⟩
  clear e0 e1 e4 eds
  rintro ⟨env, H3, ds⟩ ⟨e0, e1, e4, eds, f3, hno⟩
  simp only at e0 e1 e4 eds f3
  have hbad : ∀ {H4 : AH}, (∀ hit val gone, ¬ Good k s hit val gone 0) → ReadR k s H4 (.tuple #[zeroA, .bool false]) := fun h => .inr ⟨fun hit val gone err hg => by
    have := good_err hg hno
    subst this
    exact h hit val gone hg, rfl⟩
  by_cases hk1 : k = 1
  · subst hk1
    simp [e0, e1]
    refine callV_R cb25 (readGet_run hs) ?_
    rintro v H4 ⟨f4, hv⟩
    rcases hv with ⟨hit, val, sv, Ov, g1, g2, g3, rfl⟩ | ⟨g1, rfl⟩
    · obtain ⟨rv, rfl, _⟩ := g3.isSlice
      obtain ⟨a1, a2, a3⟩ := fin hit (.slice rv (val.map u8v).length (val.map u8v).length) nilS 0 (f3.trans f4) rfl rfl
      have hgood : Good 1 s hit val [] 0 := ⟨⟨hk, by omega, by simp; exact g1⟩, by intro x hx; simp at hx, by simp [lineOf]; exact g2.symm⟩
      have r4 : H4.get H.next = some (ansB false nilS nilS 0) := by rw [(f3.trans f4).get l1, r1]
      have hr := row_upd (blk := ansB hit (.slice rv (val.map u8v).length (val.map u8v).length) nilS 0) g3 r4
      generalize (val.map u8v).length = nn at *
      simp [e4, a1, a2, eds, -ld27, -st27]
      exact ⟨a3, .inl ⟨hit, val, [], 0, _, hgood, ⟨_, nilS, Ov, none, rfl, hr, rowg0 _⟩, rfl⟩⟩
    · obtain ⟨a1, a2, a3⟩ := fin false nilS nilS 0 (f3.trans f4) rfl rfl
      simp [e4, a1, a2, eds, -ld27, -st27]
      refine ⟨a3, hbad fun hit val gone hg => ?_⟩
      have hm := hg.1.2.2
      have hl := hg.2.2
      simp [lineOf] at hm hl
      exact g1 hit val hm.2 hl.symm
  by_cases hk3 : k = 3
  · subst hk3
    by_cases hok : s = okW
    · obtain ⟨a1, a2, a3⟩ := fin true nilS nilS 0 f3 rfl rfl
      have hgood : Good 3 s true [] [] 0 := ⟨⟨hk, by omega, by simp⟩, by intro x hx; simp at hx, by simp [lineOf]; exact hok.symm⟩
      have hok' : s = [111, 107] := hok
      simp [e0, e1, e4, hok', build27h, a1, a2, eds, -aBuild, -ld27, -st27]
      refine ⟨a3, .inl ⟨true, [], [], 0, _, ?_, ⟨nilS, nilS, none, none, rfl, rows0 _, rowg0 _⟩, rfl⟩⟩
      rw [← hok']; exact hgood
    · have hok' : ¬ s = [111, 107] := hok
      obtain ⟨a1, a2, a3⟩ := fin false nilS nilS 0 f3 rfl rfl
      by_cases hnn : s = noneW
      · have hgood : Good 3 s false [] [] 0 := ⟨⟨hk, by omega, by simp⟩, by intro x hx; simp at hx, by simp [lineOf]; exact hnn.symm⟩
        have hnn' : s = [110, 111, 110, 101] := hnn
        have hx : ¬ ([110, 111, 110, 101] : List UInt8) = [111, 107] := by decide
        simp [e0, e1, e4, hnn', hx, build27h, a1, a2, eds, -aBuild, -ld27, -st27]
        refine ⟨a3, .inl ⟨false, [], [], 0, _, ?_, ⟨nilS, nilS, none, none, rfl, rows0 _, rowg0 _⟩, rfl⟩⟩
        rw [← hnn']; exact hgood
      · have hnn' : ¬ s = [110, 111, 110, 101] := hnn
        simp [e0, e1, e4, hok', hnn', build27h, a1, a2, eds, -aBuild, -ld27, -st27]
        refine ⟨a3, hbad fun hit val gone hg => ?_⟩
        have hl := hg.2.2
        simp [lineOf] at hl
        cases hit with
        | false => simp at hl; exact hnn hl.symm
        | true => simp at hl; exact hok hl.symm
  · have hk24 : k = 2 ∨ k = 4 := by omega
    have hk1' : ¬ (k = 1) := hk1
    refine aw_cut (fun t => t.env 1 = .string (str s) ∧ t.env 4 = ptr H.next ∧ t.ds = [] ∧ t.H = H3) (by simp [e0, e1, e4, hk1, hk3, eds]) ?_
    clear e0 e1 e4 eds
    rintro ⟨env, H4, ds⟩ ⟨e1, e4, eds, hH⟩
    simp only at e1 e4 eds hH
    subst hH
    simp [e1]
    refine callV_R cb26 (readKeys_run hs) ?_
    rintro v H5 ⟨f5, hv⟩
    rcases hv with ⟨g, gv, Og, g1, g2, g3, rfl⟩ | ⟨g1, rfl⟩
    · obtain ⟨rg, rfl, _⟩ := g3.isSlice
      obtain ⟨a1, a2, a3⟩ := fin false nilS (.slice rg (gcells g).length (gcells g).length) 0 (f3.trans f5) rfl rfl
      have hgood : Good k s false [] g 0 := by
        refine ⟨⟨hk, by omega, ?_⟩, g1, ?_⟩
        · simp [hk1, hk3]
        · simp [lineOf, hk1, hk24]; exact g2.symm
      have r4 : H5.get H.next = some (ansB false nilS nilS 0) := by rw [(f3.trans f5).get l1, r1]
      have hr := row_upd (blk := ansB false nilS (.slice rg (gcells g).length (gcells g).length) 0) g3 r4
      generalize (gcells g).length = nn at *
      simp [e4, a1, a2, eds, -ld27, -st27]
      exact ⟨a3, .inl ⟨false, [], g, 0, _, hgood, ⟨nilS, _, none, Og, rfl, rows0 _, hr⟩, rfl⟩⟩
    · obtain ⟨a1, a2, a3⟩ := fin false nilS nilS 0 (f3.trans f5) rfl rfl
      simp [e4, a1, a2, eds, -ld27, -st27]
      refine ⟨a3, hbad fun hit val gone hg => ?_⟩
      have hl := hg.2.2
      simp [lineOf, hk1, hk24] at hl
      exact g1 gone hg.2.1 hl.symm
end Go.Proofs.YtpimepdlbhejhaaDoor.C

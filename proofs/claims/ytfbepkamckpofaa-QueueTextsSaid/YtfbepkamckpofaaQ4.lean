import Derived.Test.YtfbepkamckpofaaQ3
import Derived.Test.YtfbepkamckpofaaA15
set_option linter.unusedVariables false
set_option linter.unusedSimpArgs false
set_option maxRecDepth 4000
set_option maxHeartbeats 2000000
namespace Go.Proofs.Ytfbepkamckpofaa.C
open Go Go.RowKit Go.Proofs.YtfbepkamckpofaaA

theorem same_run {H : AH} {sa sb : Value} {la lb : List Int} {Oa Ob : Option Nat} {wa wb : Bool} (ha : Row 2 wa H sa (la.map i64) Oa) (hb : Row 2 wb H sb (lb.map i64) Ob) (hsm : la.length < 1000000000) :
    CallR cx 17 #[sa, sb] H (fun v H' => v = .bool (decide (la = lb)) ∧ H' = H) := by
  obtain ⟨ra, hra, hra2⟩ := ha.isSlice
  obtain ⟨rb, hrb, hrb2⟩ := hb.isSlice
  subst hra hrb
  simp only [List.length_map] at ha hb
  refine wk17 (by simp) ?_
  by_cases hl : la.length = lb.length
  · have hl' : ((la.length : Int) = lb.length) := by omega
    simp [c17, hl']
    refine aw_loop_to la.length (fun k s => s.env 0 = .slice ra la.length la.length ∧ s.env 1 = .slice rb lb.length lb.length ∧ s.env 5 = i64 k ∧ s.ds = [] ∧ s.H = H ∧ la.take k = lb.take k) ?_ ?_ ?_
    · rintro k ⟨env, H1, ds⟩ hk ⟨e0, e1, e5, eds, eH, htk⟩
      simp only at e0 e1 e5 eds eH
      subst eds eH
      have hkN : (k : Int) < la.length := by omega
      have hkN' : (k : Int) < lb.length := by omega
      have h0k : (0 : Int) ≤ k := by omega
      have hw : IntKind.i64.wrap ((k : Int) + 1) = (k : Int) + 1 := wrap_small (by omega)
      cases Oa with
      | none => obtain ⟨_, h⟩ := ha; simp at h; subst h; simp at hk
      | some oa =>
      cases Ob with
      | none => obtain ⟨_, h⟩ := hb; simp at h; subst h; simp at hkN'; omega
      | some ob =>
      obtain ⟨o, cs, hsl, hcs, htka, hle, hlo⟩ := ha
      obtain ⟨o', cs', hsl', hcs', htkb, hle', hlo'⟩ := hb
      obtain rfl : ra = some ⟨oa, o, none⟩ := by simpa using hsl
      obtain rfl : rb = some ⟨ob, o', none⟩ := by simpa using hsl'
      have hca : cs[o + k]? = some (i64 la[k]) := by rw [row_at htka (by simpa using hk)]; simp
      have hcb : cs'[o' + k]? = some (i64 lb[k]) := by rw [row_at htkb (by simp; omega)]; simp
      have hkl : k < lb.length := by omega
      simp [e0, e1, e5, hkN, hkN', ix32 _ _ _ _ _ _ h0k hkN, ix32 _ _ _ _ _ _ h0k hkN', hcs, hcs', hca, hcb, hw]
      by_cases hx : la[k] = lb[k]
      · simp [hx, e0, e1, e5, hw]
        rw [List.take_add_one, List.take_add_one, htk]
        simp [List.getElem?_eq_getElem hk, List.getElem?_eq_getElem hkl, hx]
      · simp [hx]
        intro h
        subst h
        exact hx rfl
    · rintro ⟨env, H1, ds⟩ ⟨e0, e1, e5, eds, eH, htk⟩
      simp only at e0 e1 e5 eds eH
      subst eds eH
      have : la = lb := by
        rw [List.take_length, hl, List.take_length] at htk
        exact htk
      simp [e0, e5, this]
    · simp [hl']
  · have hl' : ¬ ((la.length : Int) = lb.length) := by omega
    have hne : la ≠ lb := fun h => hl (by rw [h])
    simp [c17, hl', hne]
theorem isq_new {H : AH} {n : Int} (h : 1 ≤ n ∧ n ≤ 65536) : IsQ (H.new (.cells [i64 n, .slice none 0 0, i64 0, i64 0, .int .u64 0] 58 true 0)) H.next none n [] 0 0 0 := by
  refine ⟨by simp [ringV], h.1, h.2, by simp; omega, by simp, by simp; omega, by simp, ⟨rfl, rfl⟩, by simp⟩
theorem _root_.Go.Proofs.YtfbepkamckpofaaA.Keep.high {H H' : AH} {n q : Nat} {r : Option Nat} (h : Keep (Foot q r) H H') (hq : n ≤ q) (hr : ∀ l, r = some l → n ≤ l) : Keep (fun l => n ≤ l) H H' := h.mono fun l _ hl => by
  rcases hl with rfl | hl
  · exact hq
  · exact hr l hl
theorem fresh_of {H H' : AH} (h : Keep (fun l => H.next ≤ l) H H') : Fresh H H' := ⟨h.1, fun l hl _ => h.2 l hl (by omega)⟩
theorem alive_run {H : AH} : CallR cx 9 #[] H (fun v H' => v = .bool true ∧ Fresh H H') := by
  refine wk9 (by simp) ?_
  simp [c9]
  refine callV_R cb12 (new_run (by omega)) ?_
  rintro _ _ ⟨rfl, rfl⟩
  have hq0 := isq_new (H := H) (n := 2) (by omega)
  have hf0 : Fresh H (H.new (.cells [i64 2, .slice none 0 0, i64 0, i64 0, .int .u64 0] 58 true 0)) := Fresh.ofNew
  have hn0 : H.next < (H.new (.cells [i64 2, .slice none 0 0, i64 0, i64 0, .int .u64 0] 58 true 0)).next := Nat.lt_succ_self _
  generalize H.new (.cells [i64 2, .slice none 0 0, i64 0, i64 0, .int .u64 0] 58 true 0) = H1 at *
  simp
  refine callV_R cb14 (push_room hq0 (by simp) (x := .int .i64 5) rfl) ?_
  rintro _ H2 ⟨rfl, r2, f2, N2, hq2, hk2, hr2⟩
  simp
  refine callV_R cb14 (push_room hq2 (by simp) (x := .int .i64 6) rfl) ?_
  rintro _ H3 ⟨rfl, r3, f3, N3, hq3, hk3, hr3⟩
  simp
  refine callV_R cb14 (push_full (y := .int .i64 5) (xs := [.int .i64 6]) hq3 (by simp) (x := .int .i64 7) rfl) ?_
  rintro _ H4 ⟨rfl, f4, hq4, hk4⟩
  simp
  refine callV_R cb15 (get_run (i := 0) hq4 rfl) ?_
  rintro _ _ ⟨rfl, rfl⟩
  simp
  refine callV_R cb18 (len_run hq4) ?_
  rintro _ _ ⟨rfl, rfl⟩
  simp
  refine callV_R cb19 (total_run hq4) ?_
  rintro _ H5 ⟨rfl, hH5⟩
  have hw : IntKind.u64.wrap (IntKind.u64.wrap (IntKind.u64.wrap 1 + 1) + 1) = 3 := by decide
  simp [hw]
  subst hH5
  have hr2' : ∀ l, r2 = some l → H.next ≤ l := fun l e => by
    rcases hr2 with h | ⟨l', h, h'⟩
    · rw [h] at e; cases e
    · rw [h] at e; cases e; omega
  have hr3' : ∀ l, r3 = some l → H.next ≤ l := fun l e => by
    rcases hr3 with h | ⟨l', h, h'⟩
    · exact hr2' l (h ▸ e)
    · rw [h] at e; cases e; have := hk2.1; omega
  exact fresh_of ((((hf0.keep).trans (hk2.high (Nat.le_refl _) (fun l e => by cases e))).trans (hk3.high (Nat.le_refl _) hr2')).trans (hk4.high (Nat.le_refl _) hr3'))
theorem mixed : Try.prog.follows .mixedOrders = true := by kernel_rfl
theorem allOk : progOk Try.prog (fun _ => false) = true := by kernel_rfl
end Go.Proofs.Ytfbepkamckpofaa.C

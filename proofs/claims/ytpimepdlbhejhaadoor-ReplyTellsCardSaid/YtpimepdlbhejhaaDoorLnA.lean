/- The document's line of an answer. Own text of this session. -/
import Derived.Test.YtpimepdlbhejhaaDoorPrA
set_option linter.unusedVariables false
set_option linter.unusedSimpArgs false
set_option maxRecDepth 4000
set_option maxHeartbeats 8000000
namespace Go.Proofs.YtpimepdlbhejhaaDoor.C
open Go Go.RowKit Go.Proofs.YtpimepdlbhejhaaDoorA Go.Proofs.YtpimepdlbhejhaaDoor.Plain
variable {H : AH}
theorem addErr (x : List UInt8) (hx : x.length < 1000) (ox oy : Operand) : aBin Tryd.prog .add 9 ox oy (.string ⟨#[101, 114, 114, 111, 114, 32]⟩) (.string (str x)) = some (.string (str (errP ++ x))) := addW errP x (by simp [errP]; omega) ox oy
theorem addHit (x : List UInt8) (hx : x.length < 10000000) (ox oy : Operand) : aBin Tryd.prog .add 9 ox oy (.string ⟨#[104, 105, 116, 32]⟩) (.string (str x)) = some (.string (str (hitP ++ x))) := addW hitP x (by simp [hitP]; omega) ox oy
theorem row_new5 {H : AH} (l : List UInt8) : Row 5 true (H.new (.cells (l.map u8v) 5 true 1)) (.slice (some ⟨H.next, 0, none⟩) l.length l.length) (l.map u8v) (some H.next) := ⟨0, l.map u8v, by simp, by simp [AH.new], by rw [List.drop_zero, List.take_length], by simp, by simp [AH.new]⟩
/-- ref.Line -/
theorem line_run {w' : Bool} {k : Int} {hit : Bool} {gv : Value} {val : List UInt8} {gone : List Nat} {Og : Option Nat} {e : Int} (hgr : Row 39 w' H gv (gcells gone) Og) (hz : Small64 gone) (hl : val.length ≤ 100000) (hgl : gone.length ≤ 100000) (he : I64 e) :
    CallR cx 8 #[i64 k, .bool hit, .string (str val), gv, i64 e] H (fun v H' => v = .string (str (lineOf k hit val gone e)) ∧ Fresh H H') := by
  obtain ⟨rg, rfl, _⟩ := hgr.isSlice
  simp only [List.length_map] at hgr ⊢
  refine wk8 (by simp) ?_
  unfold c8
  refine aw_cut (fun t => t.env 0 = i64 k ∧ t.env 1 = .bool hit ∧ t.env 2 = .string (str val) ∧ t.env 3 = .slice rg gone.length gone.length ∧ t.env 4 = i64 e ∧ t.ds = [] ∧ t.H = H) (by simp; exact ⟨rfl, rfl, rfl, rfl, rfl⟩) ?_
  rintro ⟨env, H1, ds⟩ ⟨e0, e1, e2, e3, e4, eds, hH⟩
  simp only at e0 e1 e2 e3 e4 eds hH
  subst hH
  by_cases h0 : e = 0
  case neg =>
    simp [e4, h0]
    refine callV_R cb14 (rint_run he) ?_
    rintro _ H2 ⟨rfl, f2⟩
    have ha := addErr (sdec e) (by have := sdec21 he; omega)
    have hln : errP ++ sdec e = lineOf k hit val gone e := by rw [lineOf, if_pos h0, errLine]
    rw [hln] at ha
    simp [ha, eds, f2]
  subst h0
  refine aw_cut (fun t => t.env 0 = i64 k ∧ t.env 1 = .bool hit ∧ t.env 2 = .string (str val) ∧ t.env 3 = .slice rg gone.length gone.length ∧ t.ds = [] ∧ t.H = H1) (by simp [e0, e1, e2, e3, e4, eds]) ?_
  clear e0 e1 e2 e3 e4 eds
  rintro ⟨env, H2, ds⟩ ⟨e0, e1, e2, e3, eds, hH⟩
  simp only at e0 e1 e2 e3 eds hH
  subst hH
  by_cases hk1 : k = 1
  · subst hk1
    cases hit with
    | false =>
      simp [e0, e1, lineOf, getLine, eds]
      exact ⟨rfl, Fresh.refl⟩
    | true =>
      by_cases hv0 : val = []
      · subst hv0
        simp [e0, e1, e2, lineOf, getLine, eds]
        exact ⟨rfl, Fresh.refl⟩
      · simp [e0, e1, e2, hv0]
        refine callV_R cb23 (rhex_run (w := true) (l := val) (O := some H2.next) (row_new5 val) (by omega)) ?_
        rintro _ H3 ⟨rfl, f3⟩
        have ha := addHit (hex val) (by rw [hex_len]; omega)
        have hln : hitP ++ hex val = lineOf 1 true val gone 0 := by simp [lineOf, getLine, hv0]
        simp [ha, hln, eds]
        exact Fresh.ofNew.trans f3
  by_cases hk24 : k = 2 ∨ k = 4
  · have hline : lineOf k hit val gone 0 = keysLine gone := by simp [lineOf, hk1, hk24]
    rw [hline]
    rcases hk24 with rfl | rfl
    all_goals
      simp [e0]
      refine aw_loop_to gone.length (fun k t => t.env 3 = .slice rg gone.length gone.length ∧ t.env 11 = .string (str (Lib.join (keysW gone k) [32])) ∧ t.env 12 = i64 (k : Nat) ∧ t.ds = [] ∧ Fresh H2 t.H) ?_ ?_ ?_
      · clear e0 e1 e2 e3 eds
        rintro k ⟨env, H1, ds⟩ hk ⟨e3, e11, e12, eds, hf⟩
        simp only at e3 e11 e12 eds hf
        have hkN : (k : Int) < gone.length := by omega
        have hw : IntKind.i64.wrap ((k : Int) + 1) = ((k + 1 : Nat) : Int) := by rw [w64 (by omega)]; push_cast; rfl
        have h1 := hgr.keep hf (fun _ _ => id)
        obtain ⟨la, oa, ca, hra, g1, g2, _⟩ := h1.cell (i := k) (x := u64 (gone[k] : Nat)) (by simp [hk])
        have hix := ix24 la oa gone.length gone.length .i64 (k : Int) (by omega) hkN
        rw [Int.toNat_natCast] at hix
        have hsm := hz _ (List.getElem_mem hk)
        have hj := keysJ_succ gone hk
        have hjl := keysJ_len hz k (by omega)
        generalize gone[k] = x at g2 hsm hj
        have hdx := dec20 hsm
        generalize Lib.join (keysW gone k) [32] = t0 at e11 hjl hj
        obtain ⟨t1, ht1⟩ : ∃ t, t = t0 ++ [32] := ⟨_, rfl⟩
        have hl1 : t1.length = t0.length + 1 := by rw [ht1]; simp
        rw [← ht1] at hj
        have a1 : ∀ ox oy, aBin Tryd.prog .add 9 ox oy (.string (str t0)) (.string ⟨#[32]⟩) = some (.string (str t1)) := fun ox oy => by rw [ht1]; exact addW t0 [32] (by simp; omega) ox oy
        have a2 := addW t1 (dec x) (by omega)
        simp [e3, e11, e12, hk, hra, hix, g1, g2, a1]
        refine callV_R cb13 (rprint_run hsm) ?_
        rintro _ H3 ⟨rfl, f3⟩
        simp [e3, e12, hra, a2, hj, hw, eds, hf.trans f3]
      · clear e0 e1 e2 e3 eds
        rintro ⟨env, H1, ds⟩ ⟨e3, e11, e12, eds, hf⟩
        simp only at e3 e11 e12 eds hf
        rw [keysW_all] at e11
        simp [e3, e11, e12, eds, hf]
      · simp [e3, keysW, Lib.join_one, eds, Fresh.refl, okW]
  have hk2 : ¬ k = 2 := fun h => hk24 (.inl h)
  have hk4 : ¬ k = 4 := fun h => hk24 (.inr h)
  by_cases hk3 : k = 3
  · subst hk3
    cases hit with
    | false =>
      simp [e0, e1, lineOf, eds]
      exact ⟨rfl, Fresh.refl⟩
    | true =>
      simp [e0, e1, lineOf, eds]
      exact ⟨rfl, Fresh.refl⟩
  · simp [e0, e1, hk1, hk2, hk3, hk4, lineOf, eds]
    exact ⟨rfl, Fresh.refl⟩
end Go.Proofs.YtpimepdlbhejhaaDoor.C

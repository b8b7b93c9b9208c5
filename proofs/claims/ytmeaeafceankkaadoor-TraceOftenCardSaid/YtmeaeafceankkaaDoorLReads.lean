/- Same, and what is read of a trace. Own text of this session. -/
import Derived.Test.YtmeaeafceankkaaDoorRPar
import Derived.Test.YtmeaeafceankkaaDoorG
set_option linter.unusedVariables false
set_option linter.unusedSimpArgs false
set_option maxRecDepth 4000
set_option maxHeartbeats 4000000
namespace Go.Proofs.YtmeaeafceankkaaDoor.C
open Go Go.RowKit Go.Proofs.YtmeaeafceankkaaDoorA Go.Proofs.YtmeaeafceankkaaDoor.Plain
variable {H : AH}
/-- Same -/
theorem ksame_run {wa wb : Bool} {sa sb : Value} {xs ys : List Nat} {Oa Ob : Option Nat} (ha : Row 39 wa H sa (gcells xs) Oa) (hb : Row 39 wb H sb (gcells ys) Ob) (hl : xs.length < 1000000000) : CallR cx 11 #[sa, sb] H (fun v H' => v = .bool (decide (xs = ys)) ∧ H' = H) := by
  obtain ⟨ra, rfl, _⟩ := ha.isSlice
  obtain ⟨rb, rfl, _⟩ := hb.isSlice
  simp only [List.length_map] at ha hb ⊢
  refine wk11 (by simp) ?_
  by_cases hlen : xs.length = ys.length
  case neg =>
    have : ¬ xs = ys := fun e => hlen (by rw [e])
    have h1 : ¬ (xs.length : Int) = ys.length := by omega
    simp [c11, h1, this]
  have h1 : (xs.length : Int) = ys.length := by omega
  simp [c11, h1]
  rw [← hlen]
  refine aw_loop_to xs.length (fun k t => t.env 0 = .slice ra xs.length xs.length ∧ t.env 1 = .slice rb xs.length xs.length ∧ t.env 5 = i64 (k : Nat) ∧ t.ds = [] ∧ t.H = H ∧ xs.take k = ys.take k) ?_ ?_ ?_
  · rintro k ⟨env, H1, ds⟩ hk ⟨e0, e1, e5, eds, rfl, htk⟩
    simp only at e0 e1 e5 eds
    have hk' : k < ys.length := by omega
    have hkN : (k : Int) < xs.length := by omega
    have h0k : (0 : Int) ≤ k := by omega
    have hw : IntKind.i64.wrap ((k : Int) + 1) = ((k + 1 : Nat) : Int) := by rw [w64 (by omega)]; push_cast; rfl
    rw [← hlen] at hb
    obtain ⟨la, oa, ca, rfl, g1, g2, _⟩ := ha.cell (i := k) (x := u64 (xs[k] : Nat)) (by simp [hk])
    obtain ⟨lb, ob, cb, rfl, g3, g4, _⟩ := hb.cell (i := k) (x := u64 (ys[k] : Nat)) (by simp [hk'])
    simp only at g1 g3
    have e1' : xs.take (k + 1) = xs.take k ++ [xs[k]] := by rw [List.take_add_one, List.getElem?_eq_getElem hk]; rfl
    have e2' : ys.take (k + 1) = ys.take k ++ [ys[k]] := by rw [List.take_add_one, List.getElem?_eq_getElem hk']; rfl
    by_cases heq : xs[k] = ys[k]
    · simp [e0, e1, e5, hk, ix22 _ _ _ _ _ _ h0k hkN, g1, g2, g3, g4, heq, hw, eds]
      rw [e1', e2', htk, heq]
    · have hne : ¬ xs = ys := fun e => heq (by subst e; rfl)
      have hI : ¬ ((xs[k] : Nat) : Int) = ((ys[k] : Nat) : Int) := by omega
      simp [e0, e1, e5, hk, ix22 _ _ _ _ _ _ h0k hkN, g1, g2, g3, g4, heq, hI, hne, eds]
  · rintro ⟨env, H1, ds⟩ ⟨e0, e1, e5, eds, rfl, htk⟩
    simp only at e0 e1 e5 eds
    rw [List.take_length, hlen, List.take_length] at htk
    simp [e0, e5, eds, htk]
  · simp [hlen]
theorem parseF_len : ∀ (ws : List (List UInt8)) (out : List Nat), out.length ≤ 4096 → (parseF ws out).1.length ≤ 4096
  | [], out, h => by rw [parseF]; exact h
  | w :: ws, out, h => by
    rw [parseF]
    split
    · simp
    · split
      · simp
      · exact parseF_len ws _ (by rw [List.length_append, keysOf_len]; omega)
theorem parse_len (s : List UInt8) : (parse s).1.length ≤ 4096 := by
  unfold parse
  split
  · simp
  · exact parseF_len _ _ (by simp)
/-- the law -/
theorem traceReads_run {s : List UInt8} (hg : HasG gs H) (hn : nG ≤ H.next) : CallR cx 4 #[.string (str s)] H (fun v H' => v = .bool true) := by
  refine wk4 (by simp) ?_
  by_cases h3 : 300 < s.length
  · have h3I : (300 : Int) < s.length := by omega
    simp [c4, h3, h3I]
    refine callV_R cba (alive_run hg) ?_
    rintro _ _ ⟨rfl, _⟩
    simp
  have h3I : ¬ (300 : Int) < s.length := by omega
  simp [c4, h3, h3I]
  refine callV_R cb9 (parse_run (by omega)) ?_
  rintro _ H1 ⟨f1, g1, O1, rfl, r1⟩
  simp
  refine callV_R cb12 (rParse_run (by omega)) ?_
  rintro _ H2 ⟨f2, g2, O2, rfl, r2⟩
  simp
  have hl := parse_len s
  refine callV_R cb11 (ksame_run (r1.keep f2 (fun _ _ => id)) r2 (by omega)) ?_
  rintro _ H3 ⟨rfl, hH⟩
  subst hH
  simp
  refine callV_R cba (alive_run ((hg.fresh gs_lt hn f1).fresh gs_lt (Nat.le_trans hn f1.1) f2)) ?_
  rintro _ _ ⟨rfl, _⟩
  simp
end Go.Proofs.YtmeaeafceankkaaDoor.C

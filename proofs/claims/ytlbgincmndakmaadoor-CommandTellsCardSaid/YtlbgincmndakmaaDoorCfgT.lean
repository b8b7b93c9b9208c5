/- ConfigReads over the small heap. Own text of this session. -/
import Derived.Test.YtlbgincmndakmaaDoorPrints
set_option linter.unusedVariables false
set_option linter.unusedSimpArgs false
set_option maxRecDepth 4000
set_option maxHeartbeats 4000000
namespace Go.Proofs.YtlbgincmndakmaaDoor.C
open Go Go.RowKit Go.Proofs.YtlbgincmndakmaaDoorA Go.Proofs.YtlbgincmndakmaaDoor.Plain
variable {H : AH} {p c q g : Int}
theorem eq24 (p c q g p' c' q' g' : Int) (ox oy : Operand) : aBin Tryd.prog .eql 27 ox oy (cfg p c q g) (cfg p' c' q' g') = some (.bool (eqL [i64 p, i64 c, i64 q, i64 g] [i64 p', i64 c', i64 q', i64 g'])) :=
  (aBin_struct (P := Tryd.prog) (t := 27) (Ds := [.int .i64, .int .i64, .int .i64, .int .i64]) (by kernel_rfl) [i64 p, i64 c, i64 q, i64 g] [i64 p', i64 c', i64 q', i64 g'] rfl rfl ox oy).1
theorem ne24 (p c q g p' c' q' g' : Int) (ox oy : Operand) : aBin Tryd.prog .neq 27 ox oy (cfg p c q g) (cfg p' c' q' g') = some (.bool (!eqL [i64 p, i64 c, i64 q, i64 g] [i64 p', i64 c', i64 q', i64 g'])) :=
  (aBin_struct (P := Tryd.prog) (t := 27) (Ds := [.int .i64, .int .i64, .int .i64, .int .i64]) (by kernel_rfl) [i64 p, i64 c, i64 q, i64 g] [i64 p', i64 c', i64 q', i64 g'] rfl rfl ox oy).2
theorem eqLr (p c q g : Int) : eqL [i64 p, i64 c, i64 q, i64 g] [i64 p, i64 c, i64 q, i64 g] = true := by simp
theorem neW (a b : List UInt8) (ox oy : Operand) : aBin Tryd.prog .neq 9 ox oy (.string (str a)) (.string (str b)) = some (.bool (decide (a ≠ b))) := aBin_strneL ox oy un9 a b
theorem eqW (a b : List UInt8) (ox oy : Operand) : aBin Tryd.prog .eql 9 ox oy (.string (str a)) (.string (str b)) = some (.bool (decide (a = b))) := aBin_streqL ox oy un9 a b
theorem pol_name {s : ByteArray} (h : polOf s ≠ 0) : nameOf (polOf s) = s := by
  unfold polOf at h ⊢
  by_cases h1 : nameOf 1 = s
  · rw [if_pos h1]; exact h1
  rw [if_neg h1] at h ⊢
  by_cases h2 : nameOf 2 = s
  · rw [if_pos h2]; exact h2
  rw [if_neg h2] at h ⊢
  by_cases h3 : nameOf 3 = s
  · rw [if_pos h3]; exact h3
  rw [if_neg h3] at h ⊢
  by_cases h4 : nameOf 4 = s
  · rw [if_pos h4]; exact h4
  rw [if_neg h4] at h
  exact absurd rfl h
theorem name_pol (h : 1 ≤ p ∧ p ≤ 4) : polOf (nameOf p) = p := by
  have : p = 1 ∨ p = 2 ∨ p = 3 ∨ p = 4 := by omega
  rcases this with rfl | rfl | rfl | rfl <;> decide
/-- what was read without an error is told as it was -/
theorem out_text {s : List UInt8} (h : (outOf s).2.2.2.2 = 0) : May (outOf s).1 (outOf s).2.1 (outOf s).2.2.1 (outOf s).2.2.2.1 ∧ textOf (outOf s).1 (outOf s).2.1 (outOf s).2.2.1 (outOf s).2.2.2.1 = s := by
  by_cases h4 : (splitL 32 s).length = 4
  case neg => rw [out_len h4] at h; cases h
  obtain ⟨w0, w1, w2, w3, hw⟩ := four h4
  have hout : outOf s = if polOf (str w0) ≠ 0 ∧ okI w1 = true ∧ okI w2 = true ∧ okI w3 = true then
      (if May (polOf (str w0)) (rdI w1) (rdI w2) (rdI w3) then (polOf (str w0), rdI w1, rdI w2, rdI w3, 0) else (0, 0, 0, 0, 2)) else (0, 0, 0, 0, 7) := by
    unfold outOf; rw [hw]
  by_cases hok : polOf (str w0) ≠ 0 ∧ okI w1 = true ∧ okI w2 = true ∧ okI w3 = true
  case neg => rw [hout, if_neg hok] at h; cases h
  rw [if_pos hok] at hout
  by_cases hm : May (polOf (str w0)) (rdI w1) (rdI w2) (rdI w3)
  case neg => rw [hout, if_neg hm] at h; cases h
  rw [if_pos hm] at hout
  rw [hout]
  refine ⟨hm, ?_⟩
  obtain ⟨h0, h1, h2, h3⟩ := hok
  have e0 : nameL (polOf (str w0)) = w0 := by unfold nameL; rw [pol_name h0]
  show textOf (polOf (str w0)) (rdI w1) (rdI w2) (rdI w3) = s
  unfold textOf
  rw [e0, ← (okI_is h1).2, ← (okI_is h2).2, ← (okI_is h3).2, ← hw, join_splitL]
/-- and what is told is read back -/
theorem text_out (hm : May p c q g) : outOf (textOf p c q g) = (p, c, q, g, 0) := by
  obtain ⟨i1, i2, i3⟩ := may_i64 hm
  have hs : splitL 32 (textOf p c q g) = [nameL p, sdec c, sdec q, sdec g] := by
    unfold textOf
    refine splitL_join (by simp) ?_
    intro x hx
    simp only [List.mem_cons, List.not_mem_nil, or_false] at hx
    rcases hx with rfl | rfl | rfl | rfl
    · exact name_plain p
    · exact sdec_plain c
    · exact sdec_plain q
    · exact sdec_plain g
  have hp : polOf (str (nameL p)) = p := by rw [← nameOf_str]; exact name_pol hm.1
  obtain ⟨k1, k2⟩ := isI_rd (l := sdec c) ⟨i1, rfl⟩
  obtain ⟨k3, k4⟩ := isI_rd (l := sdec q) ⟨i2, rfl⟩
  obtain ⟨k5, k6⟩ := isI_rd (l := sdec g) ⟨i3, rfl⟩
  have hp0 : p ≠ 0 := by have := hm.1; omega
  unfold outOf
  rw [hs]
  simp [hp, k1, k2, k3, k4, k5, k6, hp0, hm]
end Go.Proofs.YtlbgincmndakmaaDoor.C

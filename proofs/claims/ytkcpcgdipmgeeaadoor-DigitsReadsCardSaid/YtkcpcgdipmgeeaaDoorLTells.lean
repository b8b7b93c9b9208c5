/- DigitsTells and DigitsReads over the small heap. Own text of this session. -/
import Derived.Test.YtkcpcgdipmgeeaaDoorNum2
set_option linter.unusedVariables false
set_option linter.unusedSimpArgs false
set_option maxRecDepth 4000
set_option maxHeartbeats 4000000
namespace Go.Proofs.YtkcpcgdipmgeeaaDoor.C
open Go Go.RowKit Go.Proofs.YtkcpcgdipmgeeaaDoorA Go.Proofs.YtkcpcgdipmgeeaaDoor.Plain
variable {H : AH}
theorem isI_uniq {l : List UInt8} {i j : Int} (h : IsI l i) (h' : IsI l j) : i = j := by
  by_cases hl : l.head? = some 45
  · obtain ⟨h1, h2⟩ := isI_neg h hl
    obtain ⟨h3, h4⟩ := isI_neg h' hl
    have := h2.uniq h4
    omega
  · obtain ⟨h1, h2⟩ := isI_pos h hl
    obtain ⟨h3, h4⟩ := isI_pos h' hl
    have := h2.uniq h4
    omega
theorem streq (a b : List UInt8) (ox oy : Operand) : aBin Tryd.prog .eql 9 ox oy (.string (str a)) (.string (str b)) = some (.bool (decide (a = b))) := aBin_streqL ox oy un9 a b
theorem digitsTells_run {n i : Int} (hg : HasG gs H) (hn : nG ≤ H.next) (w0 : (Lit.int .u64 n).wf = true) (w1 : (Lit.int .i64 i).wf = true) : CallR cx 4 #[.int .u64 n, i64 i] H (fun v _ => v = .bool true) := by
  have b0 : 0 ≤ n ∧ n < 18446744073709551616 := by simp [Lit.wf, IntKind.min, IntKind.max, IntKind.signed, IntKind.bits] at w0; omega
  have b1 : I64 i := by simp [Lit.wf, IntKind.min, IntKind.max, IntKind.signed, IntKind.bits] at w1; unfold I64; omega
  obtain ⟨m, rfl⟩ : ∃ m : Nat, n = m := ⟨n.toNat, by omega⟩
  have hm : m < 18446744073709551616 := by omega
  have hIs : Is (dec m) m := ⟨hm, rfl⟩
  have hIsI : IsI (sdec i) i := ⟨b1, rfl⟩
  refine wk4 (by simp) ?_
  simp [c4]
  refine callV_R cb12 (print_run hm) ?_
  rintro _ H1 ⟨rfl, hf1⟩
  have hg1 := hg.fresh gs_lt hn hf1
  simp
  refine callV_R cb13 (int_run b1) ?_
  rintro _ H2 ⟨rfl, hf2⟩
  have hg2 := hg1.fresh gs_lt (Nat.le_trans hn hf1.1) hf2
  simp
  refine callV_R cb14 read_run ?_
  rintro v H2 ⟨rfl, hv⟩
  rcases hv with ⟨k, hk, rfl⟩ | ⟨hno, rfl⟩
  rotate_left
  · exact absurd hIs (hno m)
  obtain rfl := hk.uniq hIs
  simp
  refine callV_R cb15 readInt_run ?_
  rintro v H2 ⟨rfl, hv⟩
  rcases hv with ⟨j, hj, rfl⟩ | ⟨hno, rfl⟩
  rotate_left
  · exact absurd hIsI (hno i)
  obtain rfl := isI_uniq hj hIsI
  simp
  refine callV_R cb16 (rprint_run hm) ?_
  rintro _ H3 ⟨rfl, hf3⟩
  have hg3 := hg2.fresh gs_lt (Nat.le_trans hn (Nat.le_trans hf1.1 hf2.1)) hf3
  simp [streq]
  refine callV_R cb17 (rint_run b1) ?_
  rintro _ H4 ⟨rfl, hf4⟩
  have hg4 := hg3.fresh gs_lt (Nat.le_trans hn (Nat.le_trans hf1.1 (Nat.le_trans hf2.1 hf3.1))) hf4
  simp [streq]
  refine callV_R cba (alive_run hg4) ?_
  rintro _ _ ⟨rfl, _⟩
  simp
end Go.Proofs.YtkcpcgdipmgeeaaDoor.C

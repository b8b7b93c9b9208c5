/- What is told of a trace is read back: the law. Own text of this session. -/
import Derived.Test.YtmeaeafceankkaaDoorPrT
import Derived.Test.YtmeaeafceankkaaDoorLReads
set_option linter.unusedVariables false
set_option linter.unusedSimpArgs false
set_option maxRecDepth 4000
set_option maxHeartbeats 4000000
namespace Go.Proofs.YtmeaeafceankkaaDoor.C
open Go Go.RowKit Go.Proofs.YtmeaeafceankkaaDoorA Go.Proofs.YtmeaeafceankkaaDoor.Plain
variable {H : AH}
theorem wfU {n : Int} (h : (Lit.int .u64 n).wf = true) : 0 ≤ n ∧ n < 18446744073709551616 := by
  simp [Lit.wf, IntKind.has, IntKind.min, IntKind.max, IntKind.bits, IntKind.signed] at h
  omega
theorem of_ints {zs : List Int} (h : ∀ n ∈ zs, (Lit.int .u64 n).wf = true) : ∃ l : List Nat, zs.map (Value.int .u64) = gcells l ∧ Sm l ∧ l.length = zs.length := by
  refine ⟨zs.map Int.toNat, ?_, ?_, by simp⟩
  · rw [gcells, List.map_map]
    refine List.map_congr_left fun n hn => ?_
    have := wfU (h n hn)
    simp [Int.toNat_of_nonneg this.1]
  · intro x hx
    obtain ⟨n, hn, rfl⟩ := List.mem_map.1 hx
    have := wfU (h n hn)
    omega
/-- trace.Print of too many -/
theorem tprint_long {w : Bool} {sv : Value} {l : List Nat} {O : Option Nat} (h : Row 39 w H sv (gcells l) O) (hl : 4096 < l.length) : CallR cx 8 #[sv] H (fun v H' => v = .tuple #[.string (str []), i64 6] ∧ H' = H) := by
  obtain ⟨ra, rfl, _⟩ := h.isSlice
  simp only [List.length_map]
  have h4I : (4096 : Int) < l.length := by omega
  refine wk8 (by simp) ?_
  simp [c8, hl, h4I]
theorem eqW (a b : List UInt8) (ox oy : Operand) : aBin Tryd.prog .eql 9 ox oy (.string (str a)) (.string (str b)) = some (.bool (decide (a = b))) := aBin_streqL ox oy un9 a b
/-- the law -/
theorem traceTells_run {sv : Value} {zs : List Int} {len : Nat} {O : Option Nat} (hg : HasG gs H) (hn : nG ≤ H.next) (hrow : Row 39 false H sv (zs.map (Value.int .u64)) O) (hlen : zs.length = len) (hwf : ∀ n ∈ zs, (Lit.int .u64 n).wf = true) : CallR cx 3 #[sv] H (fun v _ => v = .bool true) := by
  obtain ⟨l, hzl, hs, hll⟩ := of_ints hwf
  rw [hzl] at hrow
  clear hzl hwf hlen hll
  have hpr := fun hl => tprint_run (H := H) hrow hs hl
  have hrpr := fun H1 (f : Fresh H H1) hl => rtprint_run (hrow.keep f (fun _ _ => id)) hs hl
  have hlong := fun hl => tprint_long (H := H) hrow hl
  have hrow0 := hrow
  obtain ⟨ra, rfl, _⟩ := hrow.isSlice
  simp only [List.length_map] at hrow hpr hrpr hlong hrow0 ⊢
  refine wk3 (by simp) ?_
  by_cases h5 : 5000 < l.length
  · have h5I : (5000 : Int) < l.length := by omega
    simp [c3, h5, h5I]
    refine callV_R cba (alive_run hg) ?_
    rintro _ _ ⟨rfl, _⟩
    simp
  have h5I : ¬ (5000 : Int) < l.length := by omega
  simp [c3, h5, h5I]
  by_cases h4 : 4096 < l.length
  · have h4I : (4096 : Int) < l.length := by omega
    refine callV_R cb8 (hlong h4) ?_
    rintro _ H1 ⟨rfl, hH⟩
    subst hH
    simp [h4, h4I, eqW]
    refine callV_R cba (alive_run hg) ?_
    rintro _ _ ⟨rfl, _⟩
    simp
  have h4I : ¬ (4096 : Int) < l.length := by omega
  refine callV_R cb8 (hpr (by omega)) ?_
  rintro _ H1 ⟨rfl, f1⟩
  simp [h4, h4I]
  have hshort := text_short hs (by omega)
  refine callV_R cb9 (parse_run hshort) ?_
  rintro _ H2 ⟨f2, gv, O2, rfl, r2⟩
  rw [parse_text hs (by omega)] at r2 ⊢
  simp
  refine callV_R cb10 (hrpr H2 (f1.trans f2) (by omega)) ?_
  rintro _ H3 ⟨rfl, f3⟩
  simp [eqW]
  have f13 := (f1.trans f2).trans f3
  refine callV_R cb11 (ksame_run (r2.keep f3 (fun _ _ => id)) (hrow0.keep f13 (fun _ _ => id)) (by simp only; omega)) ?_
  rintro _ H4 ⟨rfl, hH⟩
  subst hH
  simp
  refine callV_R cba (alive_run (hg.fresh gs_lt hn f13)) ?_
  rintro _ _ ⟨rfl, _⟩
  simp
end Go.Proofs.YtmeaeafceankkaaDoor.C

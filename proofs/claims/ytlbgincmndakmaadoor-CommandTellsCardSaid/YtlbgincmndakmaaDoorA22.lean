/-
  A SMALL HEAP FOR A LARGE ONE (part 22: an argument that is a struct of any fields). Own text of this session.
-/
import Derived.Test.YtlbgincmndakmaaDoorA17
import Derived.ChangeArms
import Derived.WideShapes
set_option linter.unusedVariables false
set_option linter.unusedSimpArgs false
namespace Go.Proofs.YtlbgincmndakmaaDoorA
open Go Go.RowKit Go.WideShapes
section
variable {HH : Type} {enc : TypeId × Value → HH} {P : Program} {w : World} {base b0 : Nat} {r : Reach} {held : Bool} {spare : Nat → Bool}
theorem sub_struct {t : TypeId} {fs : Array Field} {fuel : Nat} {cs : List Value} {x : DataW HH × List MemPlace} (hs : P.underlying t = some (.struct fs)) (h : DataW.trod enc P w base spare held fuel t cs = some x) :
    cs.length = P.cellsOf t ∧ ∀ (i : Nat) (f : Field), fs[i]? = some f → ∃ n y, DataW.trod enc P w base spare held n f.type ((cs.drop f.offset).take (P.cellsOf f.type)) = some y := by
  obtain ⟨xs, n, _, hx, hl, hlen, hfs⟩ := DataW.trod_struct hs h
  refine ⟨hl, fun i f hf => ?_⟩
  have h1 := hfs i f hf
  have hi : i < xs.length := by
    have := (Array.getElem?_eq_some_iff.1 hf).1
    omega
  exact ⟨n, xs[i], h1.trans (List.getElem?_eq_getElem hi)⟩
theorem open_struct {t : TypeId} {fs : Array Field} {v : Value} {d : DataW HH} {ps : List MemPlace} (hs : P.underlying t = some (.struct fs)) (hv : Value.okWide P w r b0 t v) (h : DataW.Trod enc P w base spare held t v d ps) :
    ∃ cs : List Value, v = .agg cs.toArray ∧ cs.length = P.cellsOf t ∧ ∀ (i : Nat) (f : Field), fs[i]? = some f → ∃ n y, DataW.trod enc P w base spare held n f.type ((cs.drop f.offset).take (P.cellsOf f.type)) = some y := by
  obtain ⟨cs, rfl, hsz⟩ := okWide_struct hs hv
  obtain ⟨fuel, hf⟩ := h
  have hc : Value.cells (.agg cs) = cs := rfl
  rw [hc] at hf
  obtain ⟨h1, h2⟩ := sub_struct hs hf
  exact ⟨cs.toList, by simp, h1, h2⟩
theorem cell_int {t : TypeId} {k : IntKind} {n : Nat} {v : Value} {y : DataW HH × List MemPlace} (hu : P.underlying t = some (.int k)) (h : DataW.trod enc P w base spare held n t [v] = some y) : ∃ a, v = .int k a ∧ (Lit.int k a).wf = true := by
  obtain ⟨a, h1, _, h2⟩ := DataW.trod_int hu h
  exact ⟨a, by simpa using h1, h2⟩
theorem cell_bool {t : TypeId} {n : Nat} {v : Value} {y : DataW HH × List MemPlace} (hu : P.underlying t = some .bool) (h : DataW.trod enc P w base spare held n t [v] = some y) : ∃ a, v = .bool a := by
  obtain ⟨a, h1, _⟩ := DataW.trod_bool hu h
  exact ⟨a, by simpa using h1⟩
theorem cell_slice {t e : TypeId} {n : Nat} {v : Value} {y : DataW HH × List MemPlace} (hu : P.underlying t = some (.slice e)) (h : DataW.trod enc P w base spare held n t [v] = some y) :
    ∃ a len cap, v = .slice a len cap ∧ DataW.Trod enc P w base spare held t (.slice a len cap) y.1 y.2 := by
  rcases DataW.trod_slice hu h with ⟨h1, _⟩ | ⟨a, len, cap, _, _, _, _, h1, _⟩
  · obtain rfl : v = .slice none 0 0 := by simpa using h1
    exact ⟨none, 0, 0, rfl, n, by simpa [Value.cells] using h⟩
  · obtain rfl : v = .slice (some a) len cap := by simpa using h1
    exact ⟨some a, len, cap, rfl, n, by simpa [Value.cells] using h⟩
variable {t : TypeId} {cs : List Value} {off : Nat}
theorem fld_int {k : IntKind} {v : Value} (hu : P.underlying t = some (.int k)) (hc : P.cellsOf t = 1) (hcs : (cs.drop off).take 1 = [v]) (h : ∃ n y, DataW.trod enc P w base spare held n t ((cs.drop off).take (P.cellsOf t)) = some y) : ∃ a, v = .int k a ∧ (Lit.int k a).wf = true := by
  obtain ⟨n, y, h⟩ := h
  rw [hc, hcs] at h
  exact cell_int hu h
theorem fld_bool {v : Value} (hu : P.underlying t = some .bool) (hc : P.cellsOf t = 1) (hcs : (cs.drop off).take 1 = [v]) (h : ∃ n y, DataW.trod enc P w base spare held n t ((cs.drop off).take (P.cellsOf t)) = some y) : ∃ a, v = .bool a := by
  obtain ⟨n, y, h⟩ := h
  rw [hc, hcs] at h
  exact cell_bool hu h
theorem fld_slice {e : TypeId} {v : Value} (hu : P.underlying t = some (.slice e)) (hc : P.cellsOf t = 1) (hcs : (cs.drop off).take 1 = [v]) (h : ∃ n y, DataW.trod enc P w base spare held n t ((cs.drop off).take (P.cellsOf t)) = some y) :
    ∃ a len cap d ps, v = .slice a len cap ∧ DataW.Trod enc P w base spare held t (.slice a len cap) d ps := by
  obtain ⟨n, y, h⟩ := h
  rw [hc, hcs] at h
  obtain ⟨a, len, cap, h1, h2⟩ := cell_slice hu h
  exact ⟨a, len, cap, _, _, h1, h2⟩
theorem fld_struct {fs : Array Field} {m : Nat} {ds : List Value} (hs : P.underlying t = some (.struct fs)) (hc : P.cellsOf t = m) (hcs : (cs.drop off).take m = ds) (h : ∃ n y, DataW.trod enc P w base spare held n t ((cs.drop off).take (P.cellsOf t)) = some y) :
    ∀ (i : Nat) (f : Field), fs[i]? = some f → ∃ n y, DataW.trod enc P w base spare held n f.type ((ds.drop f.offset).take (P.cellsOf f.type)) = some y := by
  obtain ⟨n, y, h⟩ := h
  rw [hc, hcs] at h
  exact (sub_struct hs h).2
end
theorem lst4 {cs : List Value} (h : cs.length = 4) : ∃ a0 a1 a2 a3, cs = [a0, a1, a2, a3] := by match cs, h with | [a0, a1, a2, a3], _ => exact ⟨a0, a1, a2, a3, rfl⟩
theorem lst7 {cs : List Value} (h : cs.length = 7) : ∃ a0 a1 a2 a3 a4 a5 a6, cs = [a0, a1, a2, a3, a4, a5, a6] := by match cs, h with | [a0, a1, a2, a3, a4, a5, a6], _ => exact ⟨a0, a1, a2, a3, a4, a5, a6, rfl⟩
theorem vr_aggL {ρ : LMap} {a b : List Value} (h : VRs ρ a b) : VR ρ (.agg a.toArray) (.agg b.toArray) := by
  have hv := vra_list (ρ := ρ) (a := a.toArray) (b := b.toArray) (by simpa using h)
  exact .agg _ _ hv.1 hv.2
end Go.Proofs.YtlbgincmndakmaaDoorA

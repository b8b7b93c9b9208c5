/- Counts one by one, over the small heap. Own text of this session. -/
import Derived.Test.YtpimepdlbhejhaaDoorCnt
set_option linter.unusedVariables false
set_option linter.unusedSimpArgs false
set_option maxRecDepth 4000
set_option maxHeartbeats 8000000
namespace Go.Proofs.YtpimepdlbhejhaaDoor.C
open Go Go.RowKit Go.Proofs.YtpimepdlbhejhaaDoorA Go.Proofs.YtpimepdlbhejhaaDoor.Plain
variable {H : AH}
abbrev u64 (n : Int) : Value := .int .u64 n
def cnts (ns : List Int) : List Value := ns.map u64
abbrev cntV (ns : List Int) : Value := .agg (cnts ns).toArray
abbrev cntB (ns : List Int) : ABlk := .cells (cnts ns) 41 true 0
@[simp] theorem cnts_length (ns : List Int) : (cnts ns).length = ns.length := by simp [cnts]
theorem cnts_at {ns : List Int} {k : Nat} (hk : k < ns.length) : (cnts ns)[k]? = some (u64 ns[k]) := by simp [cnts, hk]
theorem cnts_cell (ns : List Int) : ∀ v ∈ cnts ns, isCell v = true := by
  intro v hv
  obtain ⟨x, _, rfl⟩ := List.mem_map.1 hv
  rfl
theorem cnts_all (ns : List Int) : (cnts ns).all isCell = true := List.all_eq_true.2 (cnts_cell ns)
theorem ten {ns : List Int} (h : ns.length = 10) : ∃ a0 a1 a2 a3 a4 a5 a6 a7 a8 a9, ns = [a0, a1, a2, a3, a4, a5, a6, a7, a8, a9] := len10 h
theorem fresh_upd' {H H' : AH} {b : ABlk} {l : Nat} (h : Fresh H H') (hl : H.next ≤ l) : Fresh H ⟨H'.next, upd H'.get l b⟩ := ⟨h.1, fun x hx _ => by
  have : ¬ x = l := by omega
  simp only [upd_get, this, if_false]
  exact h.get hx⟩
theorem fresh_new' {H H' : AH} {b : ABlk} (h : Fresh H H') : Fresh H ⟨H'.next + 1, upd H'.get H'.next b⟩ := h.trans Fresh.ofNew
/-- the fields' places -/
def flds (l : Nat) : List Value := (List.range 10).map fun j => .pointer (some ⟨l, j, none⟩)
theorem flds_at (l : Nat) {k : Nat} (hk : k < 10) : (flds l)[k]? = some (.pointer (some ⟨l, k, none⟩)) := by simp [flds, hk]
theorem alloc76 (H : AH) : aAlloc Tryd.prog 76 H = some (ptr H.next, ⟨H.next + 1, upd H.get H.next (.cells (List.replicate 10 (.pointer none)) 76 true 0)⟩) := by kernel_rfl
theorem alloc41 (H : AH) : aAlloc Tryd.prog 41 H = some (ptr H.next, ⟨H.next + 1, upd H.get H.next (.cells (List.replicate 10 (u64 0)) 41 true 0)⟩) := by kernel_rfl
theorem lay76 : layoutOf Tryd.prog 76 = some ((List.range 10).map fun i => (i, 1), List.replicate 10 (.pointer none)) := by kernel_rfl
/-- tally.fields -/
theorem fields_run {l : Nat} : CallR cx 46 #[ptr l] H (fun v H' => v = .agg (flds l).toArray ∧ Fresh H H') := by
  refine wk46 (by simp) ?_
  simp [c46, alloc76, lay76]
  exact ⟨rfl, fresh_upd' (fresh_new' Fresh.refl) (Nat.le_refl _)⟩
/-- ref.List -/
theorem list_run {ns : List Int} (hl : ns.length = 10) : CallR cx 29 #[cntV ns] H (fun v H' => Fresh H H' ∧ Row 39 true H' v (cnts ns) (some (H.next + 1))) := by
  refine wk29 (by simp) ?_
  have hb := aBuildSliceN (P := Tryd.prog) un24 sz39 (z := u64 0) (by kernel_rfl) (cnts ns) (cnts_cell ns) (by simp [hl]) ⟨H.next + 1, upd H.get H.next (cntB ns)⟩
  obtain ⟨a0, a1, a2, a3, a4, a5, a6, a7, a8, a9, rfl⟩ := ten hl
  have hb' : aBuildSlice Tryd.prog 24 10 [(0, u64 a0), (1, u64 a1), (2, u64 a2), (3, u64 a3), (4, u64 a4), (5, u64 a5), (6, u64 a6), (7, u64 a7), (8, u64 a8), (9, u64 a9)] ⟨H.next + 1, upd H.get H.next (.cells [u64 a0, u64 a1, u64 a2, u64 a3, u64 a4, u64 a5, u64 a6, u64 a7, u64 a8, u64 a9] 41 true 0)⟩ = some (.slice (some ⟨H.next + 1, 0, none⟩) 10 10, ⟨H.next + 1 + 1, upd (upd H.get H.next (.cells [u64 a0, u64 a1, u64 a2, u64 a3, u64 a4, u64 a5, u64 a6, u64 a7, u64 a8, u64 a9] 41 true 0)) (H.next + 1) (.cells [u64 a0, u64 a1, u64 a2, u64 a3, u64 a4, u64 a5, u64 a6, u64 a7, u64 a8, u64 a9] 39 true 1)⟩) := hb
  simp [c29, cnts, AH.new, hb']
  exact ⟨fresh_new' Fresh.ofNew, 0, cnts [a0, a1, a2, a3, a4, a5, a6, a7, a8, a9], rfl, by simp [cnts], rfl, by simp, by simp⟩
theorem ix76 (l k : Nat) (hk : k < 10) : aIndex Tryd.prog 76 (.agg (flds l).toArray) (.int .i64 (k : Int)) = some (.pointer (some ⟨l, k, none⟩)) := by
  have hs : sz Tryd.prog 75 = some 1 := by kernel_rfl
  have ha : aggT Tryd.prog 75 = some false := by kernel_rfl
  have hk' : (k : Int) < 10 := by omega
  simp [aIndex, un76, hs, aPart, ha, hk', flds_at l hk]
theorem place_cases (s : List UInt8) : placeOf s = -1 ∨ ∃ k : Nat, k < 10 ∧ placeOf s = k := by
  unfold placeOf
  split
  · rename_i h
    exact .inr ⟨_, by have := List.idxOf_lt_length_of_mem h; simpa [nm_len] using this, rfl⟩
  · exact .inl rfl
end Go.Proofs.YtpimepdlbhejhaaDoor.C

/- Counts, their fields and names, over the small heap. Own text of this session. -/
import Derived.Test.YtpimepdlbhejhaaDoorNum2
import Derived.Test.YtpimepdlbhejhaaDoorGn
import Derived.Test.YtpimepdlbhejhaaDoorWords
set_option linter.unusedVariables false
set_option linter.unusedSimpArgs false
set_option maxRecDepth 4000
set_option maxHeartbeats 4000000
namespace Go.Proofs.YtpimepdlbhejhaaDoor.C
open Go Go.RowKit Go.Proofs.YtpimepdlbhejhaaDoorA Go.Proofs.YtpimepdlbhejhaaDoor.Plain
variable {H : AH}
/-- the names -/
def nm : List (List UInt8) := [[104, 105, 116, 115], [109, 105, 115, 115, 101, 115], [114, 97, 105, 115, 101, 100], [108, 111, 119, 101, 114, 101, 100], [112, 114, 117, 110, 101, 100], [101, 118, 105, 99, 116, 101, 100], [102, 111, 114, 103, 111, 116, 116, 101, 110], [99, 108, 101, 97, 114, 101, 100], [101, 110, 100, 101, 100], [115, 116, 101, 112, 115]]
theorem nm_len : nm.length = 10 := rfl
theorem names_glob (hg : HasG gsN H) : H.get 0 = some (.cells (strs nm) 0 false 1) := by
  have hm : ∃ x ∈ gsN, x = (0, strs nm) := ⟨_, List.mem_cons_self, by kernel_rfl⟩
  obtain ⟨x, hx, rfl⟩ := hm
  exact hg _ hx
theorem nm_idx : ∀ k : Fin 10, nm.idxOf (nm[k.val]'(by have := k.isLt; simp [nm_len])) = k.val := by decide
/-- a name's place -/
def placeOf (s : List UInt8) : Int := if s ∈ nm then (nm.idxOf s : Nat) else -1
theorem place_at {s : List UInt8} {k : Nat} (hk : k < 10) (h : nm[k]'(by simp [nm_len, hk]) = s) : placeOf s = k := by
  have h1 := nm_idx ⟨k, hk⟩
  simp only at h1
  rw [h] at h1
  unfold placeOf
  rw [if_pos (by rw [← h]; exact List.getElem_mem _), h1]
theorem place_none {s : List UInt8} (h : ∀ j (hj : j < 10), nm[j]'(by simp [nm_len, hj]) ≠ s) : placeOf s = -1 := by
  unfold placeOf
  rw [if_neg]
  intro hm
  obtain ⟨j, hj, e⟩ := List.getElem_of_mem hm
  exact h j (by simpa [nm_len] using hj) e
theorem ix79 (l o : Nat) (j : Nat) (h : j < 10) : aIndexAddr Tryd.prog 79 (.pointer (some ⟨l, o, none⟩)) (.int .i64 (j : Int)) = some (.pointer (some ⟨l, o + j, none⟩)) := by
  rw [aIndexAddr_array (P := Tryd.prog) un79 sz9 l o .i64 (j : Int) (by omega) (by omega)]
  simp
theorem eqW (a b : List UInt8) (ox oy : Operand) : aBin Tryd.prog .eql 9 ox oy (.string (str a)) (.string (str b)) = some (.bool (decide (a = b))) := aBin_streqL ox oy un9 a b
theorem nm_cell (k : Nat) (hk : k < 10) : (strs nm)[k]? = some (.string (str (nm[k]'(by simp [nm_len, hk])))) := by
  simp [strs, nm_len, hk]
  rfl
theorem el24 : El Tryd.prog 24 39 := ⟨un24, by kernel_rfl, (Tryd.prog.info? 39).getD default, by kernel_rfl, by kernel_rfl, of_decide_eq_true (by kernel_rfl), by kernel_rfl⟩
theorem mk60 (H : AH) : aMakeSlice Tryd.prog 60 (.int .i64 0) (.int .i64 10) H = some (.slice (some ⟨H.next, 0, none⟩) 0 0, ⟨H.next + 1, upd H.get H.next (.cells [] 9 true 1)⟩) := by kernel_rfl
theorem nm_take (k : Nat) (hk : k < 10) : nm.take (k + 1) = nm.take k ++ [nm[k]'(by simp [nm_len, hk])] := by
  rw [List.take_add_one, List.getElem?_eq_getElem (by simp [nm_len, hk])]
  rfl
theorem isCell_strs {l : List (List UInt8)} : ∀ v ∈ strs l, isCell v = true := by
  intro v hv
  obtain ⟨x, _, rfl⟩ := List.mem_map.1 hv
  rfl
/-- ref.Names -/
theorem rnames_run : CallR cx 30 #[] H (fun v H' => Fresh H H' ∧ Row 9 true H' v (strs nm) (some H.next)) := by
  refine wk30 (by simp) ?_
  have hb := aBuildSliceN (P := Tryd.prog) un60 sz9 (z := .string ⟨#[]⟩) (by kernel_rfl) (strs nm) isCell_strs (by simp [nm_len]) H
  have e1 : (strs nm).length = 10 := rfl
  have e2 : ((strs nm).zipIdx.map fun x => (x.2, x.1)) = [(0, .string ⟨#[104, 105, 116, 115]⟩), (1, .string ⟨#[109, 105, 115, 115, 101, 115]⟩), (2, .string ⟨#[114, 97, 105, 115, 101, 100]⟩), (3, .string ⟨#[108, 111, 119, 101, 114, 101, 100]⟩), (4, .string ⟨#[112, 114, 117, 110, 101, 100]⟩), (5, .string ⟨#[101, 118, 105, 99, 116, 101, 100]⟩), (6, .string ⟨#[102, 111, 114, 103, 111, 116, 116, 101, 110]⟩), (7, .string ⟨#[99, 108, 101, 97, 114, 101, 100]⟩), (8, .string ⟨#[101, 110, 100, 101, 100]⟩), (9, .string ⟨#[115, 116, 101, 112, 115]⟩)] := rfl
  rw [e1, e2] at hb
  simp [c30, hb]
  exact ⟨Fresh.ofNew, 0, strs nm, rfl, by simp, rfl, by simp [nm_len], by simp⟩
end Go.Proofs.YtpimepdlbhejhaaDoor.C

/- Words, and rows of texts, over the small heap. Own text of this session. -/
import Derived.Test.YtmeaeafceankkaaDoorC
set_option linter.unusedVariables false
set_option linter.unusedSimpArgs false
set_option maxRecDepth 4000
set_option maxHeartbeats 4000000
namespace Go.Proofs.YtmeaeafceankkaaDoor.C
open Go Go.RowKit Go.Proofs.YtmeaeafceankkaaDoorA
variable {H : AH}
theorem w64 {n : Int} (h : -9000000000000000000 ≤ n ∧ n ≤ 9000000000000000000) : IntKind.i64.wrap n = n := by simp [IntKind.wrap, IntKind.bits, IntKind.signed]; omega
theorem el47 : El Tryd.prog 47 9 := ⟨un47, by kernel_rfl, (Tryd.prog.info? 9).getD default, by kernel_rfl, by kernel_rfl, of_decide_eq_true (by kernel_rfl), by kernel_rfl⟩
theorem idxW (l : List UInt8) (i : Nat) (hi : i < l.length) : aIndex Tryd.prog 9 (.string (str l)) (.int .i64 i) = some (.int .u8 l[i].toNat) := aIndex_str un9 l .i64 i hi
theorem addW (a b : List UInt8) (h : a.length + b.length < 4611686018427387904) (ox oy : Operand) : aBin Tryd.prog .add 9 ox oy (.string (str a)) (.string (str b)) = some (.string (str (a ++ b))) := aBin_stradd ox oy un9 a b h
theorem blank : (⟨#[32]⟩ : ByteArray) = str [32] := rfl
theorem noText : (⟨#[]⟩ : ByteArray) = str [] := rfl
/-- digits.Words -/
theorem words_run {s : List UInt8} (hs : s.length < 1000000) : CallR cx 23 #[.string (str s)] H (fun v H' => Fresh H H' ∧ Row 9 true H' v (strs (splitL 32 s)) (some H.next)) := by
  refine wk23 (by simp) ?_
  simp [c23]
  rw [blank]
  refine callV_R cb42 (R := fun v H' => Fresh H H' ∧ Row 9 true H' v (strs (splitL 32 s)) (some H.next)) ?_ ?_
  · refine wk42 (by simp) ?_
    simp [c42]
    refine callV_R cbs (split_run (l := s) (c := 32) (by omega)) ?_
    rintro _ _ ⟨rfl, rfl⟩
    simp
    exact ⟨Fresh.ofNew, 0, strs (splitL 32 s), by simp, by simp, by rw [List.drop_zero, List.take_length], by simp, by simp⟩
  rintro v H1 ⟨hf, hrow⟩
  simp [hf, hrow]
/-- digits.Join -/
theorem join_row {w : Bool} {sv : Value} {xs : List (List UInt8)} {O : Option Nat} (h : Row 9 w H sv (strs xs) O) (h1 : xs.length ≤ 1000000000) (h2 : (Lib.join xs [32]).length ≤ 1000000000) : CallR cx 22 #[sv] H (fun v H' => v = .string (str (Lib.join xs [32])) ∧ H' = H) := by
  refine wk22 (by simp) ?_
  simp [c22]
  rw [blank]
  refine callV_R cbj (join_run h (by omega) (by omega)) ?_
  rintro _ _ ⟨rfl, rfl⟩
  simp
/-- ref.Words -/
theorem rwords_run {s : List UInt8} (hs : s.length < 1000000) : CallR cx 29 #[.string (str s)] H (fun v H' => Fresh H H' ∧ ∃ O, Row 9 true H' v (strs (splitL 32 s)) O ∧ ∀ x, O = some x → H.next ≤ x) := by
  refine wk29 (by simp) ?_
  simp [c29]
  refine aw_loop_to s.length (fun k t => t.env 0 = .string (str s) ∧ t.env 5 = i64 (k : Nat) ∧ t.ds = [] ∧ Fresh H t.H ∧ ∃ d a O, a ≤ k ∧ t.env 4 = i64 (a : Nat) ∧ splitL 32 (s.take k) = d ++ [(s.take k).drop a] ∧ Row 9 true t.H (t.env 3) (strs d) O ∧ ∀ x, O = some x → H.next ≤ x) ?_ ?_ ?_
  · rintro k ⟨env, H1, ds⟩ hk ⟨e0, e5, eds, hf, d, a, O, hak, e4, hsp, hrow, hO⟩
    simp only at e0 e5 eds hf e4 hrow
    generalize e3 : env 3 = ov at hrow
    have hw : IntKind.i64.wrap ((k : Int) + 1) = ((k + 1 : Nat) : Int) := by rw [w64 (by omega)]; push_cast; rfl
    have hi := idxW s k hk
    have htk : s.take (k + 1) = s.take k ++ [s[k]] := by rw [List.take_add_one, List.getElem?_eq_getElem hk]; rfl
    have hsn := splitL_snoc hsp s[k]
    have hdl : d.length < 1000000000 := by
      have h1 := splitL_le 32 (s.take k)
      rw [hsp] at h1
      simp at h1; omega
    by_cases hb : s[k] = 32
    · have hbi : ((s[k].toNat : Nat) : Int) = 32 := by rw [hb]; rfl
      have hsl : aSlice Tryd.prog 9 (.string (str s)) (some (i64 (a : Nat))) (some (i64 (k : Nat))) H1 = some (.string (str ((s.take k).drop a))) :=
        aSlice_str un9 s (a := a) (b := k) (by simp only [bnd]; rw [if_pos ⟨by omega, by omega⟩]; rfl) (by simp only [bnd]; rw [if_pos ⟨by omega, by omega⟩]; rfl) hak (by omega)
      obtain ⟨H2, hap, hnx, hget, hrow2, hkp⟩ := row_append el47 hrow (by simpa using (by omega : d.length < 1099511627776)) (v := .string (str ((s.take k).drop a))) rfl
      have hOlow : ∀ z, O = some z → z < H1.next := fun z e => by subst e; exact hrow.low
      rw [strs_length] at hap hrow2
      simp [e0, e3, e4, e5, hk, hi, hbi, hsl, hap, hw, eds]
      refine ⟨⟨by have := hf.1; omega, fun z hz _ => by rw [hkp z (by have := hf.1; omega) (fun e => by have := hO z e; omega), hf.get hz]⟩, d ++ [(s.take k).drop a], k + 1, Nat.le_refl _, by push_cast; rfl, ?_, some (H1.next + 1), ?_, ?_⟩
      · rw [htk, hsn, if_pos hb]
        simp [List.take_of_length_le, Nat.min_eq_left (Nat.le_of_lt hk)]
      · simpa [strs] using hrow2
      · intro z e; cases e; have := hf.1; omega
    · have hbi : ¬ ((s[k].toNat : Nat) : Int) = 32 := fun e => hb (UInt8.toNat_inj.1 (by show s[k].toNat = 32; omega))
      simp [e0, e3, e4, e5, hk, hi, hbi, hw, eds, hf]
      refine ⟨d, a, by omega, rfl, ?_, O, hrow, hO⟩
      rw [htk, hsn, if_neg hb, List.drop_append_of_le_length (by simp; omega)]
  · rintro ⟨env, H1, ds⟩ ⟨e0, e5, eds, hf, d, a, O, hak, e4, hsp, hrow, hO⟩
    simp only at e0 e5 eds hf e4 hrow
    generalize e3 : env 3 = ov at hrow
    rw [List.take_length] at hsp
    have hdl : d.length < 1000000000 := by
      have h1 := splitL_le 32 s
      rw [hsp] at h1
      simp at h1; omega
    have hsl : aSlice Tryd.prog 9 (.string (str s)) (some (i64 (a : Nat))) none H1 = some (.string (str (s.drop a))) := by
      rw [aSlice_str un9 s (a := a) (b := s.length) (by simp [bnd]) (by simp only [bnd]; rw [if_pos ⟨by omega, by omega⟩]; rfl) hak (Nat.le_refl _), List.take_length]
    obtain ⟨H2, hap, hnx, hget, hrow2, hkp⟩ := row_append el47 hrow (by simpa using (by omega : d.length < 1099511627776)) (v := .string (str (s.drop a))) rfl
    have hOlow : ∀ z, O = some z → z < H1.next := fun z e => by subst e; exact hrow.low
    rw [strs_length] at hap hrow2
    simp [e0, e3, e4, e5, hsl, hap, eds]
    refine ⟨⟨by have := hf.1; omega, fun z hz _ => by rw [hkp z (by have := hf.1; omega) (fun e => by have := hO z e; omega), hf.get hz]⟩, some (H1.next + 1), ?_, ?_⟩
    · rw [hsp]
      simpa [strs] using hrow2
    · intro z e; cases e; have := hf.1; omega
  · simp
    refine ⟨Fresh.refl, [], ?_, none, Row.nil, by simp⟩
    rfl
end Go.Proofs.YtmeaeafceankkaaDoor.C

/- What is told of a trace, in plain Lean: the words, and that they are read back. Own text of this session. -/
import Derived.Test.YtmeaeafceankkaaDoorRPar
set_option linter.unusedVariables false
set_option linter.unusedSimpArgs false
set_option maxRecDepth 4000
set_option maxHeartbeats 4000000
namespace Go.Proofs.YtmeaeafceankkaaDoor.C
open Go Go.RowKit Go.Proofs.YtmeaeafceankkaaDoorA Go.Proofs.YtmeaeafceankkaaDoor.Plain
/-- how far a condition holds -/
def runN (p : Nat → Bool) : Nat → Nat → Nat
  | 0, n => n
  | k + 1, n => if p n then runN p k (n + 1) else n
theorem runN_spec (p : Nat → Bool) : ∀ k n, n ≤ runN p k n ∧ runN p k n ≤ n + k ∧ (∀ j, n ≤ j → j < runN p k n → p j = true) ∧ (runN p k n < n + k → p (runN p k n) = false)
  | 0, n => ⟨Nat.le_refl _, Nat.le_refl _, fun j h1 h2 => by rw [runN] at h2; omega, fun h => by rw [runN] at h; omega⟩
  | k + 1, n => by
    rw [runN]
    cases hp : p n with
    | false =>
      rw [if_neg (by simp)]
      exact ⟨Nat.le_refl _, by omega, fun j h1 h2 => by omega, fun _ => hp⟩
    | true =>
      rw [if_pos rfl]
      obtain ⟨h1, h2, h3, h4⟩ := runN_spec p k (n + 1)
      refine ⟨by omega, by omega, fun j ha hb => ?_, fun h => h4 (by omega)⟩
      by_cases e : j = n
      · rw [e, hp]
      · exact h3 j (by omega) hb
def smN (l : List Nat) : Nat := runN (fun n => l.getD n 0 == l.getD 0 0) (l.length - 1) 1
def rsN (l : List Nat) : Nat := runN (fun n => l.getD n 0 == l.getD (n - 1) 0 + 1) (l.length - 1) 1
theorem smN_spec {l : List Nat} (h : l ≠ []) : 1 ≤ smN l ∧ smN l ≤ l.length ∧ (∀ j, j < smN l → l.getD j 0 = l.getD 0 0) ∧ (smN l < l.length → l.getD (smN l) 0 ≠ l.getD 0 0) := by
  have hl : 0 < l.length := List.length_pos_iff.2 h
  obtain ⟨h1, h2, h3, h4⟩ := runN_spec (fun n => l.getD n 0 == l.getD 0 0) (l.length - 1) 1
  refine ⟨h1, by unfold smN; omega, fun j hj => ?_, fun hj => ?_⟩
  · by_cases e : j = 0
    · rw [e]
    · simpa using h3 j (by omega) hj
  · have := h4 (by unfold smN at hj; omega)
    rw [← smN] at this
    simpa using this
theorem rsN_spec {l : List Nat} (h : l ≠ []) : 1 ≤ rsN l ∧ rsN l ≤ l.length ∧ (∀ j, 1 ≤ j → j < rsN l → l.getD j 0 = l.getD (j - 1) 0 + 1) ∧ (rsN l < l.length → l.getD (rsN l) 0 ≠ l.getD (rsN l - 1) 0 + 1) := by
  have hl : 0 < l.length := List.length_pos_iff.2 h
  obtain ⟨h1, h2, h3, h4⟩ := runN_spec (fun n => l.getD n 0 == l.getD (n - 1) 0 + 1) (l.length - 1) 1
  refine ⟨h1, by unfold rsN; omega, fun j h5 hj => ?_, fun hj => ?_⟩
  · simpa using h3 j h5 hj
  · have := h4 (by unfold rsN at hj; omega)
    rw [← rsN] at this
    simpa using this
theorem rsN_val {l : List Nat} (h : l ≠ []) : ∀ j, j < rsN l → l.getD j 0 = l.getD 0 0 + j
  | 0, _ => rfl
  | j + 1, hj => by
    rw [(rsN_spec h).2.2.1 (j + 1) (by omega) hj, Nat.add_sub_cancel, rsN_val h j (by omega)]
    omega
/-- the first word, and for how many keys it stands -/
def wordF (l : List Nat) : List UInt8 × Nat := if 1 < smN l then (dec (l.getD 0 0) ++ 42 :: dec (smN l), smN l) else if 3 ≤ rsN l then (dec (l.getD 0 0) ++ 45 :: dec (l.getD (rsN l - 1) 0), rsN l) else (dec (l.getD 0 0), 1)
theorem wordF_n {l : List Nat} (h : l ≠ []) : 1 ≤ (wordF l).2 ∧ (wordF l).2 ≤ l.length := by
  have h1 := smN_spec h
  have h2 := rsN_spec h
  unfold wordF
  split
  · exact ⟨h1.1, h1.2.1⟩
  · split
    · exact ⟨h2.1, h2.2.1⟩
    · exact ⟨Nat.le_refl _, List.length_pos_iff.2 h⟩
def printW (l : List Nat) : List (List UInt8) := if h : l = [] then [] else (wordF l).1 :: printW (l.drop (wordF l).2)
termination_by l.length
decreasing_by
  have := wordF_n h
  simp; omega
theorem printW_nil : printW [] = [] := by rw [printW]; simp
theorem printW_cons {l : List Nat} (h : l ≠ []) : printW l = (wordF l).1 :: printW (l.drop (wordF l).2) := by rw [printW]; simp [h]
def Sm (l : List Nat) : Prop := ∀ x ∈ l, x < 18446744073709551616
theorem Sm.getD {l : List Nat} (h : Sm l) (j : Nat) : l.getD j 0 < 18446744073709551616 := by
  rw [List.getD_eq_getElem?_getD]
  by_cases hj : j < l.length
  · rw [List.getElem?_eq_getElem hj]; exact h _ (List.getElem_mem hj)
  · rw [List.getElem?_eq_none (by omega)]; decide
theorem Sm.drop {l : List Nat} (h : Sm l) (j : Nat) : Sm (l.drop j) := fun x hx => h x (List.mem_of_mem_drop hx)
theorem dec_len20 {n : Nat} (h : n < 18446744073709551616) : (dec n).length ≤ 20 := dec_len (by omega) (by omega)
theorem no_isD {n : Nat} {c : UInt8} (hc : ¬ isD c) : c ∉ dec n := fun h => hc (dec_isD n c h)
theorem n42 : ¬ isD 42 := by unfold isD; decide
theorem n45 : ¬ isD 45 := by unfold isD; decide
theorem n32 : ¬ isD 32 := by unfold isD; decide
theorem wordF_plain (l : List Nat) : 32 ∉ (wordF l).1 := by
  have h1 := fun n => no_isD (n := n) n32
  unfold wordF
  split
  · simp [h1]
  · split
    · simp [h1]
    · exact h1 _
theorem wordF_len {l : List Nat} (hs : Sm l) (hl : l.length ≤ 5000) (hne : l ≠ []) : (wordF l).1.length + 1 ≤ 21 * (wordF l).2 := by
  have h0 := dec_len20 (hs.getD 0)
  have hr := dec_len20 (hs.getD (rsN l - 1))
  have h1 := smN_spec hne
  have hm := dec_len20 (n := smN l) (by omega)
  unfold wordF
  split
  · simp only [List.length_append, List.length_cons]; omega
  · split
    · simp only [List.length_append, List.length_cons]; omega
    · simp only; omega
theorem wordF_ne (l : List Nat) : (wordF l).1 ≠ [] := by
  have h := fun n => dec_ne n
  unfold wordF
  split
  · simp
  · split
    · simp
    · exact h _
theorem printW_plain : ∀ (n : Nat) (l : List Nat), l.length ≤ n → ∀ x ∈ printW l, 32 ∉ x
  | 0, l, h, x, hx => by
    obtain rfl : l = [] := List.length_eq_zero_iff.1 (by omega)
    rw [printW_nil] at hx; cases hx
  | n + 1, l, h, x, hx => by
    by_cases h0 : l = []
    · subst h0; rw [printW_nil] at hx; cases hx
    · rw [printW_cons h0] at hx
      rcases List.mem_cons.1 hx with rfl | hx
      · exact wordF_plain l
      · exact printW_plain n _ (by have := wordF_n h0; simp; omega) x hx
theorem printW_len : ∀ (n : Nat) (l : List Nat), l.length ≤ n → (printW l).length ≤ l.length
  | 0, l, h => by
    obtain rfl : l = [] := List.length_eq_zero_iff.1 (by omega)
    rw [printW_nil]; simp
  | n + 1, l, h => by
    by_cases h0 : l = []
    · subst h0; rw [printW_nil]; simp
    · have h1 := wordF_n h0
      have ih := printW_len n (l.drop (wordF l).2) (by simp; omega)
      rw [printW_cons h0]
      simp at ih ⊢
      omega
-- read back
theorem idx_app {a : List UInt8} {c : UInt8} (h : c ∉ a) (b : List UInt8) : Lib.indexByte (a ++ c :: b) c = (a.length : Int) := by
  induction a with
  | nil => simp [Lib.indexByte]
  | cons x a ih =>
    simp only [List.mem_cons, not_or] at h
    have hx : (x == c) = false := by rw [beq_eq_false_iff_ne]; exact fun e => h.1 e.symm
    have := ih h.2
    simp only [List.cons_append, Lib.indexByte, hx, this]
    have hn : ((a.length : Int) == -1) = false := by rw [beq_eq_false_iff_ne]; omega
    simp [hn]
theorem idx_no {a : List UInt8} {c : UInt8} (h : c ∉ a) : Lib.indexByte a c = -1 := by
  rcases idx_spec c a with ⟨h1, _⟩ | ⟨n, _, _, h3, _⟩
  · exact h1
  · exact absurd (List.mem_of_getElem? h3) h
theorem cutF_app {a : List UInt8} {c : UInt8} (h : c ∉ a) (b : List UInt8) : cutF (a ++ c :: b) c = (a, b, true) := by
  have hn0 : ¬ (a.length : Int) < 0 := by omega
  rw [cutF, idx_app h, if_neg hn0]
  simp
theorem cutF_no {a : List UInt8} {c : UInt8} (h : c ∉ a) : (cutF a c).2.2 = false := by
  rw [cutF, idx_no h, if_pos (by decide)]
theorem rd_dec {n : Nat} (h : n < 18446744073709551616) : okN (dec n) = true ∧ rdN (dec n) = n := is_rd ⟨h, rfl⟩
theorem ok_no {l : List UInt8} {c : UInt8} (h : c ∈ l) (hc : ¬ isD c) : okN l = false := by
  simp only [okN, decide_eq_false_iff_not]
  rintro ⟨n, h1, h2⟩
  rw [h2] at h
  exact no_isD hc h
theorem pair_app {a b : Nat} {c : UInt8} (hc : ¬ isD c) (ha : a < 18446744073709551616) (hb : b < 18446744073709551616) : pairF (dec a ++ c :: dec b) c = (a, b, true) := by
  rw [pairF, cutF_app (no_isD hc)]
  simp [rd_dec ha, rd_dec hb]
theorem take_same {l : List Nat} {n x : Nat} (h : ∀ j, j < n → l.getD j 0 = x) (hn : n ≤ l.length) : (List.range n).map (fun _ => x) = l.take n := by
  apply List.ext_getElem
  · simp; omega
  · intro i h1 h2
    simp at h1 h2 ⊢
    have := h i h1
    rw [List.getD_eq_getElem?_getD, List.getElem?_eq_getElem (by omega)] at this
    exact this.symm
theorem take_rise {l : List Nat} {n x : Nat} (h : ∀ j, j < n → l.getD j 0 = x + j) (hn : n ≤ l.length) : (List.range n).map (fun i => x + i) = l.take n := by
  apply List.ext_getElem
  · simp; omega
  · intro i h1 h2
    simp at h1 h2 ⊢
    have := h i h1
    rw [List.getD_eq_getElem?_getD, List.getElem?_eq_getElem (by omega)] at this
    exact this.symm
theorem word_span {l : List Nat} (hs : Sm l) (hl : l.length ≤ 4096) (hne : l ≠ []) : ∃ m r, spanF (wordF l).1 = (l.getD 0 0, m, r, true) ∧ many m r = (wordF l).2 ∧ keysOf (l.getD 0 0) (wordF l).2 r = l.take (wordF l).2 := by
  have h0 := hs.getD 0
  have hr := hs.getD (rsN l - 1)
  obtain ⟨s1, s2, s3, s4⟩ := smN_spec hne
  obtain ⟨r1, r2, r3, r4⟩ := rsN_spec hne
  have hp : 0 < l.length := List.length_pos_iff.2 hne
  unfold wordF
  by_cases h1 : 1 < smN l
  · rw [if_pos h1]
    refine ⟨smN l, false, ?_, rfl, ?_⟩
    · rw [spanF, if_neg (by rw [ok_no (c := 42) (by simp) n42]; simp), pair_app n42 h0 (by omega), if_pos ⟨rfl, h1⟩]
    · simp only [keysOf]
      simpa using take_same s3 s2
  rw [if_neg h1]
  by_cases h3 : 3 ≤ rsN l
  · rw [if_pos h3]
    have hv := rsN_val hne (rsN l - 1) (by omega)
    refine ⟨rsN l - 1, true, ?_, ?_, ?_⟩
    · have hc : 42 ∉ dec (l.getD 0 0) ++ 45 :: dec (l.getD (rsN l - 1) 0) := by simp [no_isD n42]
      have hp42 : (pairF (dec (l.getD 0 0) ++ 45 :: dec (l.getD (rsN l - 1) 0)) 42).2.2 = false := by
        rw [pairF, cutF_no hc, if_neg (by simp)]
      have hlt : l.getD 0 0 < l.getD (rsN l - 1) 0 := by omega
      rw [spanF, if_neg (by rw [ok_no (c := 45) (by simp) n45]; simp), if_neg (by rw [hp42]; simp), pair_app n45 h0 hr, if_pos ⟨rfl, hlt⟩]
      rw [hv]; simp
    · simp only [many, if_true]; omega
    · simp only [keysOf]
      simpa using take_rise (rsN_val hne) r2
  · rw [if_neg h3]
    refine ⟨1, false, ?_, rfl, ?_⟩
    · rw [spanF, if_pos (rd_dec h0).1, (rd_dec h0).2]
    · simp only [keysOf]
      simpa using take_same (n := 1) (x := l.getD 0 0) (fun j hj => by rw [show j = 0 by omega]) hp
theorem parse_print : ∀ (n : Nat) (l : List Nat), l.length ≤ n → Sm l → ∀ out : List Nat, out.length + l.length ≤ 4096 → parseF (printW l) out = (out ++ l, 0)
  | 0, l, h, _, out, _ => by
    obtain rfl : l = [] := List.length_eq_zero_iff.1 (by omega)
    rw [printW_nil, parseF]; simp
  | n + 1, l, h, hs, out, ho => by
    by_cases h0 : l = []
    · subst h0; rw [printW_nil, parseF]; simp
    · have h1 := wordF_n h0
      obtain ⟨m, r, e1, e2, e3⟩ := word_span hs (by omega) h0
      rw [printW_cons h0, parseF, e1]
      simp only
      rw [if_neg (by simp), e2, if_neg (by omega), e3, parse_print n _ (by simp; omega) (hs.drop _) _ (by simp; omega), List.append_assoc, List.take_append_drop]
def textT (l : List Nat) : List UInt8 := Lib.join (printW l) [32]
theorem printW_ne {l : List Nat} (h : l ≠ []) : printW l ≠ [] := by rw [printW_cons h]; simp
theorem join_ne {x : List UInt8} (h : x ≠ []) (r : List (List UInt8)) : Lib.join (x :: r) [32] ≠ [] := by
  rw [Lib.join_cons]
  simp [h]
theorem parse_text {l : List Nat} (hs : Sm l) (hl : l.length ≤ 4096) : parse (textT l) = (l, 0) := by
  by_cases h0 : l = []
  · subst h0
    rw [textT, printW_nil, Lib.join_nil, parse, if_pos rfl]
  · have hne : textT l ≠ [] := by rw [textT, printW_cons h0]; exact join_ne (wordF_ne l) _
    rw [parse, if_neg hne, textT, splitL_join (printW_ne h0) (printW_plain _ l (Nat.le_refl _)), parse_print _ l (Nat.le_refl _) hs _ (by simpa using hl)]
    simp
theorem joinT_app (sep : List UInt8) (r s : List (List UInt8)) : Lib.joinTail sep (r ++ s) = Lib.joinTail sep r ++ Lib.joinTail sep s := by simp [Lib.joinTail]
theorem textT_len : ∀ (n : Nat) (l : List Nat), l.length ≤ n → Sm l → l.length ≤ 5000 → (Lib.joinTail [32] (printW l)).length ≤ 21 * l.length
  | 0, l, h, _, _ => by
    obtain rfl : l = [] := List.length_eq_zero_iff.1 (by omega)
    rw [printW_nil]; simp [Lib.joinTail]
  | n + 1, l, h, hs, hl => by
    by_cases h0 : l = []
    · subst h0; rw [printW_nil]; simp [Lib.joinTail]
    · have h1 := wordF_n h0
      have h2 := wordF_len hs hl h0
      have ih := textT_len n (l.drop (wordF l).2) (by simp; omega) (hs.drop _) (by simp; omega)
      rw [printW_cons h0, show ∀ (x : List UInt8) r, x :: r = [x] ++ r from fun _ _ => rfl, joinT_app]
      simp [Lib.joinTail] at ih ⊢
      omega
theorem text_short {l : List Nat} (hs : Sm l) (hl : l.length ≤ 4096) : (textT l).length < 100000 := by
  by_cases h0 : l = []
  · subst h0; rw [textT, printW_nil, Lib.join_nil]; simp
  · have h1 := wordF_n h0
    have h2 := wordF_len hs (by omega) h0
    have h3 := textT_len _ (l.drop (wordF l).2) (Nat.le_refl _) (hs.drop _) (by simp; omega)
    rw [textT, printW_cons h0, Lib.join_cons]
    simp at h3 ⊢
    omega
end Go.Proofs.YtmeaeafceankkaaDoor.C

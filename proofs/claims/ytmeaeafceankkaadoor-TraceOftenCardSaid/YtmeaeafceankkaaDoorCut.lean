/- Cutting a word at a sign, and pairs of numbers. Own text of this session. -/
import Derived.Test.YtmeaeafceankkaaDoorWords
import Derived.Test.YtmeaeafceankkaaDoorNum2
import Derived.Lib.Bytealg
set_option linter.unusedVariables false
set_option linter.unusedSimpArgs false
set_option maxRecDepth 4000
set_option maxHeartbeats 4000000
namespace Go.Proofs.YtmeaeafceankkaaDoor.C
open Go Go.RowKit Go.Proofs.YtmeaeafceankkaaDoorA Go.Proofs.YtmeaeafceankkaaDoor.Plain
variable {H : AH}
abbrev u64 (n : Int) : Value := .int .u64 n
theorem val_indexByte (P : Program) (s : ByteArray) (c : UInt8) : Sem.val P (Extern.BytealgIndexByte.indexByte #[.string s, .int .u8 (c.toNat : Int)]) = some (.int .i64 (Lib.indexByte s.data.toList c)) := by
  have hc : ((c.toNat : Int)).toNat.toUInt8 = c := by simp
  change Sem.val P (do
    let b ← Extern.Bytes.bytesOf (.string s)
    let c' ← Extern.Bytes.asByte (.int .u8 (c.toNat : Int))
    match (List.range b.size).find? fun i => b[i]! == c' with
    | some i => pure (goInt i)
    | none => pure (goInt (-1))) = _
  rw [← Lib.firstIdx_eq]
  simp only [Extern.Bytes.bytesOf, Extern.Bytes.asByte, firstIdx, Bind.bind, Sem.bind, Pure.pure, hc]
  cases (List.range s.size).find? fun i => s[i]! == c with
  | none => rfl
  | some i => rfl
theorem ext_idx (s : ByteArray) (c : UInt8) : aExt Tryd.prog 71 #[.string s, .int .u8 (c.toNat : Int)] = some (.int .i64 (Lib.indexByte s.data.toList c)) := by
  have hv := val_indexByte Tryd.prog s c
  have hf : Tryd.prog.funcs[71]? = some ((Tryd.prog.funcs[71]?).getD default) := by kernel_rfl
  have h1 : (((Tryd.prog.funcs[71]?).getD default).name == "runtime.NumGoroutine") = false := by kernel_rfl
  have h2 : ((Tryd.prog.funcs[71]?).getD default).body.isNone = true := by kernel_rfl
  have h3 : (Extern.findNext ((Tryd.prog.funcs[71]?).getD default)).isNone = true := by kernel_rfl
  have h4 : Extern.find ((Tryd.prog.funcs[71]?).getD default) = some Extern.BytealgIndexByte.indexByte := by kernel_rfl
  simp only [aExt]
  rw [hf]
  simp only [h1, h2, h3, h4]
  rw [hv]
  simp [chk, plain]
  exact ⟨⟨rfl, rfl⟩, rfl⟩
theorem idx_spec (c : UInt8) : ∀ l : List UInt8, (Lib.indexByte l c = -1 ∧ c ∉ l) ∨ ∃ n : Nat, Lib.indexByte l c = n ∧ n < l.length ∧ l[n]? = some c ∧ ∀ m, m < n → l[m]? ≠ some c
  | [] => .inl ⟨rfl, by simp⟩
  | b :: l => by
    by_cases hb : b = c
    · subst hb
      exact .inr ⟨0, by simp [Lib.indexByte], by simp, by simp, by simp⟩
    · have hb' : (b == c) = false := by simpa using hb
      rcases idx_spec c l with ⟨h1, h2⟩ | ⟨n, h1, h2, h3, h4⟩
      · refine .inl ⟨by simp [Lib.indexByte, hb', h1], ?_⟩
        simp only [List.mem_cons, not_or]
        exact ⟨fun e => hb e.symm, h2⟩
      · refine .inr ⟨n + 1, ?_, by simp; omega, by simpa using h3, fun m hm => ?_⟩
        · have hn : ((n : Int) == -1) = false := by
            rw [beq_eq_false_iff_ne]; omega
          simp [Lib.indexByte, hb', h1, hn]
        · cases m with
          | zero => simpa using hb
          | succ m => simpa using h4 m (by omega)
theorem str_data (l : List UInt8) : (str l).data.toList = l := rfl
/-- where a sign is -/
theorem idx1_run {l : List UInt8} {c : UInt8} : CallR cx 67 #[.string (str l), .int .u8 (c.toNat : Int)] H (fun v H' => v = i64 (Lib.indexByte l c) ∧ H' = H) := by
  refine wk67 (by simp) ?_
  have he := ext_idx (str l) c
  rw [str_data] at he
  simp [c67]
  refine callV_ext he ?_
  simp
theorem idx2_run {l : List UInt8} {c : UInt8} : CallR cx 65 #[.string (str l), .string (str [c])] H (fun v H' => v = i64 (Lib.indexByte l c) ∧ H' = H) := by
  refine wk65 (by simp) ?_
  have hc0 : aIndex Tryd.prog 9 (.string (str [c])) (.int .i64 0) = some (.int .u8 (c.toNat : Int)) := idxW [c] 0 (by simp)
  have heq := fun ox oy => aBin_streqL (P := Tryd.prog) (t := 9) ox oy un9 [c] l
  by_cases hl : [c] = l
  · subst hl
    simp [c65, heq]
    simp [Lib.indexByte]
  · simp [c65, heq, hl, hc0]
    refine callV_R cb67 idx1_run ?_
    rintro _ _ ⟨rfl, rfl⟩
    simp
/-- strings.Cut at a sign -/
def cutF (l : List UInt8) (c : UInt8) : List UInt8 × List UInt8 × Bool := if Lib.indexByte l c < 0 then (l, [], false) else (l.take (Lib.indexByte l c).toNat, l.drop ((Lib.indexByte l c).toNat + 1), true)
theorem cut_run {l : List UInt8} {c : UInt8} (hl : l.length < 100000000) : CallR cx 51 #[.string (str l), .string (str [c])] H (fun v H' => v = .tuple #[.string (str (cutF l c).1), .string (str (cutF l c).2.1), .bool (cutF l c).2.2] ∧ H' = H) := by
  refine wk51 (by simp) ?_
  simp [c51]
  refine callV_R (f := 59) cb59 (R := fun v H' => v = .tuple #[.string (str (cutF l c).1), .string (str (cutF l c).2.1), .bool (cutF l c).2.2] ∧ H' = H) ?_ ?_
  · refine wk59 (by simp) ?_
    simp [c59]
    refine callV_R cb65 idx2_run ?_
    rintro _ H1 ⟨rfl, hH⟩
    subst hH
    rcases idx_spec c l with ⟨h1, _⟩ | ⟨n, h1, h2, _⟩
    · simp [h1, cutF]
    · have hn0 : ¬ (n : Int) < 0 := by omega
      have hn1 : (0 : Int) ≤ n := by omega
      obtain ⟨n1, hn⟩ : ∃ n1, n1 = n + 1 := ⟨_, rfl⟩
      have hw : IntKind.i64.wrap ((n : Int) + 1) = (n1 : Int) := by rw [w64 (by omega)]; omega
      have s1 := aSlice_str (P := Tryd.prog) (t := 9) un9 l (lo := none) (hi := some (i64 (n : Nat))) (a := 0) (b := n) (H := H1) (by simp [bnd]; omega) (by simp [bnd]) (by omega) (by omega)
      have s2 := aSlice_str (P := Tryd.prog) (t := 9) un9 l (lo := some (i64 (n1 : Nat))) (hi := none) (a := n1) (b := l.length) (H := H1) (by simp [bnd]) (by simp [bnd]; omega) (by omega) (by omega)
      rw [List.take_of_length_le (Nat.le_refl _)] at s2
      rw [List.drop_zero] at s1
      simp [h1, cutF, hn0, hn1, hw, s1, s2, ← hn]
  rintro _ _ ⟨rfl, rfl⟩
  simp
open Classical in
noncomputable def rdN (l : List UInt8) : Nat := if h : ∃ n, Is l n then h.choose else 0
open Classical in
noncomputable def okN (l : List UInt8) : Bool := decide (∃ n, Is l n)
theorem okN_is {l : List UInt8} (h : okN l = true) : Is l (rdN l) := by
  have h1 : ∃ n, Is l n := by simpa [okN] using h
  unfold rdN
  rw [dif_pos h1]
  exact h1.choose_spec
theorem is_rd {l : List UInt8} {n : Nat} (h : Is l n) : okN l = true ∧ rdN l = n := by
  have h1 : okN l = true := by simp only [okN, decide_eq_true_eq]; exact ⟨n, h⟩
  exact ⟨h1, (okN_is h1).uniq h⟩
theorem rdN_lt (l : List UInt8) : rdN l < 18446744073709551616 := by
  unfold rdN
  split
  · rename_i h; have := h.choose_spec.1; omega
  · decide
theorem toldN {l : List UInt8} {v : Value} (h : (∃ n, Is l n ∧ v = .tuple #[.int .u64 n, .bool true]) ∨ ((∀ n, ¬ Is l n) ∧ v = .tuple #[.int .u64 0, .bool false])) : v = .tuple #[u64 (rdN l : Nat), .bool (okN l)] := by
  rcases h with ⟨n, hn, rfl⟩ | ⟨hn, rfl⟩
  · obtain ⟨h1, h2⟩ := is_rd hn
    rw [h1, h2]
  · have h1 : ¬ ∃ n, Is l n := fun ⟨n, h⟩ => hn n h
    have h2 : okN l = false := by simp only [okN, decide_eq_false_iff_not]; exact h1
    have h3 : rdN l = 0 := by unfold rdN; rw [dif_neg h1]
    rw [h2, h3]
    rfl
/-- two numbers with a sign between -/
noncomputable def pairF (l : List UInt8) (c : UInt8) : Nat × Nat × Bool := if (cutF l c).2.2 = true then (rdN (cutF l c).1, rdN (cutF l c).2.1, okN (cutF l c).1 && okN (cutF l c).2.1) else (0, 0, false)
/-- trace.pair -/
theorem pair_run {l : List UInt8} {c : UInt8} (hl : l.length < 100000000) : CallR cx 44 #[.string (str l), .string (str [c])] H (fun v H' => v = .tuple #[u64 ((pairF l c).1 : Nat), u64 ((pairF l c).2.1 : Nat), .bool (pairF l c).2.2] ∧ H' = H) := by
  refine wk44 (by simp) ?_
  simp [c44]
  refine callV_R cb51 (cut_run hl) ?_
  rintro _ H1 ⟨rfl, hH⟩
  subst hH
  unfold pairF
  generalize cutF l c = p
  obtain ⟨x, y, b⟩ := p
  cases b with
  | false => simp
  | true =>
    simp
    refine callV_R cb43 (read_run (l := x)) ?_
    rintro v H2 ⟨hH, hv⟩
    subst hH
    obtain rfl := toldN hv
    simp
    refine callV_R cb43 (read_run (l := y)) ?_
    rintro v H3 ⟨hH, hv⟩
    subst hH
    obtain rfl := toldN hv
    cases okN x <;> simp
end Go.Proofs.YtmeaeafceankkaaDoor.C

/- DigitsWords over the small heap. Own text of this session. -/
import Derived.Test.YtkcpcgdipmgeeaaDoorWords
set_option linter.unusedVariables false
set_option linter.unusedSimpArgs false
set_option maxRecDepth 4000
set_option maxHeartbeats 4000000
namespace Go.Proofs.YtkcpcgdipmgeeaaDoor.C
open Go Go.RowKit Go.Proofs.YtkcpcgdipmgeeaaDoorA
variable {H : AH}
theorem strs_of (zs : List ByteArray) : zs.map Value.string = strs (zs.map fun z => z.data.toList) := by
  rw [strs, List.map_map]
  refine List.map_congr_left fun z _ => ?_
  show Value.string z = Value.string (str z.data.toList)
  rw [← str_eta]
theorem neW (a b : List UInt8) (ox oy : Operand) : aBin Tryd.prog .neq 9 ox oy (.string (str a)) (.string (str b)) = some (.bool (decide (a ≠ b))) := aBin_strneL ox oy un9 a b
theorem eqW (a b : List UInt8) (ox oy : Operand) : aBin Tryd.prog .eql 9 ox oy (.string (str a)) (.string (str b)) = some (.bool (decide (a = b))) := aBin_streqL ox oy un9 a b
theorem join_le : ∀ (xs : List (List UInt8)), (∀ x ∈ xs, x.length ≤ 1000) → (Lib.join xs [32]).length ≤ xs.length * 1001
  | [], _ => by simp [Lib.join_nil]
  | [x], h => by rw [Lib.join_one]; have := h x (by simp); simp; omega
  | x :: y :: r, h => by
    have ih := join_le (y :: r) (fun z hz => h z (by simp [hz]))
    have hx := h x (by simp)
    rw [join_cons2]
    simp only [List.length_append, List.length_cons, List.length_nil] at ih ⊢
    omega
theorem digitsWords_run {sv : Value} {zs : List ByteArray} {len : Nat} {O : Option Nat} {t : ByteArray} (hg : HasG gs H) (hn : nG ≤ H.next) (hrow : Row 9 false H sv (zs.map Value.string) O) (hlen : zs.length = len) (hwf : ∀ s ∈ zs, s.size ≤ maxLen) : CallR cx 6 #[.string t, sv] H (fun v _ => v = .bool true) := by
  rw [str_eta t]
  generalize t.data.toList = s
  rw [strs_of] at hrow
  generalize (zs.map fun z => z.data.toList) = xs at hrow
  clear hwf hlen
  obtain ⟨ra, rfl, hra⟩ := hrow.isSlice
  simp only [strs_length] at hrow ⊢
  refine wk6 (by simp) ?_
  unfold c6
  refine aw_cut (fun t => t.env 0 = .string (str s) ∧ t.env 1 = .slice ra xs.length xs.length ∧ t.ds = [] ∧ t.H = H) (by simp) ?_
  rintro ⟨env, H, ds⟩ ⟨e0, e1, eds, rfl⟩
  simp only at e0 e1 eds hg hn hrow
  by_cases hsl : 1000 < (s.length : Int)
  · simp [e0, e1, hsl]
    refine callV_R cba (alive_run hg) ?_
    rintro _ _ ⟨rfl, _⟩
    simp [eds]
  by_cases hxl : 50 < (xs.length : Int)
  · simp [e0, e1, hsl, hxl]
    refine callV_R cba (alive_run hg) ?_
    rintro _ _ ⟨rfl, _⟩
    simp [eds]
  refine aw_cut (fun t => t.env 0 = .string (str s) ∧ t.env 1 = .slice ra xs.length xs.length ∧ t.ds = [] ∧ t.H = H) (by simp [e0, e1, eds, hsl, hxl]) ?_
  clear e0 e1 eds
  rintro ⟨env, H, ds⟩ ⟨e0, e1, eds, rfl⟩
  simp only at e0 e1 eds hg hn hrow
  -- Words
  refine aw_cut (fun t => t.env 0 = .string (str s) ∧ t.env 1 = .slice ra xs.length xs.length ∧ t.ds = [] ∧ HasG gs t.H ∧ nG ≤ t.H.next ∧ Row 9 false t.H (.slice ra xs.length xs.length) (strs xs) O ∧ ∃ Ow, Row 9 true t.H (t.env 5) (strs (splitL 32 s)) Ow) ?_ ?_
  · simp [e0, e1]
    refine callV_R cb20 (words_run (s := s) (by omega)) ?_
    rintro v H1 ⟨hf, hv⟩
    simp [e0, e1, eds]
    exact ⟨hg.fresh gs_lt hn hf, Nat.le_trans hn hf.1, hrow.keep hf (fun _ _ => id), _, hv⟩
  clear e0 e1 eds hrow hg hn
  rintro ⟨env, H, ds⟩ ⟨e0, e1, eds, hg, hn, hrow, Ow, hw⟩
  simp only at e0 e1 eds hg hn hrow hw
  generalize e5 : env 5 = wv at hw
  -- Same, Join
  refine aw_cut (fun t => t.env 0 = .string (str s) ∧ t.env 1 = .slice ra xs.length xs.length ∧ t.ds = [] ∧ HasG gs t.H ∧ nG ≤ t.H.next ∧ Row 9 false t.H (.slice ra xs.length xs.length) (strs xs) O) ?_ ?_
  · simp [e0, e5]
    refine callV_R cb22 (rwords_run (s := s) (by omega)) ?_
    rintro v H1 ⟨hf, Ov, hv, _⟩
    have hw1 := hw.keep hf (fun _ _ => id)
    have hlw : (splitL 32 s).length < 1000000 := by have := splitL_le 32 s; omega
    simp [e0, e5]
    refine callV_R cb21 (same_run hw1 hv (by omega)) ?_
    rintro _ H1 ⟨rfl, rfl⟩
    simp [e0, e5]
    refine callV_R cb23 (join_row hw1 (by omega) (by rw [join_splitL]; omega)) ?_
    rintro _ H1 ⟨rfl, rfl⟩
    rw [join_splitL]
    simp [e0, e1, e5, eds, neW]
    exact ⟨hg.fresh gs_lt hn hf, Nat.le_trans hn hf.1, hrow.keep hf (fun _ _ => id)⟩
  clear e0 e1 e5 eds hrow hg hn hw
  rintro ⟨env, H, ds⟩ ⟨e0, e1, eds, hg, hn, hrow⟩
  simp only at e0 e1 eds hg hn hrow
  -- plain
  refine aw_cut (fun t => t.env 1 = .slice ra xs.length xs.length ∧ t.env 6 = .bool (decide (0 < xs.length)) ∧ t.ds = [] ∧ t.H = H) ?_ ?_
  · have : decide ((0 : Int) < xs.length) = decide (0 < xs.length) := by
      by_cases h : 0 < xs.length
      · simp [h]
      · have : ¬ (0 : Int) < xs.length := by omega
        simp [h, this]
    simp [e1, eds, this]
  clear e0 e1 eds
  rintro ⟨env, H, ds⟩ ⟨e1, e6, eds, rfl⟩
  simp only at e1 e6 eds hg hn hrow
  -- the loop
  refine aw_cut (fun t => t.env 1 = .slice ra xs.length xs.length ∧ (∃ pl, t.env 6 = .bool pl ∧ (pl = true → xs ≠ [] ∧ ∀ x ∈ xs, (32 : UInt8) ∉ x)) ∧ (∀ x ∈ xs, x.length ≤ 1000) ∧ t.ds = [] ∧ HasG gs t.H ∧ nG ≤ t.H.next ∧ Row 9 false t.H (.slice ra xs.length xs.length) (strs xs) O) ?_ ?_
  · simp [e1]
    refine aw_loop_to xs.length (fun k t => t.env 1 = .slice ra xs.length xs.length ∧ t.env 35 = .slice ra xs.length xs.length ∧ t.env 36 = i64 xs.length ∧ t.env 37 = i64 (k : Nat) ∧ (∃ pl, t.env 6 = .bool pl ∧ (pl = true → xs ≠ [] ∧ ∀ x ∈ xs.take k, (32 : UInt8) ∉ x)) ∧ (∀ x ∈ xs.take k, x.length ≤ 1000) ∧ t.ds = [] ∧ HasG gs t.H ∧ nG ≤ t.H.next ∧ Row 9 false t.H (.slice ra xs.length xs.length) (strs xs) O) ?_ ?_ ?_
    · clear e1 e6 eds hrow hg hn
      rintro k ⟨env, H, ds⟩ hk ⟨e1, e35, e36, e37, ⟨pl, e6, hpl⟩, hsh, eds, hg, hn, hrow⟩
      simp only at e1 e35 e36 e37 e6 eds hg hn hrow
      have hkN : (k : Int) < xs.length := by omega
      have h0k : (0 : Int) ≤ k := by omega
      have hw : IntKind.i64.wrap ((k : Int) + 1) = ((k + 1 : Nat) : Int) := by rw [w64 (by omega)]; push_cast; rfl
      obtain ⟨la, oa, ca, rfl, g1, g2, _⟩ := hrow.cell (i := k) (x := .string (str xs[k])) (by simp [strs, hk])
      have e1' : xs.take (k + 1) = xs.take k ++ [xs[k]] := by rw [List.take_add_one, List.getElem?_eq_getElem hk]; rfl
      by_cases hlong : 1000 < (xs[k].length : Int)
      · simp [e1, e35, e36, e37, hk, ix37 _ _ _ _ _ _ h0k hkN, g1, g2, hlong]
        refine callV_R cba (alive_run hg) ?_
        rintro _ _ ⟨rfl, _⟩
        simp [eds]
      have hsh' : ∀ x ∈ xs.take (k + 1), x.length ≤ 1000 := by
        rw [e1']
        intro x hx
        rcases List.mem_append.1 hx with h | h
        · exact hsh x h
        · rw [List.mem_singleton.1 h]; omega
      cases pl with
      | false =>
        simp [e1, e6, e35, e36, e37, hk, ix37 _ _ _ _ _ _ h0k hkN, g1, g2, hlong, hw, eds]
        exact ⟨hsh', hg, hn, hrow⟩
      | true =>
        simp [e1, e6, e35, e36, e37, hk, ix37 _ _ _ _ _ _ h0k hkN, g1, g2, hlong, eds]
        refine callV_R cb22 (rwords_run (s := xs[k]) (by omega)) ?_
        rintro v H1 ⟨hf, Ov, hv, _⟩
        obtain ⟨rv, rfl, _⟩ := hv.isSlice
        simp [e1, e6, e35, e36, e37, hw, eds]
        refine ⟨fun h1 => ?_, hsh', hg.fresh gs_lt hn hf, Nat.le_trans hn hf.1, hrow.keep hf (fun _ _ => id)⟩
        have hno : (32 : UInt8) ∉ xs[k] := splitL_one.1 (by omega)
        obtain ⟨h2, h3⟩ := hpl rfl
        refine ⟨h2, ?_⟩
        rw [e1']
        intro x hx
        rcases List.mem_append.1 hx with h | h
        · exact h3 x h
        · rw [List.mem_singleton.1 h]; exact hno
    · clear e1 e6 eds hrow hg hn
      rintro ⟨env, H, ds⟩ ⟨e1, e35, e36, e37, ⟨pl, e6, hpl⟩, hsh, eds, hg, hn, hrow⟩
      simp only at e1 e35 e36 e37 e6 eds hg hn hrow
      rw [List.take_length] at hpl hsh
      simp [e1, e36, e37, e6, eds]
      exact ⟨hpl, hsh, hg, hn, hrow⟩
    · simp [e1, e6, eds, hg, hn, hrow]
      intro h e
      rw [e] at h
      simp at h
  clear e1 e6 eds hrow hg hn
  rintro ⟨env, H, ds⟩ ⟨e1, ⟨pl, e6, hpl⟩, hsh, eds, hg, hn, hrow⟩
  simp only at e1 e6 eds hg hn hrow
  have hjl := join_le xs hsh
  have hjl2 : (Lib.join xs [32]).length ≤ 51051 := by
    have : xs.length * 1001 ≤ 51 * 1001 := Nat.mul_le_mul_right _ (by omega)
    omega
  refine aw_cut (fun t => t.env 1 = .slice ra xs.length xs.length ∧ t.env 6 = .bool pl ∧ t.env 9 = .string (str (Lib.join xs [32])) ∧ t.ds = [] ∧ t.H = H) ?_ ?_
  · simp [e1]
    refine callV_R cb23 (join_row hrow (by omega) (by omega)) ?_
    rintro _ H1 ⟨rfl, rfl⟩
    simp [e1, e6, eds]
  clear e1 e6 eds
  rintro ⟨env, H, ds⟩ ⟨e1, e6, e9, eds, rfl⟩
  simp only at e1 e6 e9 eds hg hn hrow
  simp [e1, e9]
  refine callV_R cb24 (rjoin_run hrow (by omega) (fun x hx => by have := hsh x hx; omega)) ?_
  rintro _ H1 ⟨rfl, rfl⟩
  cases pl with
  | false =>
    simp [e1, e6, e9, eqW]
    refine callV_R cba (alive_run hg) ?_
    rintro _ _ ⟨rfl, _⟩
    simp [eds]
  | true =>
    obtain ⟨h2, h3⟩ := hpl rfl
    simp [e1, e6, e9, eqW]
    refine callV_R cb20 (words_run (by omega)) ?_
    rintro v H2 ⟨hf, hv⟩
    rw [splitL_join h2 h3] at hv
    simp [e1, e6, e9]
    refine callV_R cb21 (same_run hv (hrow.keep hf (fun _ _ => id)) (by omega)) ?_
    rintro _ H3 ⟨rfl, rfl⟩
    simp
    refine callV_R cba (alive_run (hg.fresh gs_lt hn hf)) ?_
    rintro _ _ ⟨rfl, _⟩
    simp [eds]
end Go.Proofs.YtkcpcgdipmgeeaaDoor.C

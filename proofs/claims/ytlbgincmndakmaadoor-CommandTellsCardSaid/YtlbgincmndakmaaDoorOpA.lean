/- Words and kinds of ops; what a line is read as. Own text of this session. -/
import Derived.Test.YtlbgincmndakmaaDoorCfgT
import Derived.Test.YtlbgincmndakmaaDoorHex4
set_option linter.unusedVariables false
set_option linter.unusedSimpArgs false
set_option maxRecDepth 4000
set_option maxHeartbeats 4000000
namespace Go.Proofs.YtlbgincmndakmaaDoor.C
open Go Go.RowKit Go.Proofs.YtlbgincmndakmaaDoorA Go.Proofs.YtlbgincmndakmaaDoor.Plain
variable {H : AH}
abbrev u64 (n : Int) : Value := .int .u64 n
open Classical in
noncomputable def rdN (l : List UInt8) : Nat := if h : ∃ n, Is l n then h.choose else 0
open Classical in
noncomputable def okN (l : List UInt8) : Bool := decide (∃ n, Is l n)
theorem okN_is {l : List UInt8} (h : okN l = true) : Is l (rdN l) := by
  have h1 : ∃ n, Is l n := by simpa [okN] using h
  unfold rdN
  rw [dif_pos h1]
  exact h1.choose_spec
theorem is_rd {l : List UInt8} {n : Nat} (h : Is l n) : okN l = true ∧ rdN l = n := by
  have h1 : okN l = true := by simp only [okN, decide_eq_true_eq]; exact ⟨n, h⟩
  exact ⟨h1, (okN_is h1).uniq h⟩
theorem rdN_lt (l : List UInt8) : rdN l < 18446744073709551616 := by
  unfold rdN
  split
  · rename_i h; have := h.choose_spec.1; omega
  · decide
theorem toldN {l : List UInt8} {v : Value} (h : (∃ n, Is l n ∧ v = .tuple #[.int .u64 n, .bool true]) ∨ ((∀ n, ¬ Is l n) ∧ v = .tuple #[.int .u64 0, .bool false])) : v = .tuple #[u64 (rdN l : Nat), .bool (okN l)] := by
  rcases h with ⟨n, hn, rfl⟩ | ⟨hn, rfl⟩
  · obtain ⟨h1, h2⟩ := is_rd hn
    rw [h1, h2]
  · have h1 : ¬ ∃ n, Is l n := fun ⟨n, h⟩ => hn n h
    have h2 : okN l = false := by simp only [okN, decide_eq_false_iff_not]; exact h1
    have h3 : rdN l = 0 := by unfold rdN; rw [dif_neg h1]
    rw [h2, h3]
    rfl
/-- ref.Join -/
theorem rjoin_run {w : Bool} {sv : Value} {xs : List (List UInt8)} {O : Option Nat} (h : Row 9 w H sv (strs xs) O) (hl : xs.length < 1000000) (hx : ∀ x ∈ xs, x.length ≤ 1000000) : CallR cx 39 #[sv] H (fun v H' => v = .string (str (Lib.join xs [32])) ∧ H' = H) := by
  obtain ⟨ra, rfl, _⟩ := h.isSlice
  simp only [strs_length] at h ⊢
  refine wk39 (by simp) ?_
  simp [c39]
  rw [noText]
  refine aw_loop_to xs.length (fun k t => t.env 0 = .slice ra xs.length xs.length ∧ t.env 3 = .string (str (Lib.join (xs.take k) [32])) ∧ (Lib.join (xs.take k) [32]).length ≤ k * 1000001 ∧ t.env 4 = i64 (k : Nat) ∧ t.ds = [] ∧ t.H = H) ?_ ?_ ?_
  · rintro k ⟨env, H1, ds⟩ hk ⟨e0, e3, hjl, e4, eds, rfl⟩
    simp only at e0 e3 e4 eds
    have hkN : (k : Int) < xs.length := by omega
    have h0k : (0 : Int) ≤ k := by omega
    have hw : IntKind.i64.wrap ((k : Int) + 1) = ((k + 1 : Nat) : Int) := by rw [w64 (by omega)]; push_cast; rfl
    obtain ⟨la, oa, ca, rfl, g1, g2, _⟩ := h.cell (i := k) (x := .string (str xs[k])) (by simp [strs, hk])
    simp only at g1
    have e1' : xs.take (k + 1) = xs.take k ++ [xs[k]] := by rw [List.take_add_one, List.getElem?_eq_getElem hk]; rfl
    have hxk := hx xs[k] (List.getElem_mem hk)
    have hjn : Lib.join (xs.take (k + 1)) [32] = Lib.join (xs.take k) [32] ++ ((if 0 < k then [32] else []) ++ xs[k]) := by
      rw [e1']
      cases hx0 : xs.take k with
      | nil =>
        have : k = 0 := by
          have h : (xs.take k).length = k := by rw [List.length_take]; omega
          rw [hx0] at h
          exact h.symm
        simp [this, Lib.join_one, Lib.join_nil]
      | cons y r =>
        have : 0 < k := by
          have h : (xs.take k).length = k := by rw [List.length_take]; omega
          rw [hx0] at h
          simp at h; omega
        rw [List.cons_append, Lib.join_cons, Lib.join_cons]
        simp [Lib.joinTail, this]
    have hlen1 : (Lib.join (xs.take (k + 1)) [32]).length ≤ (k + 1) * 1000001 := by
      rw [hjn]
      simp only [List.length_append]
      have : (if 0 < k then ([32] : List UInt8) else []).length ≤ 1 := by split <;> simp
      omega
    by_cases hk0 : 0 < k
    · rw [if_pos hk0] at hjn
      have ha1 := addW (Lib.join (xs.take k) [32]) [32] (by simp; omega)
      have ha2 := addW (Lib.join (xs.take k) [32] ++ [32]) xs[k] (by simp; omega)
      rw [List.append_assoc, ← hjn] at ha2
      have hk0' : (0 : Int) < k := by omega
      simp only [← blank] at ha1
      simp [e0, e3, e4, hk, hk0, ix54 _ _ _ _ _ _ h0k hkN, g1, g2, ha1, ha2, hw, eds, -List.length_append]
      exact hlen1
    · have hk0' : k = 0 := by omega
      subst hk0'
      simp only [Nat.lt_irrefl, if_false, List.nil_append] at hjn
      have ha2 := addW (Lib.join (xs.take 0) [32]) xs[0] (by omega)
      rw [← hjn] at ha2
      have hix := ix54 la oa xs.length xs.length .i64 0 (by omega) (by omega)
      simp only [List.take_zero, Lib.join_nil] at ha2 e3
      simp only [Nat.add_zero] at g2
      simp [e0, e3, e4, hk, hix, g1, g2, ha2, eds]
      exact ⟨by simpa using hlen1, by rw [w64 (by omega)]⟩
  · rintro ⟨env, H1, ds⟩ ⟨e0, e3, hjl, e4, eds, rfl⟩
    simp only at e0 e3 e4 eds
    rw [List.take_length] at e3
    simp [e0, e3, e4, eds]
  · simp [Lib.join_nil]
/-- digits.Print -/
theorem print_run {n : Nat} (hn : n < 18446744073709551616) : CallR cx 21 #[.int .u64 n] H (fun v H' => v = .string (str (dec n)) ∧ Fresh H H') := by
  refine wk21 (by simp) ?_
  simp [c21]
  refine callV_R cb47 (decimal_run hn) ?_
  rintro _ H1 ⟨rfl, hf⟩
  simp [hf]
theorem hex_inj : ∀ {l m : List UInt8}, hex l = hex m → l = m
  | [], [], _ => rfl
  | [], b :: m, h => by have := congrArg List.length h; rw [hex_len, hex_len] at this; simp at this
  | a :: l, [], h => by have := congrArg List.length h; rw [hex_len, hex_len] at this; simp at this
  | a :: l, b :: m, h => by
    have e : ∀ (x : UInt8) (r : List UInt8), hex (x :: r) = hd (x.toNat / 16) :: hd (x.toNat % 16) :: hex r := fun _ _ => rfl
    rw [e, e] at h
    simp only [List.cons.injEq] at h
    obtain ⟨h1, h2, h3⟩ := h
    have ha := UInt8.toNat_lt a
    have hb := UInt8.toNat_lt b
    have g1 := hd_inj ⟨a.toNat / 16, by omega⟩ ⟨b.toNat / 16, by omega⟩ h1
    have g2 := hd_inj ⟨a.toNat % 16, by omega⟩ ⟨b.toNat % 16, by omega⟩ h2
    simp only [Fin.mk.injEq] at g1 g2
    have : a = b := UInt8.toNat_inj.1 (by omega)
    rw [this, hex_inj h3]
theorem hd_plain : ∀ n : Fin 16, hd n.val ≠ 32 := by decide
theorem hex_plain : ∀ l : List UInt8, (32 : UInt8) ∉ hex l
  | [], h => by cases h
  | a :: l, h => by
    have e : hex (a :: l) = hd (a.toNat / 16) :: hd (a.toNat % 16) :: hex l := rfl
    have ha := UInt8.toNat_lt a
    rw [e] at h
    rcases List.mem_cons.1 h with h | h
    · exact hd_plain ⟨a.toNat / 16, by omega⟩ h.symm
    rcases List.mem_cons.1 h with h | h
    · exact hd_plain ⟨a.toNat % 16, by omega⟩ h.symm
    · exact hex_plain l h

def getW : List UInt8 := [103, 101, 116]
def putW : List UInt8 := [112, 117, 116]
def delW : List UInt8 := [100, 101, 108, 101, 116, 101]
def resW : List UInt8 := [114, 101, 115, 105, 122, 101]
def staW : List UInt8 := [115, 116, 97, 116, 115]
def dumW : List UInt8 := [100, 117, 109, 112]
def wordL (k : Int) : List UInt8 := if k = 1 then getW else if k = 2 then putW else if k = 3 then delW else if k = 4 then resW else if k = 5 then staW else if k = 6 then dumW else []
def kindL (w : List UInt8) : Int := if w = getW then 1 else if w = putW then 2 else if w = delW then 3 else if w = resW then 4 else if w = staW then 5 else if w = dumW then 6 else 0
theorem word_run {k : Int} : CallR cx 19 #[i64 k] H (fun v H' => v = .string (str (wordL k)) ∧ H' = H) := by
  refine wk19 (by simp) ?_
  by_cases h1 : k = 1
  · simp [c19, h1, wordL, getW]
  by_cases h2 : k = 2
  · simp [c19, h2, wordL, putW]
  by_cases h3 : k = 3
  · simp [c19, h3, wordL, delW]
  by_cases h4 : k = 4
  · simp [c19, h4, wordL, resW]
  by_cases h5 : k = 5
  · simp [c19, h5, wordL, staW]
  by_cases h6 : k = 6
  · simp [c19, h6, wordL, dumW]
  simp [c19, h1, h2, h3, h4, h5, h6, wordL]
def keyP (k : Int) : Prop := k = 1 ∨ k = 2 ∨ k = 3
instance (k : Int) : Decidable (keyP k) := by unfold keyP; infer_instance
theorem keyed_run {k : Int} : CallR cx 20 #[i64 k] H (fun v H' => v = .bool (decide (keyP k)) ∧ H' = H) := by
  refine wk20 (by simp) ?_
  by_cases h1 : k = 1
  · simp [c20, h1, keyP]
  by_cases h2 : k = 2
  · simp [c20, h2, keyP]
  by_cases h3 : k = 3
  · simp [c20, h3, keyP]
  simp [c20, h1, h2, h3, keyP]
theorem kind_at {w : List UInt8} : ∀ k : Nat, k < 6 → wordL ((k : Int) + 1) = w → kindL w = (k : Int) + 1 := by
  intro k hk h
  have : k = 0 ∨ k = 1 ∨ k = 2 ∨ k = 3 ∨ k = 4 ∨ k = 5 := by omega
  subst h
  rcases this with rfl | rfl | rfl | rfl | rfl | rfl <;> decide
theorem kind_no {w : List UInt8} (h : ∀ j : Nat, j < 6 → wordL ((j : Int) + 1) ≠ w) : kindL w = 0 := by
  have h0 := h 0 (by omega)
  have h1 := h 1 (by omega)
  have h2 := h 2 (by omega)
  have h3 := h 3 (by omega)
  have h4 := h 4 (by omega)
  have h5 := h 5 (by omega)
  unfold kindL
  rw [if_neg (fun e => h0 (by rw [e]; rfl)), if_neg (fun e => h1 (by rw [e]; rfl)), if_neg (fun e => h2 (by rw [e]; rfl)), if_neg (fun e => h3 (by rw [e]; rfl)), if_neg (fun e => h4 (by rw [e]; rfl)), if_neg (fun e => h5 (by rw [e]; rfl))]
theorem kind_run {w : List UInt8} : CallR cx 27 #[.string (str w)] H (fun v H' => v = i64 (kindL w) ∧ H' = H) := by
  refine wk27 (by simp) ?_
  simp [c27]
  refine aw_loop_to 6 (fun k s' => s'.env 0 = .string (str w) ∧ s'.env 2 = i64 0 ∧ s'.env 3 = i64 (k + 1) ∧ s'.ds = [] ∧ s'.H = H ∧ (∀ j : Nat, j < k → wordL ((j : Int) + 1) ≠ w)) ?_ ?_ ?_
  · rintro k ⟨env, H1, ds⟩ hk ⟨e0, e2, e3, eds, rfl, hno⟩
    simp only at e0 e2 e3 eds
    have h4 : (k : Int) + 1 ≤ 6 := by omega
    have hw : IntKind.i64.wrap ((k : Int) + 1 + 1) = (k : Int) + 1 + 1 := wrapL (by omega)
    simp [e0, e2, e3, h4]
    refine callV_R cb19 word_run ?_
    rintro _ H1 ⟨rfl, rfl⟩
    by_cases hs : wordL ((k : Int) + 1) = w
    · have hk1 := kind_at k hk hs
      simp [e0, e3, hs, eds, hk1]
    · simp [e0, e2, e3, hs, eds, hw]
      intro j hj
      by_cases hjk : j = k
      · subst hjk; exact hs
      · exact hno j (by omega)
  · rintro ⟨env, H1, ds⟩ ⟨e0, e2, e3, eds, rfl, hno⟩
    simp only at e0 e2 e3 eds
    have h0 := kind_no hno
    simp [e0, e2, e3, eds, h0]
  · simp
/-- may a kind's line have so many words behind the first one -/
def fitsP (k m : Int) : Prop := if k = 0 then False else if k = 5 ∨ k = 6 then m = 0 else if k = 2 then m = 1 ∨ m = 2 else if k = 4 then True else m = 1
instance (k m : Int) : Decidable (fitsP k m) := by unfold fitsP; infer_instance
theorem fits_run {k m : Int} : CallR cx 28 #[i64 k, i64 m] H (fun v H' => v = .bool (decide (fitsP k m)) ∧ H' = H) := by
  refine wk28 (by simp) ?_
  by_cases h0 : k = 0
  · simp [c28, h0, fitsP]
  by_cases h5 : k = 5
  · simp [c28, h5, fitsP]
  by_cases h6 : k = 6
  · simp [c28, h6, fitsP]
  by_cases h2 : k = 2
  · by_cases m1 : m = 1
    · simp [c28, h2, m1, fitsP]
    · simp [c28, h2, m1, fitsP]
  by_cases h4 : k = 4
  · simp [c28, h4, fitsP]
  simp [c28, h0, h2, h4, h5, h6, fitsP]
open Classical in
noncomputable def unhex (s : List UInt8) : Option (List UInt8) := if h : ∃ l, s = hex l then some h.choose else none
theorem unhex_hex (l : List UInt8) : unhex (hex l) = some l := by
  have h : ∃ m, hex l = hex m := ⟨l, rfl⟩
  unfold unhex
  rw [dif_pos h]
  exact congrArg some (hex_inj h.choose_spec).symm
theorem unhex_some {s l : List UInt8} (h : unhex s = some l) : s = hex l := by
  unfold unhex at h
  split at h
  · rename_i hx
    cases h
    exact hx.choose_spec
  · cases h
theorem unhex_none {s : List UInt8} (h : ∀ l, s ≠ hex l) : unhex s = none := by
  unfold unhex
  rw [dif_neg]
  rintro ⟨l, e⟩
  exact h l e
theorem toldH_shape {s : List UInt8} {H0 H' : AH} {v : Value} (h : ToldH s H0 H' v) : ∃ sv O, v = .tuple #[sv, .bool (unhex s).isSome] ∧ Row 5 true H' sv (((unhex s).getD []).map u8v) O ∧ ∀ x, O = some x → H0.next ≤ x := by
  rcases h with ⟨l, sv, O, rfl, rfl, h1, h2⟩ | ⟨h1, rfl⟩
  · rw [unhex_hex]
    exact ⟨sv, O, rfl, h1, h2⟩
  · rw [unhex_none h1]
    exact ⟨_, none, rfl, Row.nil, by simp⟩
theorem unhex_len {s l : List UInt8} (h : unhex s = some l) : 2 * l.length = s.length := by rw [unhex_some h, hex_len]
/-- what a value's word is read as -/
noncomputable def valOf (w : List UInt8) : List UInt8 × Int := match unhex w with
  | none => ([], 7)
  | some l => if l = [] then ([], 7) else if 1024 < l.length then ([], 6) else (l, 0)
def ValR (w : List UInt8) (B : Nat) (H : AH) (v : Value) : Prop := ∃ sv O, v = .tuple #[sv, i64 (valOf w).2] ∧ Row 5 true H sv ((valOf w).1.map u8v) O ∧ ∀ x, O = some x → B ≤ x
theorem value_run {w : List UInt8} (hw : w.length < 100000000) : CallR cx 31 #[.string (str w)] H (fun v H' => Fresh H H' ∧ ValR w H.next H' v) := by
  refine wk31 (by simp) ?_
  unfold c31
  refine aw_cut (fun t => t.env 0 = .string (str w) ∧ t.ds = [] ∧ t.H = H) (by simp) ?_
  rintro ⟨env, H1, ds⟩ ⟨e0, eds, hH⟩
  simp only at e0 eds hH
  subst hH
  refine aw_cut (fun t => t.env 5 = .bool (unhex w).isSome ∧ t.ds = [] ∧ Fresh H1 t.H ∧ ∃ O, Row 5 true t.H (t.env 4) (((unhex w).getD []).map u8v) O ∧ ∀ x, O = some x → H1.next ≤ x) ?_ ?_
  · simp [e0]
    refine callV_R cb54 (readHex_run hw) ?_
    rintro v H2 ⟨f2, hv⟩
    obtain ⟨sv, O, rfl, h1, h2⟩ := toldH_shape hv
    simp [eds, f2]
    exact ⟨O, h1, h2⟩
  clear e0 eds
  rintro ⟨env, H2, ds⟩ ⟨e5, eds, f2, O, hrow, hO⟩
  simp only at e5 eds f2 hrow
  generalize e4 : env 4 = sv at hrow
  obtain ⟨ra, rfl, _⟩ := hrow.isSlice
  simp only [List.length_map] at hrow e4
  have nilR : ∀ {e : Int}, valOf w = ([], e) → ValR w H1.next H2 (.tuple #[.slice none 0 0, i64 e]) := fun he => ⟨_, none, by rw [he], by rw [he]; exact Row.nil, by simp⟩
  cases hu : unhex w with
  | none =>
    have hv : valOf w = ([], 7) := by simp [valOf, hu]
    rw [hu] at e5 e4
    simp [e4, e5, eds, f2]
    exact nilR hv
  | some l =>
    rw [hu] at e5 e4 hrow
    simp only [Option.getD_some] at e4 hrow
    by_cases hl0 : l = []
    · have hv : valOf w = ([], 7) := by simp [valOf, hu, hl0]
      subst hl0
      simp [e4, e5, eds, f2]
      exact nilR hv
    have hln : ¬ l.length = 0 := fun h => hl0 (List.length_eq_zero_iff.1 h)
    by_cases hl1 : 1024 < l.length
    · have hv : valOf w = ([], 6) := by simp [valOf, hu, hl0, hl1]
      have hli : (1024 : Int) < l.length := by omega
      simp [e4, e5, hl0, hln, hl1, hli, eds, f2]
      exact nilR hv
    · have hv : valOf w = (l, 0) := by simp [valOf, hu, hl0, hl1]
      have hli : ¬ (1024 : Int) < l.length := by omega
      simp [e4, e5, hl0, hln, hl1, hli, eds, f2]
      exact ⟨_, O, by rw [hv], by rw [hv]; exact hrow, hO⟩
end Go.Proofs.YtlbgincmndakmaaDoor.C

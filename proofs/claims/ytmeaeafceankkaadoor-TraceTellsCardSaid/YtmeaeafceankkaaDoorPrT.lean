/- What is told of a trace: the program's and the document's. Own text of this session. -/
import Derived.Test.YtmeaeafceankkaaDoorRuns
set_option linter.unusedVariables false
set_option linter.unusedSimpArgs false
set_option maxRecDepth 4000
set_option maxHeartbeats 4000000
namespace Go.Proofs.YtmeaeafceankkaaDoor.C
open Go Go.RowKit Go.Proofs.YtmeaeafceankkaaDoorA Go.Proofs.YtmeaeafceankkaaDoor.Plain
variable {H : AH}
theorem sdec_nat (n : Nat) : sdec (n : Int) = dec n := by
  have : ¬ (n : Int) < 0 := by omega
  simp [sdec, this]
theorem t42 : (⟨#[42]⟩ : ByteArray) = str [42] := rfl
theorem t45 : (⟨#[45]⟩ : ByteArray) = str [45] := rfl
/-- trace.word -/
theorem word_run {w : Bool} {sv : Value} {l : List Nat} {O : Option Nat} (h : Row 39 w H sv (gcells l) O) (hs : Sm l) (hne : l ≠ []) (hl : l.length ≤ 5000) : CallR cx 21 #[sv] H (fun v H' => v = .tuple #[.string (str (wordF l).1), i64 ((wordF l).2 : Nat)] ∧ Fresh H H') := by
  have hp : 0 < l.length := List.length_pos_iff.2 hne
  have s := smN_spec hne
  have r := rsN_spec hne
  have b0 := hs.getD 0
  have br := hs.getD (rsN l - 1)
  have hlen0 := dec_len20 b0
  have hlenr := dec_len20 br
  have hlenm := dec_len20 (n := smN l) (by omega)
  have hsame := fun H1 (f : Fresh H H1) => same_run (h.keep f (fun _ _ => id)) hne (by omega)
  have hrise := fun H1 (f : Fresh H H1) => rising_run (h.keep f (fun _ _ => id)) hs hne (by omega)
  obtain ⟨ra, rfl, _⟩ := h.isSlice
  simp only [List.length_map] at h hsame hrise ⊢
  have cell := fun (H1 : AH) (f : Fresh H H1) (j : Nat) (hj : j < l.length) => gcell (h.keep f (fun _ _ => id)) hj
  obtain ⟨la, oa, c0, rfl, q1, q2⟩ := cell H Fresh.refl 0 hp
  have hix0 := ix22 la oa l.length l.length .i64 0 (by omega) (by omega)
  simp only [Int.toNat_zero, Nat.add_zero] at hix0 q2
  refine wk21 (by simp) ?_
  unfold wordF
  generalize l.getD 0 0 = x0 at *
  simp [c21, hix0, q1, q2]
  refine callV_R cb37 (print_run b0) ?_
  rintro _ H1 ⟨rfl, f1⟩
  simp
  refine callV_R cb38 (hsame H1 f1) ?_
  rintro _ H2 ⟨rfl, hH⟩
  subst hH
  by_cases h1 : 1 < smN l
  · rw [if_pos h1]
    have h1I : (1 : Int) < smN l := by omega
    have a1 := fun ox oy => addW (dec x0) [42] (by simp; omega) ox oy
    simp [h1, h1I, t42, a1]
    refine callV_R cb39 (int_run (i := (smN l : Nat)) (by unfold I64; omega)) ?_
    rintro _ H3 ⟨rfl, f3⟩
    rw [sdec_nat]
    have a2 := fun ox oy => addW (dec x0 ++ [42]) (dec (smN l)) (by simp; omega) ox oy
    simp [a2]
    exact f1.trans f3
  rw [if_neg h1]
  have h1I : ¬ (1 : Int) < smN l := by omega
  simp [h1, h1I]
  refine callV_R cb40 (hrise H2 f1) ?_
  rintro _ H3 ⟨rfl, hH⟩
  subst hH
  by_cases h3 : 3 ≤ rsN l
  · rw [if_pos h3]
    have h3I : (3 : Int) ≤ rsN l := by omega
    obtain ⟨m, hm⟩ : ∃ m, m = rsN l - 1 := ⟨_, rfl⟩
    have hwm : IntKind.i64.wrap ((rsN l : Int) - 1) = (m : Int) := by rw [w64 (by omega)]; omega
    have hmN : (m : Int) < l.length := by omega
    have hix := ix22 la oa l.length l.length .i64 (m : Int) (by omega) hmN
    rw [Int.toNat_natCast] at hix
    obtain ⟨la', oa', c1, e, q3, q4⟩ := cell H3 f1 m (by omega)
    cases e
    rw [← hm] at br hlenr ⊢
    generalize hgy : l.getD m 0 = y at q4 br hlenr
    rw [List.getD_eq_getElem?_getD] at hgy
    have a1 := fun ox oy => addW (dec x0) [45] (by simp; omega) ox oy
    have a2 := fun ox oy => addW (dec x0 ++ [45]) (dec y) (by simp; omega) ox oy
    simp [h3, h3I, t45, a1, hwm, hix, q3, q4]
    refine callV_R cb37 (print_run br) ?_
    rintro _ H4 ⟨rfl, f4⟩
    simp [a2, hgy]
    exact f1.trans f4
  · rw [if_neg h3]
    have h3I : ¬ (3 : Int) ≤ rsN l := by omega
    simp [h3, h3I]
    exact f1
/-- one more text -/
theorem app47 {H1 H2 : AH} {ov : Value} {xs : List (List UInt8)} {O' : Option Nat} (x : List UInt8) (hr : Row 9 true H2 ov (strs xs) O') (hf : Fresh H1 H2) (hO : ∀ y, O' = some y → H1.next ≤ y) (hx : xs.length ≤ 2000000) :
    ∃ H3, aAppend Tryd.prog 47 47 ov (.slice (some ⟨H2.next, 0, none⟩) 1 1) ⟨H2.next + 1, upd H2.get H2.next (.cells [.string (str x)] 9 true 1)⟩ = some (sl (H2.next + 1) 0 (xs.length + 1), H3) ∧ Fresh H1 H3 ∧ Row 9 true H3 (sl (H2.next + 1) 0 (xs.length + 1)) (strs (xs ++ [x])) (some (H2.next + 1)) ∧ H1.next ≤ H2.next + 1 ∧ H2.next ≤ H3.next := by
  have hel : (strs xs).length = xs.length := by simp [strs]
  obtain ⟨H3, hap, hnx, hget, hrow3, hkp⟩ := row_append el47 hr (by rw [hel]; omega) (v := .string (str x)) rfl
  rw [hel] at hap hrow3
  have e : strs xs ++ [.string (str x)] = strs (xs ++ [x]) := by simp [strs]
  rw [e] at hrow3
  exact ⟨H3, hap, ⟨by have := hf.1; omega, fun z hz _ => by rw [hkp z (by have := hf.1; omega) (fun e => by have := hO z e; omega), hf.get hz]⟩, hrow3, by have := hf.1; omega, by omega⟩
/-- what is left to tell, and what was told -/
def PrI (w : Bool) (O : Option Nat) (l : List Nat) (n0 : Nat) (H : AH) (k : Nat) (v0 v4 : Value) : Prop := ∃ r out Oo, Row 39 w H v0 (gcells r) O ∧ Row 9 true H v4 (strs out) Oo ∧ (∀ x, Oo = some x → n0 ≤ x) ∧ out.length = k ∧ printW l = out ++ printW r ∧ r.length ≤ l.length ∧ Sm r
/-- trace.Print -/
theorem tprint_run {w : Bool} {sv : Value} {l : List Nat} {O : Option Nat} (h : Row 39 w H sv (gcells l) O) (hs : Sm l) (hl : l.length ≤ 4096) : CallR cx 8 #[sv] H (fun v H' => v = .tuple #[.string (str (textT l)), i64 0] ∧ Fresh H H') := by
  have hlenW := printW_len _ l (Nat.le_refl _)
  have hshort := text_short hs hl
  obtain ⟨ra, rfl, _⟩ := h.isSlice
  simp only [List.length_map] at h ⊢
  have h4 : ¬ 4096 < l.length := by omega
  have h4I : ¬ (4096 : Int) < l.length := by omega
  refine wk8 (by simp) ?_
  unfold c8
  refine aw_cut (fun t => t.env 0 = .slice ra l.length l.length ∧ t.ds = [] ∧ t.H = H) (by simp) ?_
  rintro ⟨env, H0, ds⟩ ⟨e0, eds, rfl⟩
  simp only at e0 eds
  simp only at h
  simp [e0, h4, h4I, eds]
  refine aw_loop_to (printW l).length (fun k t => t.ds = [] ∧ Fresh H0 t.H ∧ PrI w O l H0.next t.H k (t.env 0) (t.env 4)) ?_ ?_ ?_
  · clear e0 eds h4 h4I
    rintro k ⟨env, H1, ds⟩ hk ⟨eds, f1, r, out, Oo, hr, ho, hO, hok, hp, hrl, hsr⟩
    simp only at eds f1 hr ho
    have hr0 : r ≠ [] := by
      rintro rfl
      rw [printW_nil, List.append_nil] at hp
      rw [hp] at hk; omega
    generalize e0 : env 0 = rv at hr
    generalize e4 : env 4 = ov at ho
    have hword := word_run hr hsr hr0 (by omega)
    have hn := wordF_n hr0
    obtain ⟨rb, rfl, _⟩ := hr.isSlice
    simp only [List.length_map] at hr hword e0
    have hpos : 0 < r.length := by omega
    have hposI : (0 : Int) < r.length := by omega
    simp [e0, hpos, hposI]
    refine callV_R cb21 hword ?_
    rintro _ H2 ⟨rfl, f2⟩
    have hprn := printW_cons hr0
    generalize (wordF r).1 = wd at *
    generalize (wordF r).2 = n at *
    obtain ⟨H3, a1, a2, a3, a4, a5⟩ := app47 wd (ho.keep f2 (fun _ _ => id)) (f1.trans f2) hO (by omega)
    have hr3 : Row 39 w H3 (.slice rb r.length r.length) (gcells r) O := hr.same (fun z hz => by
      subst hz
      rw [a2.get h.low, f1.get h.low]) (Nat.le_trans f2.1 a5)
    obtain ⟨sv2, q1, q2⟩ := row_part el22 hr3 (lo := some (i64 (n : Nat))) (hi := none) (a := n) (b := r.length) (by simp [bnd]) (by simp [bnd]; omega) (by omega) (by simp)
    have hgd : ((gcells r).take r.length).drop n = gcells (r.drop n) := by rw [List.take_of_length_le (by simp), gcells, gcells, List.map_drop]
    rw [hgd] at q2
    simp [e0, e4, a1, q1, eds]
    refine ⟨a2, _, out ++ [wd], _, q2, a3, fun x e => by cases e; exact a4, by simp; omega, ?_, by simp; omega, hsr.drop _⟩
    rw [hp, hprn]; simp
  · clear e0 eds h4 h4I
    rintro ⟨env, H1, ds⟩ ⟨eds, f1, r, out, Oo, hr, ho, hO, hok, hp, hrl, hsr⟩
    simp only at eds f1 hr ho
    have hr0 : r = [] := by
      have := congrArg List.length hp
      simp only [List.length_append] at this
      by_cases h0 : r = []
      · exact h0
      · rw [printW_cons h0] at this; simp at this; omega
    subst hr0
    rw [printW_nil, List.append_nil] at hp
    generalize e0 : env 0 = rv at hr
    obtain ⟨rb, rfl, _⟩ := hr.isSlice
    simp at e0
    simp [e0]
    refine callV_R cb22 (join_row ho (by omega) (by rw [← hp]; have := hshort; rw [textT] at this; omega)) ?_
    rintro _ H2 ⟨rfl, hH⟩
    subst hH
    rw [← hp]
    simp [eds, textT]
    exact f1
  · simp [e0, eds, Fresh.refl]
    exact ⟨l, [], none, h, Row.nil, fun x e => (by cases e), rfl, by simp, Nat.le_refl _, hs⟩
/-- the text so far, and what comes ahead of the next word -/
def soFar (out : List (List UInt8)) : List UInt8 := if out = [] then [] else Lib.join out [32] ++ [32]
theorem join_snoc (out : List (List UInt8)) (w : List UInt8) : Lib.join (out ++ [w]) [32] = soFar out ++ w := by
  cases out with
  | nil => simp [soFar, Lib.join_one]
  | cons x r =>
    rw [soFar, if_neg (by simp), List.cons_append, Lib.join_cons, Lib.join_cons, joinT_app]
    simp [Lib.joinTail]
/-- what stands at a place of the text -/
def PrJ (l : List Nat) (k i : Nat) (out : List (List UInt8)) : Prop := out.length = k ∧ printW l = out ++ printW (l.drop i) ∧ i ≤ l.length ∧ (Lib.join out [32]).length ≤ 21 * i ∧ (out = [] ↔ i = 0)
/-- ref.Print -/
theorem rtprint_run {w : Bool} {sv : Value} {l : List Nat} {O : Option Nat} (h : Row 39 w H sv (gcells l) O) (hs : Sm l) (hl : l.length ≤ 4096) : CallR cx 10 #[sv] H (fun v H' => v = .string (str (textT l)) ∧ Fresh H H') := by
  have hlenW := printW_len _ l (Nat.le_refl _)
  have hlike := fun H1 (f : Fresh H H1) i (hi : i < l.length) => like_run (h.keep f (fun _ _ => id)) hi (by omega)
  have hrise := fun H1 (f : Fresh H H1) i (hi : i < l.length) => rrise_run (h.keep f (fun _ _ => id)) hs hi (by omega)
  obtain ⟨ra, rfl, _⟩ := h.isSlice
  simp only [List.length_map] at h hlike hrise ⊢
  have cell := fun (H1 : AH) (f : Fresh H H1) (j : Nat) (hj : j < l.length) => gcell (h.keep f (fun _ _ => id)) hj
  refine wk10 (by simp) ?_
  simp [c10]
  refine aw_loop_to (printW l).length (fun k t => t.env 0 = .slice ra l.length l.length ∧ t.ds = [] ∧ Fresh H t.H ∧ ∃ i out, t.env 3 = .string (str (Lib.join out [32])) ∧ t.env 4 = i64 (i : Nat) ∧ PrJ l k i out) ?_ ?_ ?_
  · rintro k ⟨env, H1, ds⟩ hk ⟨e0, eds, f1, i, out, e3, e4, ho, hp, hil, hjl, hoi⟩
    simp only at e0 e3 e4 eds f1
    have hi : i < l.length := by
      by_cases h0 : i < l.length
      · exact h0
      · have : l.drop i = [] := List.drop_eq_nil_iff.2 (by omega)
        rw [this, printW_nil, List.append_nil] at hp
        rw [hp] at hk; omega
    have hiI : (i : Int) < l.length := by omega
    have hne : l.drop i ≠ [] := fun e => by have := congrArg List.length e; simp at this; omega
    have hjn := fun ox oy => addW (Lib.join out [32]) [32] (by simp; omega) ox oy
    simp [e0, e3, e4, hi, hiI, eds]
    rw [blank]
    refine onBool_join (fun t => t.env 0 = .slice ra l.length l.length ∧ t.env 3 = .string (str (soFar out)) ∧ t.env 4 = i64 (i : Nat) ∧ t.ds = [] ∧ t.H = H1) ?_ ?_
    · by_cases h0 : i = 0
      · have hI : ¬ (0 : Int) < i := by omega
        have hN : ¬ 0 < i := by omega
        have ho0 := hoi.2 h0
        simp [hI, hN, e0, e3, e4, eds, soFar, ho0, Lib.join_nil]
      · have hI : (0 : Int) < i := by omega
        have hN : 0 < i := by omega
        have ho0 : ¬ out = [] := fun e => h0 (hoi.1 e)
        simp [hI, hN, e0, e3, e4, eds, soFar, ho0, hjn]
    · clear e0 e3 e4 eds hjn
      rintro ⟨env, H2, ds⟩ ⟨e0, e3, e4, eds, hH⟩
      simp only at e0 e3 e4 eds hH
      subst hH
      have hsl : (soFar out).length ≤ 21 * i + 1 := by
        unfold soFar
        split <;> simp <;> omega
      have hwl := wordF_len (hs.drop i) (by simp; omega) hne
      have hwn := wordF_n hne
      simp only [List.length_drop] at hwn
      have hprn := printW_cons hne
      rw [List.drop_drop] at hprn
      have hnew : ∀ (wd : List UInt8) (n i1 : Nat), wd = (wordF (l.drop i)).1 → n = (wordF (l.drop i)).2 → i1 = i + n → PrJ l (k + 1) i1 (out ++ [wd]) := by
        rintro wd n i1 rfl rfl rfl
        refine ⟨by simp [ho], by rw [hp, hprn]; simp, by omega, ?_, by simp; omega⟩
        rw [join_snoc]
        simp only [List.length_append]
        omega
      clear hp hprn hwl hwn hoi hjl
      have s := smN_spec hne
      have r := rsN_spec hne
      simp only [List.length_drop] at s r
      have b0 := (hs.drop i).getD 0
      have br := (hs.drop i).getD (rsN (l.drop i) - 1)
      have hlen0 := dec_len20 b0
      have hlenr := dec_len20 br
      have hlenm := dec_len20 (n := smN (l.drop i)) (by omega)
      have hlike2 := hlike H2 f1 i hi
      have hrise2 := hrise H2 f1 i hi
      obtain ⟨la, oa, c0, rfl, q1, q2⟩ := cell H2 f1 i hi
      have hgi : l.getD i 0 = (l.drop i).getD 0 0 := by rw [getD_drop]; rfl
      rw [hgi] at q2
      have hix := ix22 la oa l.length l.length .i64 (i : Int) (by omega) hiI
      rw [Int.toNat_natCast] at hix
      unfold wordF at hnew
      generalize hx0 : (l.drop i).getD 0 0 = x0 at *
      simp [e0, e3, e4, eds]
      refine callV_R cb25 hlike2 ?_
      rintro _ H3 ⟨rfl, hH⟩
      subst hH
      have a1 := fun ox oy => addW (soFar out) (dec x0) (by omega) ox oy
      by_cases h1 : 1 < smN (l.drop i)
      · rw [if_pos h1] at hnew
        have h1I : (2 : Int) ≤ smN (l.drop i) := by omega
        have h1N : 2 ≤ smN (l.drop i) := by omega
        simp [h1N, h1I, e0, e3, e4, hix, q1, q2]
        refine callV_R cb26 (rprint_run b0) ?_
        rintro _ H4 ⟨rfl, f4⟩
        have a2 := fun ox oy => addW (soFar out ++ dec x0) [42] (by simp; omega) ox oy
        simp [a1, a2, t42, e0, e3, e4]
        refine callV_R cb27 (rint_run (i := (smN (l.drop i) : Nat)) (by unfold I64; omega)) ?_
        rintro _ H5 ⟨rfl, f5⟩
        rw [sdec_nat]
        have a3 := fun ox oy => addW (soFar out ++ (dec x0 ++ [42])) (dec (smN (l.drop i))) (by simp; omega) ox oy
        obtain ⟨i1, hi1⟩ : ∃ i1, i1 = i + smN (l.drop i) := ⟨_, rfl⟩
        have hwi : IntKind.i64.wrap ((i : Int) + (smN (l.drop i) : Nat)) = (i1 : Int) := by rw [w64 (by omega)]; omega
        have hJ := hnew _ _ i1 rfl rfl hi1
        simp [e0, e4, a3, hwi, eds]
        exact ⟨f1.trans (f4.trans f5), i1, _, by rw [join_snoc], rfl, hJ⟩
      rw [if_neg h1] at hnew
      have h1I : ¬ (2 : Int) ≤ smN (l.drop i) := by omega
      have h1N : ¬ 2 ≤ smN (l.drop i) := by omega
      simp [h1N, h1I, e0, e3, e4]
      refine callV_R cb28 hrise2 ?_
      rintro _ H4 ⟨rfl, hH⟩
      subst hH
      by_cases h3 : 3 ≤ rsN (l.drop i)
      · rw [if_pos h3] at hnew
        have h3I : (3 : Int) ≤ rsN (l.drop i) := by omega
        obtain ⟨i1, hi1⟩ : ∃ i1, i1 = i + rsN (l.drop i) := ⟨_, rfl⟩
        have hwi : IntKind.i64.wrap ((i : Int) + (rsN (l.drop i) : Nat)) = (i1 : Int) := by rw [w64 (by omega)]; omega
        obtain ⟨j, hj⟩ : ∃ j, j = i1 - 1 := ⟨_, rfl⟩
        have hwj : IntKind.i64.wrap ((i1 : Int) - 1) = (j : Int) := by rw [w64 (by omega)]; omega
        have hjN : (j : Int) < l.length := by omega
        have hixj := ix22 la oa l.length l.length .i64 (j : Int) (by omega) hjN
        rw [Int.toNat_natCast] at hixj
        have hJ := hnew _ _ i1 rfl rfl hi1
        have hgj : l.getD j 0 = (l.drop i).getD (rsN (l.drop i) - 1) 0 := by rw [getD_drop]; congr 1; omega
        have cellj := fun H5 (f : Fresh H H5) => cell H5 f j (by omega)
        rw [hgj] at cellj
        generalize (l.drop i).getD (rsN (l.drop i) - 1) 0 = y at *
        obtain ⟨la', oa', c1, e, q3, q4⟩ := cellj H4 f1
        cases e
        simp [h3, h3I, e0, e3, e4, hix, q1, q2]
        refine callV_R cb26 (rprint_run b0) ?_
        rintro _ H5 ⟨rfl, f5⟩
        obtain ⟨la', oa', c2, e, q5, q6⟩ := cellj H5 (f1.trans f5)
        cases e
        have a2 := fun ox oy => addW (soFar out ++ dec x0) [45] (by simp; omega) ox oy
        have a3 := fun ox oy => addW (soFar out ++ (dec x0 ++ [45])) (dec y) (by simp; omega) ox oy
        simp [a1, a2, t45, e0, e3, e4, hwi, hwj, hixj, q5, q6]
        refine callV_R cb26 (rprint_run br) ?_
        rintro _ H6 ⟨rfl, f6⟩
        obtain ⟨la', oa', c3, e, q7, q8⟩ := cellj H6 ((f1.trans f5).trans f6)
        cases e
        simp [a3, e0, e4, hwi, q7, q8, q3, q4, eds]
        exact ⟨f1.trans (f5.trans f6), i1, _, by rw [join_snoc], rfl, hJ⟩
      · rw [if_neg h3] at hnew
        have h3I : ¬ (3 : Int) ≤ rsN (l.drop i) := by omega
        obtain ⟨i1, hi1⟩ : ∃ i1, i1 = i + 1 := ⟨_, rfl⟩
        have hwi : IntKind.i64.wrap ((i : Int) + 1) = (i1 : Int) := by rw [w64 (by omega)]; omega
        have hJ := hnew _ _ i1 rfl rfl hi1
        simp [h3, h3I, e0, e3, e4, hix, q1, q2]
        refine callV_R cb26 (rprint_run b0) ?_
        rintro _ H5 ⟨rfl, f5⟩
        simp [a1, e0, e3, e4, hwi, eds]
        exact ⟨f1.trans f5, i1, _, by rw [join_snoc], rfl, hJ⟩
  · rintro ⟨env, H1, ds⟩ ⟨e0, eds, f1, i, out, e3, e4, ho, hp, hil, hjl, hoi⟩
    simp only at e0 e3 e4 eds f1
    have hi : ¬ i < l.length := by
      intro h0
      have := congrArg List.length hp
      have hne : l.drop i ≠ [] := fun e => by have := congrArg List.length e; simp at this; omega
      rw [List.length_append, printW_cons hne] at this
      simp at this; omega
    have hiI : ¬ (i : Int) < l.length := by omega
    have : l.drop i = [] := List.drop_eq_nil_iff.2 (by omega)
    rw [this, printW_nil, List.append_nil] at hp
    simp [e0, e3, e4, hi, hiI, eds, textT, hp]
    exact f1
  · simp [Fresh.refl]
    exact ⟨0, [], rfl, rfl, rfl, by simp, by omega, by simp [Lib.join_nil], by simp⟩
end Go.Proofs.YtmeaeafceankkaaDoor.C

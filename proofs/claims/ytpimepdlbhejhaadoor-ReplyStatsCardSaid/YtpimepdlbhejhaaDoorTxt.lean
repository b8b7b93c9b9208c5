/- The text of counts, told and read: the plain law, and the walks that tell. Own text of this session. -/
import Derived.Test.YtpimepdlbhejhaaDoorFld
set_option linter.unusedVariables false
set_option linter.unusedSimpArgs false
set_option maxRecDepth 4000
set_option maxHeartbeats 8000000
namespace Go.Proofs.YtpimepdlbhejhaaDoor.C
open Go Go.RowKit Go.Proofs.YtpimepdlbhejhaaDoorA Go.Proofs.YtpimepdlbhejhaaDoor.Plain
variable {H : AH}
/-- whole numbers of the machine's without a sign -/
def U64 (n : Int) : Prop := 0 ≤ n ∧ n < 18446744073709551616
/-- the words of the first k counts -/
def wordsK (ns : List Int) : Nat → List (List UInt8)
  | 0 => []
  | k + 1 => wordsK ns k ++ [nm.getD k [], dec (ns.getD k 0).toNat]
theorem wordsK_len (ns : List Int) : ∀ k, (wordsK ns k).length = 2 * k
  | 0 => rfl
  | k + 1 => by rw [wordsK, List.length_append, wordsK_len ns k]; simp; omega
theorem nm_plain : ∀ x ∈ nm, (32 : UInt8) ∉ x := by decide
theorem nm_short : ∀ x ∈ nm, x.length ≤ 9 := by decide
theorem nm_getD {k : Nat} (hk : k < 10) : nm.getD k [] = nm[k]'(by simp [nm_len, hk]) := by
  rw [List.getD_eq_getElem?_getD, List.getElem?_eq_getElem (by simp [nm_len, hk])]
  rfl
theorem dec_plain (n : Nat) : (32 : UInt8) ∉ dec n := fun h => by
  have := dec_isD n _ h
  simp [isD] at this
theorem wordsK_plain (ns : List Int) : ∀ k, k ≤ 10 → ∀ x ∈ wordsK ns k, (32 : UInt8) ∉ x
  | 0, _, x, h => by cases h
  | k + 1, hk, x, h => by
    rw [wordsK] at h
    rcases List.mem_append.1 h with h | h
    · exact wordsK_plain ns k (by omega) x h
    · rw [nm_getD (by omega)] at h
      simp only [List.mem_cons, List.not_mem_nil, or_false] at h
      rcases h with rfl | rfl
      · exact nm_plain _ (List.getElem_mem _)
      · exact dec_plain _
/-- the text of counts -/
def textC (ns : List Int) : List UInt8 := Lib.join (wordsK ns 10) [32]
theorem text_words (ns : List Int) : splitL 32 (textC ns) = wordsK ns 10 := splitL_join (by intro h; have := wordsK_len ns 10; rw [h] at this; cases this) (wordsK_plain ns 10 (Nat.le_refl _))
theorem joinTail_app (sep : List UInt8) (r s : List (List UInt8)) : Lib.joinTail sep (r ++ s) = Lib.joinTail sep r ++ Lib.joinTail sep s := by simp [Lib.joinTail]
theorem join_app2 (xs : List (List UInt8)) (a b : List UInt8) : Lib.join (xs ++ [a, b]) [32] = Lib.join xs [32] ++ ((if xs = [] then [] else [32]) ++ (a ++ ([32] ++ b))) := by
  cases xs with
  | nil => rw [List.nil_append, join_cons2, Lib.join_one, Lib.join_nil]; simp
  | cons x r =>
    rw [List.cons_append, Lib.join_cons, Lib.join_cons, joinTail_app]
    simp [Lib.joinTail]
theorem u64_len {n : Int} (h : U64 n) : (dec n.toNat).length ≤ 20 := dec_len (by omega) (by unfold U64 at h; omega)
theorem wordsK_short {ns : List Int} (hn : ∀ n ∈ ns, U64 n) : ∀ k, k ≤ 10 → (Lib.join (wordsK ns k) [32]).length ≤ 31 * k
  | 0, _ => by simp [wordsK, Lib.join_nil]
  | k + 1, hk => by
    have ih := wordsK_short hn k (by omega)
    rw [wordsK, join_app2]
    have h1 : (nm.getD k []).length ≤ 9 := by rw [nm_getD (by omega)]; exact nm_short _ (List.getElem_mem _)
    have h2 : (dec (ns.getD k 0).toNat).length ≤ 20 := by
      by_cases h : k < ns.length
      · rw [List.getD_eq_getElem?_getD, List.getElem?_eq_getElem h]
        exact u64_len (hn _ (List.getElem_mem h))
      · rw [List.getD_eq_getElem?_getD, List.getElem?_eq_none (by omega)]
        exact u64_len (by unfold U64; decide)
    have h3 : (if wordsK ns k = [] then ([] : List UInt8) else [32]).length ≤ 1 := by split <;> simp
    simp only [List.length_append, List.length_cons, List.length_nil]
    omega
theorem build2 (a b : Value) (ha : isCell a = true) (hb : isCell b = true) (H : AH) : aBuildSlice Tryd.prog 60 2 [(0, a), (1, b)] H = some (.slice (some ⟨H.next, 0, none⟩) 2 2, ⟨H.next + 1, upd H.get H.next (.cells [a, b] 9 true 1)⟩) :=
  aBuildSliceN un60 sz9 (z := .string ⟨#[]⟩) (by kernel_rfl) [a, b] (by simp [ha, hb]) (by simp) H
/-- tally.Print -/
theorem tprint_run {ns : List Int} (hl : ns.length = 10) (hu : ∀ n ∈ ns, U64 n) (hg : HasG gsN H) (hn : nG ≤ H.next) : CallR cx 32 #[cntV ns] H (fun v H' => v = .string (str (textC ns)) ∧ Fresh H H') := by
  refine wk32 (by simp) ?_
  unfold c32
  refine aw_cut (fun t => t.env 1 = ptr H.next ∧ t.ds = [] ∧ t.H = ⟨H.next + 1, upd H.get H.next (cntB ns)⟩) (by simp [AH.new]) ?_
  rintro ⟨env, H1, ds⟩ ⟨e1, eds, hH⟩
  simp only at e1 eds hH
  have hf : Fresh H H1 := by rw [hH]; exact Fresh.ofNew
  have hr : H1.get H.next = some (cntB ns) := by rw [hH]; simp
  have hlt : H.next < H1.next := by rw [hH]; simp
  clear hH
  have hg1 := hg.fresh gsN_lt hn hf
  have hn1 : nG ≤ H1.next := Nat.le_trans hn hf.1
  have h00 : 0 < H1.next := Nat.lt_of_lt_of_le (by decide) hn1
  have hgl := names_glob hg1
  refine aw_cut (fun t => t.env 1 = ptr H.next ∧ t.env 3 = .slice none 0 0 ∧ t.ds = [] ∧ t.H = H1) (by simp [e1, eds]) ?_
  clear e1 eds
  rintro ⟨env, H2, ds⟩ ⟨e1, e3, eds, hH⟩
  simp only at e1 e3 eds hH
  subst hH
  refine aw_cut (fun t => t.ds = [] ∧ Fresh H2 t.H ∧ ∃ O, Row 9 true t.H (t.env 3) (strs (wordsK ns 10)) O) ?_ ?_
  · simp [e1]
    refine callV_R cb46 fields_run ?_
    rintro _ H3 ⟨rfl, f3⟩
    simp
    refine aw_loop_to 10 (fun k t => t.env 6 = .agg (flds H.next).toArray ∧ t.env 7 = i64 (k : Nat) ∧ t.ds = [] ∧ Fresh H2 t.H ∧ ∃ O, Row 9 true t.H (t.env 3) (strs (wordsK ns k)) O ∧ ∀ x, O = some x → H2.next ≤ x) ?_ ?_ ?_
    · clear e1 e3 eds
      rintro k ⟨env, H4, ds⟩ hk ⟨e6, e7, eds, f4, O, hrow, hO⟩
      simp only at e6 e7 eds f4 hrow
      generalize e3 : env 3 = ov at hrow
      have hk10 : (k : Int) < 10 := by omega
      have hkl : k < ns.length := by omega
      have hw : IntKind.i64.wrap ((k : Int) + 1) = ((k + 1 : Nat) : Int) := by rw [w64 (by omega)]; push_cast; rfl
      have hix := ix79 0 0 k hk
      have hc := nm_cell k hk
      have hg4 : H4.get 0 = some (.cells (strs nm) 0 false 1) := by rw [f4.get h00, hgl]
      have hr4 : H4.get H.next = some (cntB ns) := by rw [f4.get hlt, hr]
      have hcn := cnts_at hkl
      have hun := hu ns[k] (List.getElem_mem hkl)
      obtain ⟨m, hm⟩ : ∃ m : Nat, ns[k] = (m : Int) := ⟨ns[k].toNat, by unfold U64 at hun; omega⟩
      rw [hm] at hcn hun
      simp [e3, e6, e7, hk10, ix76 _ k hk, hix, hg4, hc, hr4, hcn]
      refine callV_R cb31 (print_run (n := m) (by unfold U64 at hun; omega)) ?_
      rintro _ H5 ⟨rfl, f5⟩
      have hg5 : H5.get 0 = some (.cells (strs nm) 0 false 1) := by rw [f5.get (Nat.lt_of_lt_of_le h00 f4.1), hg4]
      have hb := build2 (.string (str (nm[k]'(by simp [nm_len, hk])))) (.string (str (dec m))) rfl rfl H5
      have hrow5 : Row 9 true ⟨H5.next + 1, upd H5.get H5.next (.cells [.string (str (nm[k]'(by simp [nm_len, hk]))), .string (str (dec m))] 9 true 1)⟩ ov (strs (wordsK ns k)) O := (hrow.keep f5 (fun _ _ => id)).keep Fresh.ofNew (fun _ _ => id)
      have hrx : Row 9 true ⟨H5.next + 1, upd H5.get H5.next (.cells [.string (str (nm[k]'(by simp [nm_len, hk]))), .string (str (dec m))] 9 true 1)⟩ (.slice (some ⟨H5.next, 0, none⟩) 2 2) (strs [nm[k]'(by simp [nm_len, hk]), dec m]) (some H5.next) :=
        ⟨0, strs [nm[k]'(by simp [nm_len, hk]), dec m], rfl, by simp [strs], rfl, by simp, by simp⟩
      have hwl := wordsK_len ns k
      obtain ⟨sr, H6, O6, hap, hrow6, hO6, hk6⟩ := row_append_row el60 hrow5 hrx (by simp; omega) isCell_strs
      have hww : strs (wordsK ns k) ++ strs [nm[k]'(by simp [nm_len, hk]), dec m] = strs (wordsK ns (k + 1)) := by
        rw [wordsK, nm_getD hk, List.getD_eq_getElem?_getD, List.getElem?_eq_getElem hkl, Option.getD_some, hm]
        simp [strs]
      rw [hww] at hrow6
      have f45 := f4.trans f5
      have hnx6 : H5.next + 1 ≤ H6.next := by rcases hO6 with ⟨_, h⟩ | ⟨_, h⟩ <;> rw [h] <;> simp
      simp [hb, hap, e3, e6, e7, hw, eds, hg4, hg5, hc]
      refine ⟨⟨by have := f45.1; omega, fun z hz _ => ?_⟩, O6, hrow6, ?_⟩
      · have h1 := f45.1
        rw [hk6 z (by simp; omega) (fun e => by have := hO z e; omega)]
        have : ¬ z = H5.next := by omega
        simp only [upd_get, this, if_false]
        exact f45.get hz
      · intro x hx
        rcases hO6 with ⟨h, _⟩ | ⟨h, _⟩
        · rw [h] at hx; exact hO x hx
        · rw [h] at hx; cases hx; have := f45.1; simp; omega
    · clear e1 e3 eds
      rintro ⟨env, H4, ds⟩ ⟨e6, e7, eds, f4, O, hrow, hO⟩
      simp only at e6 e7 eds f4 hrow
      simp [e7, eds, f4]
      exact ⟨O, hrow⟩
    · simp [e3, eds, f3]
      exact ⟨none, Row.nil, by simp⟩
  clear e1 e3 eds
  rintro ⟨env, H3, ds⟩ ⟨eds, f3, O, hrow⟩
  simp only at eds f3 hrow
  generalize e3 : env 3 = ov at hrow
  have hwl := wordsK_len ns 10
  have hwt := wordsK_short hu 10 (Nat.le_refl _)
  simp [e3]
  refine callV_R cb19 (join_row hrow (by omega) (by omega)) ?_
  rintro _ H4 ⟨rfl, hH⟩
  subst hH
  simp [eds]
  exact ⟨rfl, hf.trans f3⟩
end Go.Proofs.YtpimepdlbhejhaaDoor.C

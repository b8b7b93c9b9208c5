/- Answers told: the program's and the document's. Own text of this session. -/
import Derived.Test.YtpimepdlbhejhaaDoorRdD
import Derived.Test.YtpimepdlbhejhaaDoorA20
set_option linter.unusedVariables false
set_option linter.unusedSimpArgs false
set_option maxRecDepth 4000
set_option maxHeartbeats 8000000
namespace Go.Proofs.YtpimepdlbhejhaaDoor.C
open Go Go.RowKit Go.Proofs.YtpimepdlbhejhaaDoorA Go.Proofs.YtpimepdlbhejhaaDoor.Plain
variable {H : AH}
theorem el60' : El Tryd.prog 60 9 := el60
theorem build2t (x y : List UInt8) (H : AH) : aBuildSlice Tryd.prog 60 2 [(0, .string (str x)), (1, .string (str y))] H = some (.slice (some ⟨H.next, 0, none⟩) 2 2, H.new (.cells (strs [x, y]) 9 true 1)) := aBuildSliceN un60 sz9 (z := .string ⟨#[]⟩) (by kernel_rfl) (strs [x, y]) isCell_strs (by simp) H
theorem dec20 {n : Nat} (h : n < 18446744073709551616) : (dec n).length ≤ 20 := dec_len (by omega) (by omega)
def keysW (g : List Nat) (k : Nat) : List (List UInt8) := okW :: (g.take k).map dec
theorem keysW_len (g : List Nat) {k : Nat} (hk : k ≤ g.length) : (keysW g k).length = k + 1 := by simp [keysW]; omega
theorem keysW_succ (g : List Nat) {k : Nat} (hk : k < g.length) : keysW g (k + 1) = keysW g k ++ [dec g[k]] := by
  unfold keysW
  rw [List.take_add_one, List.getElem?_eq_getElem hk, Option.toList, List.map_append]
  rfl
theorem keysJ_succ (g : List Nat) {k : Nat} (hk : k < g.length) : Lib.join (keysW g (k + 1)) [32] = Lib.join (keysW g k) [32] ++ [32] ++ dec g[k] := by
  rw [keysW_succ g hk]
  unfold keysW
  rw [List.cons_append, Lib.join_cons, Lib.join_cons]
  simp [Lib.joinTail]
theorem keysJ_len {g : List Nat} (hz : Small64 g) : ∀ k, k ≤ g.length → (Lib.join (keysW g k) [32]).length ≤ 2 + 21 * k
  | 0, _ => by simp [keysW, Lib.join_one, okW]
  | k + 1, hk => by
    have ih := keysJ_len hz k (by omega)
    rw [keysJ_succ g (by omega)]
    have := dec20 (hz g[k] (List.getElem_mem _))
    simp
    omega
theorem keysW_all (g : List Nat) : Lib.join (keysW g g.length) [32] = keysLine g := by rw [keysW, List.take_length]; rfl
/-- reply.keys -/
theorem keys_run {w : Bool} {gv : Value} {g : List Nat} {O : Option Nat} (hz : Small64 g) (h : Row 39 w H gv (gcells g) O) (hl : g.length ≤ 100000) : CallR cx 22 #[.string ⟨#[111, 107]⟩, gv] H (fun v H' => v = .string (str (keysLine g)) ∧ Fresh H H') := by
  obtain ⟨ra, rfl, _⟩ := h.isSlice
  simp only [List.length_map] at h ⊢
  refine wk22 (by simp) ?_
  simp [c22]
  refine aw_loop_to g.length (fun k t => t.env 10 = .slice ra g.length g.length ∧ t.env 11 = i64 (g.length : Nat) ∧ t.env 12 = i64 (k : Nat) ∧ t.ds = [] ∧ Fresh H t.H ∧ ∃ O', Row 9 true t.H (t.env 5) (strs (keysW g k)) O' ∧ ∀ x, O' = some x → H.next ≤ x) ?_ ?_ ?_
  · rintro k ⟨env, H1, ds⟩ hk ⟨e10, e11, e12, eds, hf, O', hrow, hO⟩
    simp only at e10 e11 e12 eds hf hrow
    generalize e5 : env 5 = ov at hrow
    have hkN : (k : Int) < g.length := by omega
    have hw : IntKind.i64.wrap ((k : Int) + 1) = ((k + 1 : Nat) : Int) := by rw [w64 (by omega)]; push_cast; rfl
    have h1 := h.keep hf (fun _ _ => id)
    obtain ⟨la, oa, ca, hra, g1, g2, _⟩ := h1.cell (i := k) (x := u64 (g[k] : Nat)) (by simp [hk])
    have hix := ix24 la oa g.length g.length .i64 (k : Int) (by omega) hkN
    rw [Int.toNat_natCast] at hix
    have hsm := hz _ (List.getElem_mem hk)
    have hsucc := keysW_succ g hk
    generalize g[k] = x at g2 hsm hsucc
    simp [e10, e11, e12, hk, hra, hix, g1, g2]
    refine callV_R cb31 (print_run hsm) ?_
    rintro _ H2 ⟨rfl, f2⟩
    have hrow2 := hrow.keep f2 (fun _ _ => id)
    have hel : (strs (keysW g k)).length = k + 1 := by rw [strs_length, keysW_len g (by omega)]
    obtain ⟨H3, hap, hnx, hget, hrow3, hkp⟩ := row_append el60 hrow2 (by rw [hel]; omega) (v := .string (str (dec x))) rfl
    have hOlow : ∀ z, O' = some z → z < H2.next := fun z e => by subst e; exact hrow2.low
    have hf2 := hf.trans f2
    rw [hel] at hap hrow3
    simp [e5, e10, e11, e12, hra, hap, hw, eds]
    refine ⟨⟨by have := hf2.1; omega, fun z hz _ => by rw [hkp z (by have := hf2.1; omega) (fun e => by have := hO z e; omega), hf2.get hz]⟩, some (H2.next + 1), ?_, ?_⟩
    · rw [hsucc]
      simpa [strs] using hrow3
    · intro z e; cases e; have := hf2.1; omega
  · rintro ⟨env, H1, ds⟩ ⟨e10, e11, e12, eds, hf, O', hrow, hO⟩
    simp only at e10 e11 e12 eds hf hrow
    have hjl := keysJ_len hz g.length (Nat.le_refl _)
    have hll := keysW_len g (Nat.le_refl _)
    simp [e11, e12]
    refine callV_R cb19 (join_row hrow (by omega) (by omega)) ?_
    rintro _ _ ⟨rfl, rfl⟩
    rw [keysW_all]
    simp [eds, hf]
  · simp
    refine ⟨Fresh.ofNew, some H.next, ?_, by simp⟩
    exact ⟨0, strs (keysW g 0), by simp [keysW], by simp [keysW, strs, okW], by rw [List.drop_zero, List.take_length], by simp, by simp⟩
/-- reply.got -/
theorem got_run {w w' : Bool} {hit : Bool} {sv gv : Value} {val : List UInt8} {Ov : Option Nat} {e : Int} (hv : Row 5 w H sv (val.map u8v) Ov) (hgc : isCell gv = true) (hl : val.length ≤ 100000) : CallR cx 21 #[ansV hit sv gv e] H (fun v H' => v = .string (str (getLine hit val)) ∧ Fresh H H') := by
  obtain ⟨ra, rfl, _⟩ := hv.isSlice
  simp only [List.length_map] at hv ⊢
  refine wk21 (by simp) ?_
  unfold c21
  refine aw_cut (fun t => t.env 1 = ptr H.next ∧ t.ds = [] ∧ t.H = ⟨H.next + 1, upd H.get H.next (ansB hit (.slice ra val.length val.length) gv e)⟩) (by simp [hgc, AH.new]) ?_
  rintro ⟨env, H1, ds⟩ ⟨e1, eds, hH⟩
  simp only at e1 eds hH
  have f1 : Fresh H H1 := by rw [hH]; exact Fresh.ofNew
  have r1 : H1.get H.next = some (ansB hit (.slice ra val.length val.length) gv e) := by rw [hH]; simp
  clear hH
  cases hit with
  | false =>
    simp [e1, r1, eds]
    exact ⟨rfl, f1⟩
  | true =>
    by_cases h0 : val = []
    · subst h0
      simp [e1, r1, eds]
      exact ⟨rfl, f1⟩
    · have h1 : ¬ (val.length : Int) = 0 := by have := List.length_pos_iff.2 h0; omega
      have h2 : ¬ val.length = 0 := by omega
      have hv1 := hv.keep f1 (fun _ _ => id)
      simp [e1, r1, h0, h1, h2]
      refine callV_R cb35 (hex_run hv1 (by omega)) ?_
      rintro _ H2 ⟨rfl, f2⟩
      have hb := build2t hitW (hex val) H2
      have hfr : Fresh H (H2.new (.cells (strs [hitW, hex val]) 9 true 1)) := (f1.trans f2).trans Fresh.ofNew
      have hrow : Row 9 true (H2.new (.cells (strs [hitW, hex val]) 9 true 1)) (.slice (some ⟨H2.next, 0, none⟩) 2 2) (strs [hitW, hex val]) (some H2.next) := ⟨0, strs [hitW, hex val], by simp, by simp, rfl, by simp, by simp⟩
      have hb' : aBuildSlice Tryd.prog 60 2 [(0, .string ⟨#[104, 105, 116]⟩), (1, .string (str (hex val)))] H2 = some (.slice (some ⟨H2.next, 0, none⟩) 2 2, H2.new (.cells (strs [hitW, hex val]) 9 true 1)) := hb
      have hjn : Lib.join [hitW, hex val] [32] = getLine true val := by
        rw [join_cons2, Lib.join_one, getLine, if_pos rfl, if_neg h0]
        simp [hitW, hitP]
      have hjl : (Lib.join [hitW, hex val] [32]).length ≤ 1000000000 := by
        rw [join_cons2, Lib.join_one]
        have := hex_len val
        simp [hitW]
        omega
      generalize H2.new (.cells (strs [hitW, hex val]) 9 true 1) = H3 at hb' hfr hrow
      simp [hb']
      refine callV_R cb19 (join_row hrow (by simp) hjl) ?_
      rintro _ _ ⟨rfl, rfl⟩
      rw [hjn]
      simp [eds, hfr]
def errW : List UInt8 := [101, 114, 114, 111, 114]
theorem sdec21 {i : Int} (h : I64 i) : (sdec i).length ≤ 21 := by
  unfold I64 at h
  unfold sdec
  split
  · have := dec_len (n := (-i).toNat) (k := 20) (by omega) (by omega)
    simp; omega
  · have := dec_len (n := i.toNat) (k := 20) (by omega) (by omega)
    omega
/-- reply.Print -/
theorem print1_run {w w' : Bool} {k : Int} {hit : Bool} {sv gv : Value} {val : List UInt8} {gone : List Nat} {Ov Og : Option Nat} {e : Int} (hv : Row 5 w H sv (val.map u8v) Ov) (hgr : Row 39 w' H gv (gcells gone) Og) (hz : Small64 gone) (hl : val.length ≤ 100000) (hgl : gone.length ≤ 100000) (he : I64 e) :
    CallR cx 7 #[i64 k, ansV hit sv gv e] H (fun v H' => v = .string (str (lineOf k hit val gone e)) ∧ Fresh H H') := by
  obtain ⟨ra, rfl, _⟩ := hv.isSlice
  obtain ⟨rg, rfl, _⟩ := hgr.isSlice
  simp only [List.length_map] at hv hgr ⊢
  refine wk7 (by simp) ?_
  unfold c7
  refine aw_cut (fun t => t.env 0 = i64 k ∧ t.env 3 = ptr H.next ∧ t.ds = [] ∧ t.H = ⟨H.next + 1, upd H.get H.next (ansB hit (.slice ra val.length val.length) (.slice rg gone.length gone.length) e)⟩) (by simp [AH.new]) ?_
  rintro ⟨env, H1, ds⟩ ⟨e0, e3, eds, hH⟩
  simp only at e0 e3 eds hH
  have f1 : Fresh H H1 := by rw [hH]; exact Fresh.ofNew
  have r1 : H1.get H.next = some (ansB hit (.slice ra val.length val.length) (.slice rg gone.length gone.length) e) := by rw [hH]; simp
  clear hH
  have hv1 := hv.keep f1 (fun _ _ => id)
  have hg1 := hgr.keep f1 (fun _ _ => id)
  by_cases h0 : e = 0
  case neg =>
    simp [e3, r1, h0]
    refine callV_R cb20 (int_run he) ?_
    rintro _ H2 ⟨rfl, f2⟩
    have hfr : Fresh H (H2.new (.cells (strs [errW, sdec e]) 9 true 1)) := (f1.trans f2).trans Fresh.ofNew
    have hrow : Row 9 true (H2.new (.cells (strs [errW, sdec e]) 9 true 1)) (.slice (some ⟨H2.next, 0, none⟩) 2 2) (strs [errW, sdec e]) (some H2.next) := ⟨0, strs [errW, sdec e], by simp, by simp, rfl, by simp, by simp⟩
    have hb' : aBuildSlice Tryd.prog 60 2 [(0, .string ⟨#[101, 114, 114, 111, 114]⟩), (1, .string (str (sdec e)))] H2 = some (.slice (some ⟨H2.next, 0, none⟩) 2 2, H2.new (.cells (strs [errW, sdec e]) 9 true 1)) := build2t errW (sdec e) H2
    have hjn : Lib.join [errW, sdec e] [32] = lineOf k hit val gone e := by
      rw [join_cons2, Lib.join_one, lineOf, if_pos h0, errLine]
      simp [errW, errP]
    have hjl : (Lib.join [errW, sdec e] [32]).length ≤ 1000000000 := by
      rw [join_cons2, Lib.join_one]
      have := sdec21 he
      simp [errW]
      omega
    generalize H2.new (.cells (strs [errW, sdec e]) 9 true 1) = H3 at hb' hfr hrow
    simp [hb']
    refine callV_R cb19 (join_row hrow (by simp) hjl) ?_
    rintro _ _ ⟨rfl, rfl⟩
    rw [hjn]
    simp [eds, hfr]
  subst h0
  by_cases hk1 : k = 1
  · subst hk1
    have hld := ld27b r1
    simp [e0, e3, r1]
    refine callV_R cb21 (got_run (w' := true) hv1 rfl hl) ?_
    rintro _ H2 ⟨rfl, f2⟩
    simp [lineOf, eds]
    exact f1.trans f2
  by_cases hk24 : k = 2 ∨ k = 4
  · have hline : lineOf k hit val gone 0 = keysLine gone := by simp [lineOf, hk1, hk24]
    rw [hline]
    rcases hk24 with rfl | rfl
    · simp [e0, e3, r1]
      refine callV_R cb22 (keys_run hz hg1 hgl) ?_
      rintro _ H2 ⟨rfl, f2⟩
      simp [eds]
      exact f1.trans f2
    · simp [e0, e3, r1]
      refine callV_R cb22 (keys_run hz hg1 hgl) ?_
      rintro _ H2 ⟨rfl, f2⟩
      simp [eds]
      exact f1.trans f2
  have hk2 : ¬ k = 2 := fun h => hk24 (.inl h)
  have hk4 : ¬ k = 4 := fun h => hk24 (.inr h)
  by_cases hk3 : k = 3
  · subst hk3
    cases hit with
    | false =>
      simp [e0, e3, r1, lineOf, eds]
      exact ⟨rfl, f1⟩
    | true =>
      simp [e0, e3, r1, lineOf, eds]
      exact ⟨rfl, f1⟩
  · simp [e0, e3, r1, hk1, hk2, hk3, hk4, lineOf, eds]
    exact ⟨rfl, f1⟩
/-- ref.May -/
theorem may_run {w w' : Bool} {k : Int} {hit : Bool} {sv gv : Value} {val : List UInt8} {gone : List Nat} {Ov Og : Option Nat} {e : Int} (hv : Row 5 w H sv (val.map u8v) Ov) (hgr : Row 39 w' H gv (gcells gone) Og) :
    CallR cx 9 #[i64 k, ansV hit sv gv e] H (fun v H' => ∃ b, v = .bool b ∧ (b = true ↔ MayP k hit val gone e) ∧ Fresh H H') := by
  obtain ⟨ra, rfl, _⟩ := hv.isSlice
  obtain ⟨rg, rfl, _⟩ := hgr.isSlice
  simp only [List.length_map]
  refine wk9 (by simp) ?_
  unfold c9
  refine aw_cut (fun t => t.env 0 = i64 k ∧ t.env 3 = ptr H.next ∧ t.ds = [] ∧ t.H = ⟨H.next + 1, upd H.get H.next (ansB hit (.slice ra val.length val.length) (.slice rg gone.length gone.length) e)⟩) (by simp [AH.new]) ?_
  rintro ⟨env, H1, ds⟩ ⟨e0, e3, eds, hH⟩
  simp only at e0 e3 eds hH
  have f1 : Fresh H H1 := by rw [hH]; exact Fresh.ofNew
  have r1 : H1.get H.next = some (ansB hit (.slice ra val.length val.length) (.slice rg gone.length gone.length) e) := by rw [hH]; simp
  clear hH hv hgr
  have hv0 : val = [] ↔ ¬ (0 : Int) < val.length := by
    constructor
    · rintro rfl; simp
    · intro h; exact List.length_eq_zero_iff.1 (by omega)
  have hg0 : gone = [] ↔ ¬ (0 : Int) < gone.length := by
    constructor
    · rintro rfl; simp
    · intro h; exact List.length_eq_zero_iff.1 (by omega)
  have hM : MayP k hit val gone e ↔ ((1 ≤ k ∧ k ≤ 4) ∧ (0 ≤ e ∧ e ≤ 99) ∧ (if e ≠ 0 then hit = false ∧ ¬ (0 : Int) < val.length ∧ ¬ (0 : Int) < gone.length else if k = 1 then ¬ (0 : Int) < gone.length ∧ (hit = true ∨ ¬ (0 : Int) < val.length) else if k = 3 then ¬ (0 : Int) < gone.length ∧ ¬ (0 : Int) < val.length else hit = false ∧ ¬ (0 : Int) < val.length)) := by
    unfold MayP
    rw [hv0, hg0]
  generalize hnv : (val.length : Nat) = nv at *
  generalize hng : (gone.length : Nat) = ng at *
  by_cases hk : 1 ≤ k ∧ k ≤ 4
  case neg =>
    have hk1 : ¬ k = 1 := by omega
    have hk2 : ¬ k = 2 := by omega
    have hk3 : ¬ k = 3 := by omega
    have hk4 : ¬ k = 4 := by omega
    simp [e0, e3, r1, hk1, hk2, hk3, hk4, eds]
    exact ⟨fun h => hk h.1, f1⟩
  by_cases hneg : e < 0
  · have hE : ¬ (0 ≤ e ∧ e ≤ 99) := by omega
    have hM' : ¬ MayP k hit val gone e := fun h => hE h.2.1
    have hk1234 : k = 1 ∨ k = 2 ∨ k = 3 ∨ k = 4 := by omega
    rcases hk1234 with rfl | rfl | rfl | rfl <;> (simp [e0, e3, r1, hneg, hM', eds]; exact f1)
  by_cases hbig : 99 < e
  · have hE : ¬ (0 ≤ e ∧ e ≤ 99) := by omega
    have hM' : ¬ MayP k hit val gone e := fun h => hE h.2.1
    have hk1234 : k = 1 ∨ k = 2 ∨ k = 3 ∨ k = 4 := by omega
    rcases hk1234 with rfl | rfl | rfl | rfl <;> (simp [e0, e3, r1, hneg, hbig, hM', eds]; exact f1)
  have hE : 0 ≤ e ∧ e ≤ 99 := by omega
  have hE1 : 0 ≤ e := hE.1
  have hE2 : e ≤ 99 := hE.2
  have hk1234 : k = 1 ∨ k = 2 ∨ k = 3 ∨ k = 4 := by omega
  have hnvN : (0 < nv) ↔ ((0 : Int) < nv) := by omega
  have hngN : (0 < ng) ↔ ((0 : Int) < ng) := by omega
  refine aw_cut (fun t => t.env 0 = i64 k ∧ t.env 3 = ptr H.next ∧ t.ds = [] ∧ t.H = H1) ?_ ?_
  · rcases hk1234 with rfl | rfl | rfl | rfl <;> simp [e0, e3, r1, hneg, hbig, eds]
  clear e0 e3 eds
  rintro ⟨env, H2, ds⟩ ⟨e0, e3, eds, hH⟩
  simp only at e0 e3 eds hH
  subst hH
  refine aw_cut (fun t => t.env 0 = i64 k ∧ t.env 3 = ptr H.next ∧ t.env 5 = .bool (decide (0 < nv)) ∧ t.ds = [] ∧ t.H = H2) (by simp [e0, e3, r1, eds]) ?_
  clear e0 e3 eds
  rintro ⟨env, H3, ds⟩ ⟨e0, e3, e5, eds, hH⟩
  simp only at e0 e3 e5 eds hH
  subst hH
  refine aw_cut (fun t => t.env 0 = i64 k ∧ t.env 3 = ptr H.next ∧ t.env 5 = .bool (decide (0 < nv)) ∧ t.env 6 = .bool (decide (0 < ng)) ∧ t.ds = [] ∧ t.H = H3) (by simp [e0, e3, e5, r1, eds]) ?_
  clear e0 e3 e5 eds
  rintro ⟨env, H4, ds⟩ ⟨e0, e3, e5, e6, eds, hH⟩
  simp only at e0 e3 e5 e6 eds hH
  subst hH
  rw [← hnvN, ← hngN] at hM
  clear hnvN hngN
  by_cases hp : 0 < nv
  all_goals by_cases hq : 0 < ng
  all_goals by_cases hz : e = 0
  all_goals cases hit
  all_goals rcases hk1234 with rfl | rfl | rfl | rfl
  all_goals first | (subst hz; simp [e0, e3, e5, e6, r1, hp, hq, hM, f1, eds, Go.undef]; done) | (simp [e0, e3, e5, e6, r1, hp, hq, hz, hE1, hE2, hM, f1, eds, Go.undef]; done)
end Go.Proofs.YtpimepdlbhejhaaDoor.C

/- marks.New, Last, Next. Own text of this session. -/
import Derived.Test.YtikkokolmipppaaRb
set_option linter.unusedVariables false
set_option linter.unusedSimpArgs false
set_option maxRecDepth 4000
set_option maxHeartbeats 8000000
namespace Go.Proofs.Ytikkokolmipppaa.C
open Go Go.RowKit Go.Proofs.YtikkokolmipppaaA Go.Proofs.Ytikkokolmipppaa.Ones Go.Proofs.Ytikkokolmipppaa.Plain
variable {H : AH}
theorem mk22 (n : Nat) (h : n ≤ 1000000) (H : AH) : aMakeSlice Try.prog 22 (.int .i64 n) (.int .i64 n) H = some (.slice (some ⟨H.next, 0, none⟩) n n, ⟨H.next + 1, upd H.get H.next (.cells (wcells (List.replicate n 0)) 28 true 1)⟩) := by
  have hi : Try.prog.info? 28 = some ((Try.prog.info? 28).getD default) := by kernel_rfl
  have hz : zeroOf Try.prog 28 = some [.int .u64 0] := by kernel_rfl
  have hs : ((Try.prog.info? 28).getD default).size = 1 := by kernel_rfl
  have hb : ((Try.prog.info? 28).getD default).bytes = 8 := by kernel_rfl
  simp only [aMakeSlice, un22, hz]
  rw [hi]
  simp only [hs, hb]
  rw [if_pos ⟨by omega, Int.le_refl _, by omega, by omega⟩]
  have : rowZeros [Value.int .u64 0] ((n : Int).toNat * 1) = wcells (List.replicate n 0) := by
    refine List.ext_getElem (by simp [rowZeros, wcells]) ?_
    intro i h1 h2
    simp [rowZeros, Nat.mod_one, wcells]
  rw [this]
  simp
  rfl
theorem upd_twice (f : Nat → Option ABlk) (a : Nat) (x y : ABlk) : upd (upd f a x) a y = upd f a y := by
  funext l
  by_cases h : l = a <;> simp [h]
/-- marks.New -/
theorem mnew_run {w : Nat} (hw : w ≤ 65536) : CallR cx 18 #[i64 w] H (fun v H' => v = .tuple #[ptr (H.next + 1), i64 0] ∧ Fresh H H' ∧ H'.next = H.next + 2 ∧ IsSet H' (H.next + 1) H.next w (List.replicate ((w + 63) / 64) 0)) := by
  refine wk18 (by simp) ?_
  have h0 : ¬ (w : Int) < 0 := by omega
  have h1 : ¬ 65536 < (w : Int) := by omega
  obtain ⟨x, hx⟩ : ∃ x, x = w + 63 := ⟨_, rfl⟩
  have hw1 : IntKind.i64.wrap ((w : Int) + 63) = (x : Int) := by rw [w64 (by omega)]; omega
  have hq : ∀ ox oy, aBin Try.prog .quo 3 ox oy (i64 (x : Int)) (i64 64) = some (i64 ((x / 64 : Nat) : Int)) := fun ox oy => by
    rw [aBin_quo (P := Try.prog) 3 ox oy .i64 (x : Int) 64 (by decide)]
    have : Int.tdiv (x : Int) 64 = ((x / 64 : Nat) : Int) := rfl
    rw [this, w64 (by omega)]
  have hn : x / 64 = (w + 63) / 64 := by rw [hx]
  obtain ⟨y, hy⟩ : ∃ y, y = x / 64 := ⟨_, rfl⟩
  rw [← hy] at hq hn
  have hmk := mk22 y (by omega) H
  simp [c18, h0, h1, hw1, hq, hmk, AH.new, -List.map_replicate, -List.reduceReplicate]
  refine ⟨⟨by simp; omega, fun l hl _ => by simp [show ¬ l = H.next + 1 by omega, show ¬ l = H.next by omega]⟩, ?_⟩
  rw [← hn]
  refine ⟨by simp, by simp [wcells], by simp [hn], fun z hz => ?_, hw, by simp, by simp; omega, by omega⟩
  rw [List.eq_of_mem_replicate hz]; decide
theorem bitAt_zero (n j : Nat) : bitAt (List.replicate n 0) j = false := by
  unfold bitAt
  have : (List.replicate n 0).getD (j / 64) 0 = 0 := by
    rw [List.getD_eq_getElem?_getD, List.getElem?_replicate]
    split <;> rfl
  rw [this]
  simp
theorem mk24 (n : Nat) (h : n ≤ 1000000) (H : AH) : aMakeSlice Try.prog 24 (.int .i64 n) (.int .i64 n) H = some (.slice (some ⟨H.next, 0, none⟩) n n, ⟨H.next + 1, upd H.get H.next (.cells (icells (List.replicate n 0)) 3 true 1)⟩) := by
  have hi : Try.prog.info? 3 = some ((Try.prog.info? 3).getD default) := by kernel_rfl
  have hz : zeroOf Try.prog 3 = some [.int .i64 0] := by kernel_rfl
  have hs : ((Try.prog.info? 3).getD default).size = 1 := by kernel_rfl
  have hb : ((Try.prog.info? 3).getD default).bytes = 8 := by kernel_rfl
  simp only [aMakeSlice, un24, hz]
  rw [hi]
  simp only [hs, hb]
  rw [if_pos ⟨by omega, Int.le_refl _, by omega, by omega⟩]
  have : rowZeros [Value.int .i64 0] ((n : Int).toNat * 1) = icells (List.replicate n 0) := by
    refine List.ext_getElem (by simp [rowZeros, icells]) ?_
    intro i h1 h2
    simp [rowZeros, Nat.mod_one, icells]
  rw [this]
  simp
  rfl
/-- what of a trace is looked at -/
def cut (xs : List Nat) : List Nat := if xs.length ≤ 4096 then xs else []
theorem cut_short {xs : List Nat} (h : xs.length ≤ 4096) : cut xs = xs := if_pos h
theorem cut_long {xs : List Nat} (h : ¬ xs.length ≤ 4096) : cut xs = [] := if_neg h
theorem cut_len (xs : List Nat) : (cut xs).length ≤ 4096 := by
  unfold cut
  split
  · assumption
  · simp
/-- numbers in a row of their own -/
def IL (B : Nat) (H : AH) (v : Value) (l : List Int) : Prop := ∃ O, Row 3 true H v (icells l) O ∧ ∀ o, O = some o → B ≤ o
theorem IL.fresh {B : Nat} {H H' : AH} {v : Value} {l : List Int} (h : IL B H v l) (f : Fresh H H') : IL B H' v l := by
  obtain ⟨O, h1, h2⟩ := h
  exact ⟨O, h1.keep f (fun _ _ => id), h2⟩
theorem IL.keep {B : Nat} {S : Nat → Prop} {H H' : AH} {v : Value} {l : List Int} (h : IL B H v l) (f : Keep S H H') (hs : ∀ x, B ≤ x → x < H.next → ¬ S x) : IL B H' v l := by
  obtain ⟨O, h1, h2⟩ := h
  exact ⟨O, h1.keep f (fun o e => by subst e; exact hs o (h2 o rfl) h1.low), h2⟩
theorem IL.isSlice {B : Nat} {H : AH} {v : Value} {l : List Int} (h : IL B H v l) : ∃ r, v = .slice r l.length l.length := by
  obtain ⟨O, h1, h2⟩ := h
  obtain ⟨r, e, _⟩ := h1.isSlice
  exact ⟨r, by rw [e]; simp⟩
theorem IL.get {B : Nat} {H : AH} {a : Option Addr} {n c : Nat} {l : List Int} (h : IL B H (.slice a n c) l) {i : Nat} (hi : i < l.length) : ∃ b o cs, a = some ⟨b, o, none⟩ ∧ B ≤ b ∧ b < H.next ∧ H.get b = some (.cells cs 3 true 1) ∧ cs[o + i]? = some (i64 (l.getD i 0)) := by
  obtain ⟨O, h1, h2⟩ := h
  obtain ⟨b, o, cs, e1, e2, e3, e4⟩ := h1.cell (icells_get hi)
  subst e4
  exact ⟨b, o, cs, e1, h2 b rfl, h1.low, e2, e3⟩
theorem IL.of {B b : Nat} {H : AH} {l : List Int} (hb : B ≤ b) (hn : b < H.next) (hg : H.get b = some (.cells (icells l) 3 true 1)) : IL B H (.slice (some ⟨b, 0, none⟩) l.length l.length) l :=
  ⟨some b, ⟨0, icells l, by simp [sl], hg, by simp [List.take_of_length_le], by simp, hn⟩, fun o e => by cases e; exact hb⟩
theorem IL.nil {B : Nat} {H : AH} : IL B H (.slice none 0 0) [] := ⟨none, Row.nil, by simp⟩
theorem wr_ints {H : AH} {b : Nat} {l : List Int} (h : H.get b = some (.cells (icells l) 3 true 1)) {i : Nat} (hi : i < l.length) (v : Int) : aStore Try.prog 3 (.pointer (some ⟨b, i, none⟩)) (i64 v) H = some ⟨H.next, upd H.get b (.cells (icells (l.set i v)) 3 true 1)⟩ := by
  rw [st3 _ _ _ rfl]
  have := wr_of (v := i64 v) h (o := i) (by simpa using hi) rfl
  rw [icells_set] at this
  exact this
def LastM (es : List (Int × Int)) (xs : List Nat) (k : Nat) : Prop := ∀ y : Nat, mget es (y : Int) = (lastB xs y k).map fun j => ((j : Nat) : Int)
theorem lastM_step {es : List (Int × Int)} {xs : List Nat} {k : Nat} (h : LastM es xs k) (hk : k < xs.length) : LastM (mset ((xs.getD k 0 : Nat) : Int) ((k : Nat) : Int) es) xs (k + 1) := by
  intro y
  rw [mget_mset, lastB, getD_of hk]
  by_cases e : xs.getD k 0 = y
  · subst e
    simp
  · have e1 : ¬ ((y : Int) = ((xs.getD k 0 : Nat) : Int)) := fun h => e (by omega)
    have e2 : ¬ some (xs.getD k 0) = some y := fun h => e (Option.some.inj h)
    rw [if_neg e1, if_neg e2, h y]
/-- Last -/
theorem last_run {w : Bool} {sv : Value} {xs : List Nat} {O : Option Nat} (h : Row 28 w H sv (gcells xs) O) (hl : xs.length ≤ 50000) : CallR cx 8 #[sv] H (fun v H' => Fresh H H' ∧ IL H.next H' v (lastL (cut xs))) := by
  have hs := h.isSlice
  obtain ⟨rx, rfl, _⟩ := hs
  simp only [List.length_map] at h ⊢
  refine wk8 (by simp) ?_
  by_cases hlong : xs.length ≤ 4096
  · rw [cut_short hlong]
    have hg : ¬ 4096 < (xs.length : Int) := by omega
    unfold c8
    refine aw_cut (fun t => t.env 0 = .slice rx xs.length xs.length ∧ t.ds = [] ∧ t.H = H) (by simp) ?_
    rintro ⟨env, H1, ds⟩ ⟨e0, eds, hH⟩
    simp only at e0 eds hH
    subst hH
    refine aw_cut (fun t => t.env 0 = .slice rx xs.length xs.length ∧ t.ds = [] ∧ t.H = H1) (by simp [e0, hg, eds]) ?_
    clear e0 eds
    rintro ⟨env, H2, ds⟩ ⟨e0, eds, hH⟩
    simp only at e0 eds hH
    subst hH
    have hmm := aMakeMap_of (P := Try.prog) (H := H2) mk34
    refine aw_cut (fun t => t.env 0 = .slice rx xs.length xs.length ∧ t.env 3 = .map (some H2.next) ∧ t.ds = [] ∧ t.H = H2.new (.map .u64 .i64 [])) (by simp [e0, hmm, eds]) ?_
    clear e0 eds
    rintro ⟨env, H3, ds⟩ ⟨e0, e3, eds, hH⟩
    simp only at e0 e3 eds hH
    have f3 : Fresh H2 H3 := by rw [hH]; exact Fresh.ofNew
    have r3 : H3.get H2.next = some (.map .u64 .i64 []) := by rw [hH]; simp [AH.new]
    have n3 : H3.next = H2.next + 1 := by rw [hH]; simp [AH.new]
    clear hH
    have hms := mk24 xs.length (by omega) H3
    refine aw_cut (fun t => t.env 0 = .slice rx xs.length xs.length ∧ t.env 3 = .map (some H2.next) ∧ t.env 4 = .slice (some ⟨H3.next, 0, none⟩) xs.length xs.length ∧ t.ds = [] ∧ t.H = ⟨H3.next + 1, upd H3.get H3.next (.cells (icells (List.replicate xs.length 0)) 3 true 1)⟩) (by simp [e0, e3, hms, eds, -List.reduceReplicate]) ?_
    clear e0 e3 eds
    rintro ⟨env, H4, ds⟩ ⟨e0, e3, e4, eds, hH⟩
    simp only at e0 e3 e4 eds hH
    have f4 : Fresh H3 H4 := by rw [hH]; exact Fresh.ofNew
    have r4 : H4.get H3.next = some (.cells (icells (List.replicate xs.length 0)) 3 true 1) := by rw [hH]; simp
    have n4 : H4.next = H3.next + 1 := by rw [hH]
    clear hH
    have f24 := f3.trans f4
    have rM4 : H4.get H2.next = some (.map .u64 .i64 []) := by rw [f4.get (by omega), r3]
    obtain ⟨B, hB⟩ : ∃ B, B = H3.next := ⟨_, rfl⟩
    obtain ⟨M, hM⟩ : ∃ M, M = H2.next := ⟨_, rfl⟩
    rw [← hB] at e4 r4
    rw [← hM] at e3 rM4
    refine aw_cut (fun t => t.env 4 = .slice (some ⟨B, 0, none⟩) xs.length xs.length ∧ t.ds = [] ∧ Fresh H2 t.H ∧ B < t.H.next ∧ t.H.get B = some (.cells (icells (lastL xs)) 3 true 1)) ?_ ?_
    · simp [e0]
      refine aw_loop_to xs.length (fun k t => t.env 3 = .map (some M) ∧ t.env 4 = .slice (some ⟨B, 0, none⟩) xs.length xs.length ∧ t.env 16 = .slice rx xs.length xs.length ∧ t.env 17 = i64 (xs.length : Nat) ∧ t.env 18 = i64 (k : Nat) ∧ t.ds = [] ∧ Fresh H2 t.H ∧ B < t.H.next ∧
        t.H.get B = some (.cells (icells (fillL 0 (fun i => ov (lst xs i)) xs.length k)) 3 true 1) ∧ ∃ es, t.H.get M = some (.map .u64 .i64 es) ∧ LastM es xs k) ?_ ?_ ?_
      · clear e0 e3 e4 eds r4 rM4
        rintro k ⟨env, H5, ds⟩ hk ⟨e3, e4, e16, e17, e18, eds, f5, hB5, r5, es, rM5, hes⟩
        simp only at e3 e4 e16 e17 e18 eds f5 hB5 r5 rM5
        have hkI : (k : Int) < xs.length := by omega
        have hw : IntKind.i64.wrap ((k : Int) + 1) = (k : Int) + 1 := w64 (by omega)
        obtain ⟨la, oa, ca, hra, g1, g2, _⟩ := (h.keep f5 (fun _ _ => id)).cell (i := k) (x := u64 (xs.getD k 0 : Nat)) (gcell hk)
        have hixa := ix22 la oa xs.length xs.length .i64 (k : Int) (by omega) hkI
        have hixb := ix24 B 0 xs.length xs.length .i64 (k : Int) (by omega) hkI
        rw [Int.toNat_natCast] at hixa hixb
        have hst := lastM_step hes hk
        have hlk := hes (xs.getD k 0)
        have hlst : lst xs k = lastB xs (xs.getD k 0) k := rfl
        have hw1 := wr_ints r5 (i := k) (by rw [fillL_length]; exact hk) (-1)
        generalize xs.getD k 0 = x at g2 hst hlk hlst
        have hne : ¬ M = B := by omega
        have hne' : ¬ B = M := by omega
        obtain ⟨L0, hL0⟩ : ∃ L0, L0 = fillL 0 (fun i => ov (lst xs i)) xs.length k := ⟨_, rfl⟩
        have hlen0 : L0.length = xs.length := by rw [hL0, fillL_length]
        rw [← hL0] at r5 hw1
        obtain ⟨H6, hH6⟩ : ∃ H6 : AH, H6 = ⟨H5.next, upd H5.get B (.cells (icells (L0.set k (-1))) 3 true 1)⟩ := ⟨_, rfl⟩
        rw [← hH6] at hw1
        have rM6 : H6.get M = some (.map .u64 .i64 es) := by rw [hH6]; simp [hne, rM5]
        have r6 : H6.get B = some (.cells (icells (L0.set k (-1))) 3 true 1) := by rw [hH6]; simp
        have n6 : H6.next = H5.next := by rw [hH6]
        have k6 : ∀ l, l < H2.next → H6.get l = H2.get l := fun l hl => by
          rw [hH6]
          have : ¬ l = B := by omega
          simp [this]
          exact f5.get hl
        clear hH6
        have hlu := aLookup_of (P := Try.prog) (t := 34) mk34 rM6 (x : Int) true
        rw [lkV_eq, hlk] at hlu
        simp only [if_true] at hlu
        cases hlx : lastB xs x k with
        | none =>
          rw [hlx] at hlu hlst
          have hup := aMapUpdate_of (P := Try.prog) (t := 34) mk34 rM6 (x : Int) (k : Int)
          have hfill := fillL_step (0 : Int) (fun i => ov (lst xs i)) xs.length k (-1) (by simp only [hlst]; rfl)
          rw [← hL0] at hfill
          rw [hfill] at r6
          simp [e3, e4, e16, e17, e18, hk, hkI, hra, hixa, hixb, g1, g2, hw1, hlu, hup, hw, eds, -Int.reduceNeg, -st3]
          refine ⟨⟨by simp; have := f5.1; omega, fun l hl _ => ?_⟩, by omega, ?_, hst⟩
          · have : ¬ l = M := by omega
            simp [this]
            exact k6 l hl
          · simp [hne', r6]
        | some j =>
          rw [hlx] at hlu hlst
          have hw2 := wr_ints r6 (i := k) (by simp [hlen0, hk]) ((j : Nat) : Int)
          rw [List.set_set] at hw2
          have hfill := fillL_step (0 : Int) (fun i => ov (lst xs i)) xs.length k ((j : Nat) : Int) (by simp only [hlst]; rfl)
          rw [← hL0] at hfill
          rw [hfill] at hw2
          obtain ⟨H7, hH7⟩ : ∃ H7 : AH, H7 = ⟨H6.next, upd H6.get B (.cells (icells (fillL 0 (fun i => ov (lst xs i)) xs.length (k + 1))) 3 true 1)⟩ := ⟨_, rfl⟩
          rw [← hH7] at hw2
          have rM7 : H7.get M = some (.map .u64 .i64 es) := by rw [hH7]; simp [hne, rM6]
          have r7 : H7.get B = some (.cells (icells (fillL 0 (fun i => ov (lst xs i)) xs.length (k + 1))) 3 true 1) := by rw [hH7]; simp
          have n7 : H7.next = H6.next := by rw [hH7]
          have k7 : ∀ l, l < H2.next → H7.get l = H2.get l := fun l hl => by
            rw [hH7]
            have : ¬ l = B := by omega
            simp [this]
            exact k6 l hl
          clear hH7
          have hup := aMapUpdate_of (P := Try.prog) (t := 34) mk34 rM7 (x : Int) (k : Int)
          simp [e3, e4, e16, e17, e18, hk, hkI, hra, hixa, hixb, g1, g2, hw1, hw2, hlu, hup, hw, eds, -Int.reduceNeg, -st3]
          refine ⟨⟨by simp; have := f5.1; omega, fun l hl _ => ?_⟩, by omega, ?_, hst⟩
          · have : ¬ l = M := by omega
            simp [this]
            exact k7 l hl
          · simp [hne', r7]
      · clear e0 e3 e4 eds r4 rM4
        rintro ⟨env, H5, ds⟩ ⟨e3, e4, e16, e17, e18, eds, f5, hB5, r5, es, rM5, hes⟩
        simp only at e3 e4 e16 e17 e18 eds f5 hB5 r5 rM5
        rw [fillL_full] at r5
        simp [e4, e17, e18, eds, f5, hB5, r5, lastL]
      · simp [e3, e4, eds, f24, r4, rM4, fillL_zero, -List.reduceReplicate]
        exact ⟨by omega, fun y => by simp [mget_nil, lastB]⟩
    clear e0 e3 e4 eds
    rintro ⟨env, H5, ds⟩ ⟨e4, eds, f5, hB5, r5⟩
    simp only at e4 eds f5 hB5 r5
    have := IL.of (B := H2.next) (H := H5) (by omega) hB5 r5
    rw [lastL_length] at this
    simp [e4, eds, f5]
    exact this
  · rw [cut_long hlong]
    have hg : 4096 < (xs.length : Int) := by omega
    simp [c8, hg, Fresh.refl]
    exact IL.nil
end Go.Proofs.Ytikkokolmipppaa.C

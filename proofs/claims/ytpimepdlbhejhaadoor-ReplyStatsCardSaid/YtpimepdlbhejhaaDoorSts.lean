/- The text of stats and of broken rules, over the small heap. Own text of this session; the chains of texts were printed by a program (wip/tools/gensts.py). -/
import Derived.Test.YtpimepdlbhejhaaDoorTxt2
set_option linter.unusedVariables false
set_option linter.unusedSimpArgs false
set_option maxRecDepth 8000
set_option maxHeartbeats 16000000
namespace Go.Proofs.YtpimepdlbhejhaaDoor.C
open Go Go.RowKit Go.Proofs.YtpimepdlbhejhaaDoorA Go.Proofs.YtpimepdlbhejhaaDoor.Plain
variable {H : AH}
theorem sdec_len {i : Int} (h : I64 i) : (sdec i).length ≤ 21 := by
  unfold I64 at h
  unfold sdec
  split
  · have := dec_len (n := (-i).toNat) (k := 20) (by omega) (by omega)
    simp; omega
  · have := dec_len (n := i.toNat) (k := 20) (by omega) (by omega)
    omega
/-- the text of broken rules -/
def brW (zs : List Int) (k : Nat) : List (List UInt8) := [98, 114, 111, 107, 101, 110] :: (zs.take k).map sdec
def brk (zs : List Int) : List UInt8 := if zs = [] then [114, 105, 103, 104, 116] else Lib.join (brW zs zs.length) [32]
theorem brW_len (zs : List Int) {k : Nat} (hk : k ≤ zs.length) : (brW zs k).length = k + 1 := by simp [brW]; omega
theorem brW_succ (zs : List Int) {k : Nat} (hk : k < zs.length) : brW zs (k + 1) = brW zs k ++ [sdec zs[k]] := by
  unfold brW
  rw [List.take_add_one, List.getElem?_eq_getElem hk, Option.toList, List.map_append]
  rfl
theorem brJ_succ (zs : List Int) {k : Nat} (hk : k < zs.length) : Lib.join (brW zs (k + 1)) [32] = Lib.join (brW zs k) [32] ++ [32] ++ sdec zs[k] := by
  rw [brW_succ zs hk]
  unfold brW
  rw [List.cons_append, Lib.join_cons, Lib.join_cons, joinTail_app]
  simp [Lib.joinTail]
theorem brJ_len {zs : List Int} (hz : ∀ z ∈ zs, I64 z) : ∀ k, k ≤ zs.length → (Lib.join (brW zs k) [32]).length ≤ 6 + 22 * k
  | 0, _ => by simp [brW, Lib.join_one]
  | k + 1, hk => by
    have ih := brJ_len hz k (by omega)
    rw [brJ_succ zs (by omega)]
    have := sdec_len (hz zs[k] (List.getElem_mem _))
    simp
    omega
/-- reply.Broken -/
theorem broken_run {w : Bool} {sv : Value} {zs : List Int} {O : Option Nat} (hz : ∀ z ∈ zs, I64 z) (h : Row 3 w H sv (zs.map i64) O) (hl : zs.length ≤ 40) : CallR cx 17 #[sv] H (fun v H' => v = .string (str (brk zs)) ∧ Fresh H H') := by
  obtain ⟨ra, rfl, _⟩ := h.isSlice
  simp only [List.length_map] at h ⊢
  refine wk17 (by simp) ?_
  by_cases h0 : zs = []
  · subst h0
    simp [c17, brk, Fresh.refl]
  have hp : 0 < zs.length := List.length_pos_iff.2 h0
  have h1 : ¬ (zs.length : Int) = 0 := by omega
  have h2 : ¬ zs.length = 0 := by omega
  simp [c17, h0, h1, h2]
  refine aw_loop_to zs.length (fun k t => t.env 10 = .slice ra zs.length zs.length ∧ t.env 11 = i64 (zs.length : Nat) ∧ t.env 12 = i64 (k : Nat) ∧ t.ds = [] ∧ Fresh H t.H ∧ ∃ O', Row 9 true t.H (t.env 3) (strs (brW zs k)) O' ∧ ∀ x, O' = some x → H.next ≤ x) ?_ ?_ ?_
  · rintro k ⟨env, H1, ds⟩ hk ⟨e10, e11, e12, eds, hf, O', hrow, hO⟩
    simp only at e10 e11 e12 eds hf hrow
    generalize e3 : env 3 = ov at hrow
    have hkN : (k : Int) < zs.length := by omega
    have hw : IntKind.i64.wrap ((k : Int) + 1) = ((k + 1 : Nat) : Int) := by rw [w64 (by omega)]; push_cast; rfl
    have h1 := h.keep hf (fun _ _ => id)
    obtain ⟨la, oa, ca, rfl, g1, g2, _⟩ := h1.cell (i := k) (x := i64 zs[k]) (by simp [hk])
    have hix := ix44 la oa zs.length zs.length .i64 (k : Int) (by omega) hkN
    rw [Int.toNat_natCast] at hix
    simp [e10, e11, e12, hk, hix, g1, g2]
    refine callV_R cb20 (int_run (hz _ (List.getElem_mem hk))) ?_
    rintro _ H2 ⟨rfl, f2⟩
    have hrow2 := hrow.keep f2 (fun _ _ => id)
    have hel : (strs (brW zs k)).length = k + 1 := by rw [strs_length, brW_len zs (by omega)]
    obtain ⟨H3, hap, hnx, hget, hrow3, hkp⟩ := row_append el60 hrow2 (by rw [hel]; omega) (v := .string (str (sdec zs[k]))) rfl
    have hOlow : ∀ z, O' = some z → z < H2.next := fun z e => by subst e; exact hrow2.low
    have hf2 := hf.trans f2
    rw [hel] at hap hrow3
    simp [e3, e10, e11, e12, hap, hw, eds]
    refine ⟨⟨by have := hf2.1; omega, fun z hz _ => by rw [hkp z (by have := hf2.1; omega) (fun e => by have := hO z e; omega), hf2.get hz]⟩, some (H2.next + 1), ?_, ?_⟩
    · rw [brW_succ zs hk]
      simpa [strs] using hrow3
    · intro z e; cases e; have := hf2.1; omega
  · rintro ⟨env, H1, ds⟩ ⟨e10, e11, e12, eds, hf, O', hrow, hO⟩
    simp only at e10 e11 e12 eds hf hrow
    have hjl := brJ_len hz zs.length (Nat.le_refl _)
    have hll := brW_len zs (Nat.le_refl _)
    simp [e11, e12]
    refine callV_R cb19 (join_row hrow (by omega) (by omega)) ?_
    rintro _ _ ⟨rfl, rfl⟩
    simp [eds, hf, brk, h0]
  · simp
    refine ⟨Fresh.ofNew, some H.next, ?_, by simp⟩
    exact ⟨0, strs (brW zs 0), by simp [brW], by simp [brW, strs], by rw [List.drop_zero, List.take_length], by simp, by simp⟩
/-- ref.Broken -/
theorem rbroken_run {w : Bool} {sv : Value} {zs : List Int} {O : Option Nat} (hz : ∀ z ∈ zs, I64 z) (h : Row 3 w H sv (zs.map i64) O) (hl : zs.length ≤ 40) : CallR cx 18 #[sv] H (fun v H' => v = .string (str (brk zs)) ∧ Fresh H H') := by
  obtain ⟨ra, rfl, _⟩ := h.isSlice
  simp only [List.length_map] at h ⊢
  refine wk18 (by simp) ?_
  by_cases h0 : zs = []
  · subst h0
    simp [c18, brk, Fresh.refl]
  have hp : 0 < zs.length := List.length_pos_iff.2 h0
  have h1 : ¬ (zs.length : Int) = 0 := by omega
  have h2 : ¬ zs.length = 0 := by omega
  simp [c18, h0, h1, h2]
  refine aw_loop_to zs.length (fun k t => t.env 0 = .slice ra zs.length zs.length ∧ t.env 3 = .string (str (Lib.join (brW zs k) [32])) ∧ t.env 4 = i64 (k : Nat) ∧ t.ds = [] ∧ Fresh H t.H) ?_ ?_ ?_
  · rintro k ⟨env, H1, ds⟩ hk ⟨e0, e3, e4, eds, hf⟩
    simp only at e0 e3 e4 eds hf
    have hkN : (k : Int) < zs.length := by omega
    have hw : IntKind.i64.wrap ((k : Int) + 1) = ((k + 1 : Nat) : Int) := by rw [w64 (by omega)]; push_cast; rfl
    have h1 := h.keep hf (fun _ _ => id)
    obtain ⟨la, oa, ca, rfl, g1, g2, _⟩ := h1.cell (i := k) (x := i64 zs[k]) (by simp [hk])
    have hix := ix44 la oa zs.length zs.length .i64 (k : Int) (by omega) hkN
    rw [Int.toNat_natCast] at hix
    have hjl := brJ_len hz k (by omega)
    have hj := brJ_succ zs hk
    have hsl := sdec_len (hz zs[k] (List.getElem_mem _))
    generalize Lib.join (brW zs k) [32] = t0 at e3 hjl hj
    obtain ⟨t1, ht1⟩ : ∃ t, t = t0 ++ [32] := ⟨_, rfl⟩
    have hl1 : t1.length = t0.length + 1 := by rw [ht1]; simp
    rw [← ht1] at hj
    have a1 : ∀ ox oy, aBin Tryd.prog .add 9 ox oy (.string (str t0)) (.string ⟨#[32]⟩) = some (.string (str t1)) := fun ox oy => by rw [ht1]; exact addW t0 [32] (by simp; omega) ox oy
    have a2 := addW t1 (sdec zs[k]) (by omega)
    simp [e0, e3, e4, hk, hix, g1, g2, a1]
    refine callV_R cb14 (rint_run (hz _ (List.getElem_mem hk))) ?_
    rintro _ H2 ⟨rfl, f2⟩
    simp [e0, e4, a2, hj, hw, eds, hf.trans f2]
  · rintro ⟨env, H1, ds⟩ ⟨e0, e3, e4, eds, hf⟩
    simp only at e0 e3 e4 eds hf
    simp [e0, e3, e4, eds, hf, brk, h0]
  · simp [brW, Lib.join_one, Fresh.refl]
/-- the words of stats -/
def stW (g f p d r : Nat) (k n b : Int) (ns : List Int) : List (List UInt8) := [[115, 116, 97, 116, 115], [103, 101, 116, 115], dec g, [102, 111, 117, 110, 100], dec f, [112, 117, 116, 115], dec p, [100, 101, 108, 101, 116, 101, 115], dec d, [114, 101, 115, 105, 122, 101, 115], dec r, [107, 101, 112, 116], sdec k, [110, 111, 100, 101, 115], sdec n, [98, 121, 116, 101, 115], sdec b, textC ns]
/-- stats' block -/
abbrev stB (g f p d r : Nat) (k n b : Int) (n0 n1 n2 n3 n4 n5 n6 n7 n8 n9 : Int) : ABlk := .cells [u64 (g : Int), u64 (f : Int), u64 (p : Int), u64 (d : Int), u64 (r : Int), i64 k, i64 n, i64 b, u64 n0, u64 n1, u64 n2, u64 n3, u64 n4, u64 n5, u64 n6, u64 n7, u64 n8, u64 n9] 43 true 0
theorem build18 (x0 x1 x2 x3 x4 x5 x6 x7 x8 x9 x10 x11 x12 x13 x14 x15 x16 x17 : List UInt8) (H : AH) : aBuildSlice Tryd.prog 60 18 [(0, .string (str x0)), (1, .string (str x1)), (2, .string (str x2)), (3, .string (str x3)), (4, .string (str x4)), (5, .string (str x5)), (6, .string (str x6)), (7, .string (str x7)), (8, .string (str x8)), (9, .string (str x9)), (10, .string (str x10)), (11, .string (str x11)), (12, .string (str x12)), (13, .string (str x13)), (14, .string (str x14)), (15, .string (str x15)), (16, .string (str x16)), (17, .string (str x17))] H = some (.slice (some ⟨H.next, 0, none⟩) 18 18, H.new (.cells (strs [x0, x1, x2, x3, x4, x5, x6, x7, x8, x9, x10, x11, x12, x13, x14, x15, x16, x17]) 9 true 1)) := aBuildSliceN un60 sz9 (z := .string ⟨#[]⟩) (by kernel_rfl) (strs [x0, x1, x2, x3, x4, x5, x6, x7, x8, x9, x10, x11, x12, x13, x14, x15, x16, x17]) isCell_strs (by simp) H
/-- reply.Stats -/
theorem stats_run {g f p d r : Nat} {k n b : Int} {n0 n1 n2 n3 n4 n5 n6 n7 n8 n9 : Int} (b_g : g < 18446744073709551616) (b_f : f < 18446744073709551616) (b_p : p < 18446744073709551616) (b_d : d < 18446744073709551616) (b_r : r < 18446744073709551616) (b_k : I64 k) (b_n : I64 n) (b_b : I64 b) (hu : ∀ x ∈ [n0, n1, n2, n3, n4, n5, n6, n7, n8, n9], U64 x) (hg : HasG gsN H) (hn : nG ≤ H.next) : CallR cx 16 #[.agg #[u64 (g : Int), u64 (f : Int), u64 (p : Int), u64 (d : Int), u64 (r : Int), i64 k, i64 n, i64 b, u64 n0, u64 n1, u64 n2, u64 n3, u64 n4, u64 n5, u64 n6, u64 n7, u64 n8, u64 n9]] H (fun v H' => v = .string (str (Lib.join (stW g f p d r k n b [n0, n1, n2, n3, n4, n5, n6, n7, n8, n9]) [32])) ∧ Fresh H H') := by
  refine wk16 (by simp) ?_
  unfold c16
  refine aw_cut (fun t => t.env 1 = ptr H.next ∧ t.ds = [] ∧ t.H = ⟨H.next + 1, upd H.get H.next (stB g f p d r k n b n0 n1 n2 n3 n4 n5 n6 n7 n8 n9)⟩) (by simp [AH.new]) ?_
  rintro ⟨env, H1, ds⟩ ⟨e1, eds, hH⟩
  simp only at e1 eds hH
  have f1 : Fresh H H1 := by rw [hH]; exact Fresh.ofNew
  have r1 : H1.get H.next = some (stB g f p d r k n b n0 n1 n2 n3 n4 n5 n6 n7 n8 n9) := by rw [hH]; simp
  have l1 : H.next < H1.next := by rw [hH]; simp
  clear hH
  simp [e1, r1]
  refine callV_R cb31 (print_run b_g) ?_
  rintro _ H2 ⟨rfl, g2⟩
  have f2 := f1.trans g2
  have r2 : H2.get H.next = some (stB g f p d r k n b n0 n1 n2 n3 n4 n5 n6 n7 n8 n9) := by rw [g2.get l1, r1]
  have l2 : H.next < H2.next := Nat.lt_of_lt_of_le l1 g2.1
  simp [e1, r2]
  refine callV_R cb31 (print_run b_f) ?_
  rintro _ H3 ⟨rfl, g3⟩
  have f3 := f2.trans g3
  have r3 : H3.get H.next = some (stB g f p d r k n b n0 n1 n2 n3 n4 n5 n6 n7 n8 n9) := by rw [g3.get l2, r2]
  have l3 : H.next < H3.next := Nat.lt_of_lt_of_le l2 g3.1
  simp [e1, r3]
  refine callV_R cb31 (print_run b_p) ?_
  rintro _ H4 ⟨rfl, g4⟩
  have f4 := f3.trans g4
  have r4 : H4.get H.next = some (stB g f p d r k n b n0 n1 n2 n3 n4 n5 n6 n7 n8 n9) := by rw [g4.get l3, r3]
  have l4 : H.next < H4.next := Nat.lt_of_lt_of_le l3 g4.1
  simp [e1, r4]
  refine callV_R cb31 (print_run b_d) ?_
  rintro _ H5 ⟨rfl, g5⟩
  have f5 := f4.trans g5
  have r5 : H5.get H.next = some (stB g f p d r k n b n0 n1 n2 n3 n4 n5 n6 n7 n8 n9) := by rw [g5.get l4, r4]
  have l5 : H.next < H5.next := Nat.lt_of_lt_of_le l4 g5.1
  simp [e1, r5]
  refine callV_R cb31 (print_run b_r) ?_
  rintro _ H6 ⟨rfl, g6⟩
  have f6 := f5.trans g6
  have r6 : H6.get H.next = some (stB g f p d r k n b n0 n1 n2 n3 n4 n5 n6 n7 n8 n9) := by rw [g6.get l5, r5]
  have l6 : H.next < H6.next := Nat.lt_of_lt_of_le l5 g6.1
  simp [e1, r6]
  refine callV_R cb20 (int_run b_k) ?_
  rintro _ H7 ⟨rfl, g7⟩
  have f7 := f6.trans g7
  have r7 : H7.get H.next = some (stB g f p d r k n b n0 n1 n2 n3 n4 n5 n6 n7 n8 n9) := by rw [g7.get l6, r6]
  have l7 : H.next < H7.next := Nat.lt_of_lt_of_le l6 g7.1
  simp [e1, r7]
  refine callV_R cb20 (int_run b_n) ?_
  rintro _ H8 ⟨rfl, g8⟩
  have f8 := f7.trans g8
  have r8 : H8.get H.next = some (stB g f p d r k n b n0 n1 n2 n3 n4 n5 n6 n7 n8 n9) := by rw [g8.get l7, r7]
  have l8 : H.next < H8.next := Nat.lt_of_lt_of_le l7 g8.1
  simp [e1, r8]
  refine callV_R cb20 (int_run b_b) ?_
  rintro _ H9 ⟨rfl, g9⟩
  have f9 := f8.trans g9
  have r9 : H9.get H.next = some (stB g f p d r k n b n0 n1 n2 n3 n4 n5 n6 n7 n8 n9) := by rw [g9.get l8, r8]
  have l9 : H.next < H9.next := Nat.lt_of_lt_of_le l8 g9.1
  simp [e1, r9]
  refine callV_R cb32 (tprint_run (ns := [n0, n1, n2, n3, n4, n5, n6, n7, n8, n9]) rfl hu (hg.fresh gsN_lt hn f9) (Nat.le_trans hn f9.1)) ?_
  rintro _ H10 ⟨rfl, g10⟩
  have f10 := f9.trans g10
  have r10 : H10.get H.next = some (stB g f p d r k n b n0 n1 n2 n3 n4 n5 n6 n7 n8 n9) := by rw [g10.get l9, r9]
  have l10 : H.next < H10.next := Nat.lt_of_lt_of_le l9 g10.1
  have hb' : aBuildSlice Tryd.prog 60 18 [(0, .string ⟨#[115, 116, 97, 116, 115]⟩), (1, .string ⟨#[103, 101, 116, 115]⟩), (2, .string (str (dec g))), (3, .string ⟨#[102, 111, 117, 110, 100]⟩), (4, .string (str (dec f))), (5, .string ⟨#[112, 117, 116, 115]⟩), (6, .string (str (dec p))), (7, .string ⟨#[100, 101, 108, 101, 116, 101, 115]⟩), (8, .string (str (dec d))), (9, .string ⟨#[114, 101, 115, 105, 122, 101, 115]⟩), (10, .string (str (dec r))), (11, .string ⟨#[107, 101, 112, 116]⟩), (12, .string (str (sdec k))), (13, .string ⟨#[110, 111, 100, 101, 115]⟩), (14, .string (str (sdec n))), (15, .string ⟨#[98, 121, 116, 101, 115]⟩), (16, .string (str (sdec b))), (17, .string (str (textC [n0, n1, n2, n3, n4, n5, n6, n7, n8, n9])))] H10 = some (.slice (some ⟨H10.next, 0, none⟩) 18 18, H10.new (.cells (strs (stW g f p d r k n b [n0, n1, n2, n3, n4, n5, n6, n7, n8, n9])) 9 true 1)) := build18 [115, 116, 97, 116, 115] [103, 101, 116, 115] (dec g) [102, 111, 117, 110, 100] (dec f) [112, 117, 116, 115] (dec p) [100, 101, 108, 101, 116, 101, 115] (dec d) [114, 101, 115, 105, 122, 101, 115] (dec r) [107, 101, 112, 116] (sdec k) [110, 111, 100, 101, 115] (sdec n) [98, 121, 116, 101, 115] (sdec b) (textC [n0, n1, n2, n3, n4, n5, n6, n7, n8, n9]) _
  have hfin : Fresh H (H10.new (.cells (strs (stW g f p d r k n b [n0, n1, n2, n3, n4, n5, n6, n7, n8, n9])) 9 true 1)) := f10.trans Fresh.ofNew
  have hrow : Row 9 true (H10.new (.cells (strs (stW g f p d r k n b [n0, n1, n2, n3, n4, n5, n6, n7, n8, n9])) 9 true 1)) (.slice (some ⟨H10.next, 0, none⟩) 18 18) (strs (stW g f p d r k n b [n0, n1, n2, n3, n4, n5, n6, n7, n8, n9])) (some H10.next) := ⟨0, strs (stW g f p d r k n b [n0, n1, n2, n3, n4, n5, n6, n7, n8, n9]), by simp [stW], by simp, by rw [List.drop_zero, List.take_length], by simp, by simp⟩
  generalize H10.new (.cells (strs (stW g f p d r k n b [n0, n1, n2, n3, n4, n5, n6, n7, n8, n9])) 9 true 1) = HF at hb' hfin hrow
  have hlen : (Lib.join (stW g f p d r k n b [n0, n1, n2, n3, n4, n5, n6, n7, n8, n9]) [32]).length ≤ 1000 := by
    have qg := dec_len (n := g) (k := 20) (by omega) (by omega)
    have qf := dec_len (n := f) (k := 20) (by omega) (by omega)
    have qp := dec_len (n := p) (k := 20) (by omega) (by omega)
    have qd := dec_len (n := d) (k := 20) (by omega) (by omega)
    have qr := dec_len (n := r) (k := 20) (by omega) (by omega)
    have qk := sdec_len b_k
    have qn := sdec_len b_n
    have qb := sdec_len b_b
    have qn := wordsK_short hu 10 (Nat.le_refl _)
    have qt : (textC [n0, n1, n2, n3, n4, n5, n6, n7, n8, n9]).length ≤ 310 := qn
    simp [stW, Lib.join_cons, Lib.joinTail]
    omega
  simp [hb']
  refine callV_R cb19 (join_row hrow (by simp [stW]) (by omega)) ?_
  rintro _ _ ⟨rfl, rfl⟩
  simp [eds, hfin, r1, r2, r3, r4, r5, r6, r7, r8, r9, r10]
theorem replyStats_run' {g f p d r : Nat} {k n b : Int} {n0 n1 n2 n3 n4 n5 n6 n7 n8 n9 : Int} (b_g : g < 18446744073709551616) (b_f : f < 18446744073709551616) (b_p : p < 18446744073709551616) (b_d : d < 18446744073709551616) (b_r : r < 18446744073709551616) (b_k : I64 k) (b_n : I64 n) (b_b : I64 b) (hu : ∀ x ∈ [n0, n1, n2, n3, n4, n5, n6, n7, n8, n9], U64 x) {sv : Value} {zs : List Int} {O : Option Nat} (hg : HasG gsN H) (hn : nG ≤ H.next) (hrow : Row 3 false H sv (zs.map i64) O) (hz : ∀ z ∈ zs, I64 z) : CallR cx 5 #[.agg #[u64 (g : Int), u64 (f : Int), u64 (p : Int), u64 (d : Int), u64 (r : Int), i64 k, i64 n, i64 b, u64 n0, u64 n1, u64 n2, u64 n3, u64 n4, u64 n5, u64 n6, u64 n7, u64 n8, u64 n9], sv] H (fun v _ => v = .bool true) := by
  obtain ⟨ra, rfl, _⟩ := hrow.isSlice
  simp only [List.length_map] at hrow ⊢
  have hlow : ∀ z, O = some z → z < H.next := fun z e => by subst e; exact hrow.low
  refine wk5 (by simp) ?_
  unfold c5
  refine aw_cut (fun t => t.env 1 = .slice ra zs.length zs.length ∧ t.env 2 = ptr H.next ∧ t.ds = [] ∧ t.H = ⟨H.next + 1, upd H.get H.next (stB g f p d r k n b n0 n1 n2 n3 n4 n5 n6 n7 n8 n9)⟩) (by simp [AH.new]) ?_
  rintro ⟨env, H1, ds⟩ ⟨e1, e2, eds, hH⟩
  simp only at e1 e2 eds hH
  have f1 : Fresh H H1 := by rw [hH]; exact Fresh.ofNew
  have r1 : H1.get H.next = some (stB g f p d r k n b n0 n1 n2 n3 n4 n5 n6 n7 n8 n9) := by rw [hH]; simp
  have l1 : H.next < H1.next := by rw [hH]; simp
  clear hH
  have hg1 := hg.fresh gsN_lt hn f1
  have hn1 := Nat.le_trans hn f1.1
  by_cases hsl : 40 < (zs.length : Int)
  · simp [e1, hsl]
    refine callV_R cba (alive_run has0) ?_
    rintro _ _ ⟨rfl, _⟩
    simp [eds]
  refine aw_cut (fun t => t.env 1 = .slice ra zs.length zs.length ∧ t.env 2 = ptr H.next ∧ t.ds = [] ∧ t.H = H1) (by simp [e1, e2, eds, hsl]) ?_
  clear e1 e2 eds
  rintro ⟨env, H1', ds⟩ ⟨e1, e2, eds, hH⟩
  simp only at e1 e2 eds hH
  subst H1'
  have qg := dec_len (n := g) (k := 20) (by omega) (by omega)
  have qf := dec_len (n := f) (k := 20) (by omega) (by omega)
  have qp := dec_len (n := p) (k := 20) (by omega) (by omega)
  have qd := dec_len (n := d) (k := 20) (by omega) (by omega)
  have qr := dec_len (n := r) (k := 20) (by omega) (by omega)
  have qk := sdec_len b_k
  have qn := sdec_len b_n
  have qb := sdec_len b_b
  have qt0 := wordsK_short hu 10 (Nat.le_refl _)
  have qt : (textC [n0, n1, n2, n3, n4, n5, n6, n7, n8, n9]).length ≤ 310 := qt0
  clear qt0
  obtain ⟨tA1, htA1⟩ : ∃ t, t = [115, 116, 97, 116, 115, 32, 103, 101, 116, 115, 32] ++ (dec g) := ⟨_, rfl⟩
  have ltA1 : tA1.length ≤ 32 := by rw [htA1, List.length_append]; (try simp only [List.length_cons, List.length_nil]); omega
  have atA1 : ∀ ox oy, aBin Tryd.prog .add 9 ox oy (.string ⟨#[115, 116, 97, 116, 115, 32, 103, 101, 116, 115, 32]⟩) (.string (str (dec g))) = some (.string (str tA1)) := fun ox oy => by rw [htA1]; exact addW [115, 116, 97, 116, 115, 32, 103, 101, 116, 115, 32] (dec g) (by (try simp only [List.length_cons, List.length_nil]); omega) ox oy
  obtain ⟨tA2, htA2⟩ : ∃ t, t = tA1 ++ [32, 102, 111, 117, 110, 100, 32] := ⟨_, rfl⟩
  have ltA2 : tA2.length ≤ 39 := by rw [htA2, List.length_append]; (try simp only [List.length_cons, List.length_nil]); omega
  have atA2 : ∀ ox oy, aBin Tryd.prog .add 9 ox oy (.string (str tA1)) (.string ⟨#[32, 102, 111, 117, 110, 100, 32]⟩) = some (.string (str tA2)) := fun ox oy => by rw [htA2]; exact addW tA1 [32, 102, 111, 117, 110, 100, 32] (by (try simp only [List.length_cons, List.length_nil]); omega) ox oy
  obtain ⟨tA3, htA3⟩ : ∃ t, t = tA2 ++ (dec f) := ⟨_, rfl⟩
  have ltA3 : tA3.length ≤ 60 := by rw [htA3, List.length_append]; (try simp only [List.length_cons, List.length_nil]); omega
  have atA3 : ∀ ox oy, aBin Tryd.prog .add 9 ox oy (.string (str tA2)) (.string (str (dec f))) = some (.string (str tA3)) := fun ox oy => by rw [htA3]; exact addW tA2 (dec f) (by (try simp only [List.length_cons, List.length_nil]); omega) ox oy
  obtain ⟨tA4, htA4⟩ : ∃ t, t = tA3 ++ [32, 112, 117, 116, 115, 32] := ⟨_, rfl⟩
  have ltA4 : tA4.length ≤ 66 := by rw [htA4, List.length_append]; (try simp only [List.length_cons, List.length_nil]); omega
  have atA4 : ∀ ox oy, aBin Tryd.prog .add 9 ox oy (.string (str tA3)) (.string ⟨#[32, 112, 117, 116, 115, 32]⟩) = some (.string (str tA4)) := fun ox oy => by rw [htA4]; exact addW tA3 [32, 112, 117, 116, 115, 32] (by (try simp only [List.length_cons, List.length_nil]); omega) ox oy
  obtain ⟨tA5, htA5⟩ : ∃ t, t = tA4 ++ (dec p) := ⟨_, rfl⟩
  have ltA5 : tA5.length ≤ 87 := by rw [htA5, List.length_append]; (try simp only [List.length_cons, List.length_nil]); omega
  have atA5 : ∀ ox oy, aBin Tryd.prog .add 9 ox oy (.string (str tA4)) (.string (str (dec p))) = some (.string (str tA5)) := fun ox oy => by rw [htA5]; exact addW tA4 (dec p) (by (try simp only [List.length_cons, List.length_nil]); omega) ox oy
  refine aw_cut (fun t => t.env 1 = .slice ra zs.length zs.length ∧ t.env 2 = ptr H.next ∧ t.env 5 = .string (str tA5) ∧ t.ds = [] ∧ Fresh H1 t.H) ?_ ?_
  · simp [e1, e2, r1]
    refine callV_R cb13 (rprint_run b_g) ?_
    rintro _ G2 ⟨rfl, g2⟩
    have s2 : G2.get H.next = some (stB g f p d r k n b n0 n1 n2 n3 n4 n5 n6 n7 n8 n9) := by rw [g2.get l1, r1]
    have m2 : H.next < G2.next := Nat.lt_of_lt_of_le l1 g2.1
    have k2 : Fresh H1 G2 := g2
    simp [e1, e2, r1, s2, atA1, atA2, atA3, atA4, atA5]
    refine callV_R cb13 (rprint_run b_f) ?_
    rintro _ G3 ⟨rfl, g3⟩
    have s3 : G3.get H.next = some (stB g f p d r k n b n0 n1 n2 n3 n4 n5 n6 n7 n8 n9) := by rw [g3.get m2, s2]
    have m3 : H.next < G3.next := Nat.lt_of_lt_of_le m2 g3.1
    have k3 : Fresh H1 G3 := k2.trans g3
    simp [e1, e2, r1, s2, s3, atA1, atA2, atA3, atA4, atA5]
    refine callV_R cb13 (rprint_run b_p) ?_
    rintro _ G4 ⟨rfl, g4⟩
    have s4 : G4.get H.next = some (stB g f p d r k n b n0 n1 n2 n3 n4 n5 n6 n7 n8 n9) := by rw [g4.get m3, s3]
    have m4 : H.next < G4.next := Nat.lt_of_lt_of_le m3 g4.1
    have k4 : Fresh H1 G4 := k3.trans g4
    simp [e1, e2, r1, s2, s3, s4, atA1, atA2, atA3, atA4, atA5, eds, k4]
  clear e1 e2 eds
  rintro ⟨env, H2, ds⟩ ⟨e1, e2, e5, eds, f2⟩
  simp only at e1 e2 e5 eds f2
  have r2 : H2.get H.next = some (stB g f p d r k n b n0 n1 n2 n3 n4 n5 n6 n7 n8 n9) := by rw [f2.get l1, r1]
  have l2 : H.next < H2.next := Nat.lt_of_lt_of_le l1 f2.1
  obtain ⟨tB1, htB1⟩ : ∃ t, t = [32, 100, 101, 108, 101, 116, 101, 115, 32] ++ (dec d) := ⟨_, rfl⟩
  have ltB1 : tB1.length ≤ 30 := by rw [htB1, List.length_append]; (try simp only [List.length_cons, List.length_nil]); omega
  have atB1 : ∀ ox oy, aBin Tryd.prog .add 9 ox oy (.string ⟨#[32, 100, 101, 108, 101, 116, 101, 115, 32]⟩) (.string (str (dec d))) = some (.string (str tB1)) := fun ox oy => by rw [htB1]; exact addW [32, 100, 101, 108, 101, 116, 101, 115, 32] (dec d) (by (try simp only [List.length_cons, List.length_nil]); omega) ox oy
  obtain ⟨tB2, htB2⟩ : ∃ t, t = tB1 ++ [32, 114, 101, 115, 105, 122, 101, 115, 32] := ⟨_, rfl⟩
  have ltB2 : tB2.length ≤ 39 := by rw [htB2, List.length_append]; (try simp only [List.length_cons, List.length_nil]); omega
  have atB2 : ∀ ox oy, aBin Tryd.prog .add 9 ox oy (.string (str tB1)) (.string ⟨#[32, 114, 101, 115, 105, 122, 101, 115, 32]⟩) = some (.string (str tB2)) := fun ox oy => by rw [htB2]; exact addW tB1 [32, 114, 101, 115, 105, 122, 101, 115, 32] (by (try simp only [List.length_cons, List.length_nil]); omega) ox oy
  obtain ⟨tB3, htB3⟩ : ∃ t, t = tB2 ++ (dec r) := ⟨_, rfl⟩
  have ltB3 : tB3.length ≤ 60 := by rw [htB3, List.length_append]; (try simp only [List.length_cons, List.length_nil]); omega
  have atB3 : ∀ ox oy, aBin Tryd.prog .add 9 ox oy (.string (str tB2)) (.string (str (dec r))) = some (.string (str tB3)) := fun ox oy => by rw [htB3]; exact addW tB2 (dec r) (by (try simp only [List.length_cons, List.length_nil]); omega) ox oy
  obtain ⟨tB4, htB4⟩ : ∃ t, t = tB3 ++ [32, 107, 101, 112, 116, 32] := ⟨_, rfl⟩
  have ltB4 : tB4.length ≤ 66 := by rw [htB4, List.length_append]; (try simp only [List.length_cons, List.length_nil]); omega
  have atB4 : ∀ ox oy, aBin Tryd.prog .add 9 ox oy (.string (str tB3)) (.string ⟨#[32, 107, 101, 112, 116, 32]⟩) = some (.string (str tB4)) := fun ox oy => by rw [htB4]; exact addW tB3 [32, 107, 101, 112, 116, 32] (by (try simp only [List.length_cons, List.length_nil]); omega) ox oy
  obtain ⟨tB5, htB5⟩ : ∃ t, t = tB4 ++ (sdec k) := ⟨_, rfl⟩
  have ltB5 : tB5.length ≤ 87 := by rw [htB5, List.length_append]; (try simp only [List.length_cons, List.length_nil]); omega
  have atB5 : ∀ ox oy, aBin Tryd.prog .add 9 ox oy (.string (str tB4)) (.string (str (sdec k))) = some (.string (str tB5)) := fun ox oy => by rw [htB5]; exact addW tB4 (sdec k) (by (try simp only [List.length_cons, List.length_nil]); omega) ox oy
  refine aw_cut (fun t => t.env 1 = .slice ra zs.length zs.length ∧ t.env 2 = ptr H.next ∧ t.env 5 = .string (str tA5) ∧ t.env 6 = .string (str tB5) ∧ t.ds = [] ∧ Fresh H2 t.H) ?_ ?_
  · simp [e1, e2, e5, r2]
    refine callV_R cb13 (rprint_run b_d) ?_
    rintro _ G3 ⟨rfl, g3⟩
    have s3 : G3.get H.next = some (stB g f p d r k n b n0 n1 n2 n3 n4 n5 n6 n7 n8 n9) := by rw [g3.get l2, r2]
    have m3 : H.next < G3.next := Nat.lt_of_lt_of_le l2 g3.1
    have k3 : Fresh H2 G3 := g3
    simp [e1, e2, e5, r2, s3, atB1, atB2, atB3, atB4, atB5]
    refine callV_R cb13 (rprint_run b_r) ?_
    rintro _ G4 ⟨rfl, g4⟩
    have s4 : G4.get H.next = some (stB g f p d r k n b n0 n1 n2 n3 n4 n5 n6 n7 n8 n9) := by rw [g4.get m3, s3]
    have m4 : H.next < G4.next := Nat.lt_of_lt_of_le m3 g4.1
    have k4 : Fresh H2 G4 := k3.trans g4
    simp [e1, e2, e5, r2, s3, s4, atB1, atB2, atB3, atB4, atB5]
    refine callV_R cb14 (rint_run b_k) ?_
    rintro _ G5 ⟨rfl, g5⟩
    have s5 : G5.get H.next = some (stB g f p d r k n b n0 n1 n2 n3 n4 n5 n6 n7 n8 n9) := by rw [g5.get m4, s4]
    have m5 : H.next < G5.next := Nat.lt_of_lt_of_le m4 g5.1
    have k5 : Fresh H2 G5 := k4.trans g5
    simp [e1, e2, e5, r2, s3, s4, s5, atB1, atB2, atB3, atB4, atB5, eds, k5]
  clear e1 e2 e5 eds
  rintro ⟨env, H3, ds⟩ ⟨e1, e2, e5, e6, eds, f3⟩
  simp only at e1 e2 e5 e6 eds f3
  have r3 : H3.get H.next = some (stB g f p d r k n b n0 n1 n2 n3 n4 n5 n6 n7 n8 n9) := by rw [f3.get l2, r2]
  have l3 : H.next < H3.next := Nat.lt_of_lt_of_le l2 f3.1
  obtain ⟨tC1, htC1⟩ : ∃ t, t = [32, 110, 111, 100, 101, 115, 32] ++ (sdec n) := ⟨_, rfl⟩
  have ltC1 : tC1.length ≤ 28 := by rw [htC1, List.length_append]; (try simp only [List.length_cons, List.length_nil]); omega
  have atC1 : ∀ ox oy, aBin Tryd.prog .add 9 ox oy (.string ⟨#[32, 110, 111, 100, 101, 115, 32]⟩) (.string (str (sdec n))) = some (.string (str tC1)) := fun ox oy => by rw [htC1]; exact addW [32, 110, 111, 100, 101, 115, 32] (sdec n) (by (try simp only [List.length_cons, List.length_nil]); omega) ox oy
  obtain ⟨tC2, htC2⟩ : ∃ t, t = tC1 ++ [32, 98, 121, 116, 101, 115, 32] := ⟨_, rfl⟩
  have ltC2 : tC2.length ≤ 35 := by rw [htC2, List.length_append]; (try simp only [List.length_cons, List.length_nil]); omega
  have atC2 : ∀ ox oy, aBin Tryd.prog .add 9 ox oy (.string (str tC1)) (.string ⟨#[32, 98, 121, 116, 101, 115, 32]⟩) = some (.string (str tC2)) := fun ox oy => by rw [htC2]; exact addW tC1 [32, 98, 121, 116, 101, 115, 32] (by (try simp only [List.length_cons, List.length_nil]); omega) ox oy
  obtain ⟨tC3, htC3⟩ : ∃ t, t = tC2 ++ (sdec b) := ⟨_, rfl⟩
  have ltC3 : tC3.length ≤ 56 := by rw [htC3, List.length_append]; (try simp only [List.length_cons, List.length_nil]); omega
  have atC3 : ∀ ox oy, aBin Tryd.prog .add 9 ox oy (.string (str tC2)) (.string (str (sdec b))) = some (.string (str tC3)) := fun ox oy => by rw [htC3]; exact addW tC2 (sdec b) (by (try simp only [List.length_cons, List.length_nil]); omega) ox oy
  obtain ⟨tC4, htC4⟩ : ∃ t, t = tC3 ++ [32] := ⟨_, rfl⟩
  have ltC4 : tC4.length ≤ 57 := by rw [htC4, List.length_append]; (try simp only [List.length_cons, List.length_nil]); omega
  have atC4 : ∀ ox oy, aBin Tryd.prog .add 9 ox oy (.string (str tC3)) (.string ⟨#[32]⟩) = some (.string (str tC4)) := fun ox oy => by rw [htC4]; exact addW tC3 [32] (by (try simp only [List.length_cons, List.length_nil]); omega) ox oy
  obtain ⟨tC5, htC5⟩ : ∃ t, t = tC4 ++ (textC [n0, n1, n2, n3, n4, n5, n6, n7, n8, n9]) := ⟨_, rfl⟩
  have ltC5 : tC5.length ≤ 367 := by rw [htC5, List.length_append]; (try simp only [List.length_cons, List.length_nil]); omega
  have atC5 : ∀ ox oy, aBin Tryd.prog .add 9 ox oy (.string (str tC4)) (.string (str (textC [n0, n1, n2, n3, n4, n5, n6, n7, n8, n9]))) = some (.string (str tC5)) := fun ox oy => by rw [htC5]; exact addW tC4 (textC [n0, n1, n2, n3, n4, n5, n6, n7, n8, n9]) (by (try simp only [List.length_cons, List.length_nil]); omega) ox oy
  refine aw_cut (fun t => t.env 1 = .slice ra zs.length zs.length ∧ t.env 2 = ptr H.next ∧ t.env 5 = .string (str tA5) ∧ t.env 6 = .string (str tB5) ∧ t.env 7 = .string (str tC5) ∧ t.ds = [] ∧ Fresh H3 t.H) ?_ ?_
  · simp [e1, e2, e5, e6, r3]
    refine callV_R cb14 (rint_run b_n) ?_
    rintro _ G4 ⟨rfl, g4⟩
    have s4 : G4.get H.next = some (stB g f p d r k n b n0 n1 n2 n3 n4 n5 n6 n7 n8 n9) := by rw [g4.get l3, r3]
    have m4 : H.next < G4.next := Nat.lt_of_lt_of_le l3 g4.1
    have k4 : Fresh H3 G4 := g4
    simp [e1, e2, e5, e6, r3, s4, atC1, atC2, atC3, atC4, atC5]
    refine callV_R cb14 (rint_run b_b) ?_
    rintro _ G5 ⟨rfl, g5⟩
    have s5 : G5.get H.next = some (stB g f p d r k n b n0 n1 n2 n3 n4 n5 n6 n7 n8 n9) := by rw [g5.get m4, s4]
    have m5 : H.next < G5.next := Nat.lt_of_lt_of_le m4 g5.1
    have k5 : Fresh H3 G5 := k4.trans g5
    simp [e1, e2, e5, e6, r3, s4, s5, atC1, atC2, atC3, atC4, atC5]
    refine callV_R cb15 (trprint_run (ns := [n0, n1, n2, n3, n4, n5, n6, n7, n8, n9]) rfl hu) ?_
    rintro _ G6 ⟨rfl, g6⟩
    have s6 : G6.get H.next = some (stB g f p d r k n b n0 n1 n2 n3 n4 n5 n6 n7 n8 n9) := by rw [g6.get m5, s5]
    have m6 : H.next < G6.next := Nat.lt_of_lt_of_le m5 g6.1
    have k6 : Fresh H3 G6 := k5.trans g6
    simp [e1, e2, e5, e6, r3, s4, s5, s6, atC1, atC2, atC3, atC4, atC5, eds, k6]
  clear e1 e2 e5 e6 eds
  rintro ⟨env, H4, ds⟩ ⟨e1, e2, e5, e6, e7, eds, f4⟩
  simp only at e1 e2 e5 e6 e7 eds f4
  have r4 : H4.get H.next = some (stB g f p d r k n b n0 n1 n2 n3 n4 n5 n6 n7 n8 n9) := by rw [f4.get l3, r3]
  have l4 : H.next < H4.next := Nat.lt_of_lt_of_le l3 f4.1
  have htx : Lib.join (stW g f p d r k n b [n0, n1, n2, n3, n4, n5, n6, n7, n8, n9]) [32] = (tA5 ++ tB5) ++ tC5 := by
    rw [htA5, htA4, htA3, htA2, htA1, htB5, htB4, htB3, htB2, htB1, htC5, htC4, htC3, htC2, htC1]
    simp [stW, Lib.join_cons, Lib.joinTail]
  obtain ⟨tD, htD⟩ : ∃ t, t = tA5 ++ tB5 := ⟨_, rfl⟩
  have ltD : tD.length ≤ 300 := by rw [htD, List.length_append]; omega
  have aD : ∀ ox oy, aBin Tryd.prog .add 9 ox oy (.string (str tA5)) (.string (str tB5)) = some (.string (str tD)) := fun ox oy => by rw [htD]; exact addW tA5 tB5 (by omega) ox oy
  have aE := addW tD tC5 (by omega)
  have f14 := (f2.trans f3).trans f4
  have hg4 := hg1.fresh gsN_lt hn1 f14
  have hn4 := Nat.le_trans hn1 f14.1
  have hrow4 := hrow.keep (f1.trans f14) (fun _ _ => id)
  have eD := fun ox oy => aBin_streqL (P := Tryd.prog) (t := 9) ox oy un9 (tD ++ tC5) (tD ++ tC5)
  have eB := fun ox oy => aBin_streqL (P := Tryd.prog) (t := 9) ox oy un9 (brk zs) (brk zs)
  have hld : aLoad Tryd.prog 43 (ptr H.next) H4 = some (.agg #[u64 (g : Int), u64 (f : Int), u64 (p : Int), u64 (d : Int), u64 (r : Int), i64 k, i64 n, i64 b, u64 n0, u64 n1, u64 n2, u64 n3, u64 n4, u64 n5, u64 n6, u64 n7, u64 n8, u64 n9]) := by simp [r4]
  rw [← htD] at htx
  simp [e2, hld, -ld43]
  refine callV_R cb16 (stats_run b_g b_f b_p b_d b_r b_k b_n b_b hu hg4 hn4) ?_
  rintro _ H5 ⟨rfl, f5⟩
  rw [htx]
  simp [e1, e5, e6, e7, aD, aE, eD]
  refine callV_R cb17 (broken_run hz (hrow4.keep f5 (fun _ _ => id)) (by omega)) ?_
  rintro _ H6 ⟨rfl, f6⟩
  simp [e1]
  refine callV_R cb18 (rbroken_run hz (hrow4.keep (f5.trans f6) (fun _ _ => id)) (by omega)) ?_
  rintro _ H7 ⟨rfl, f7⟩
  simp [eB]
  refine callV_R cba (alive_run has0) ?_
  rintro _ _ ⟨rfl, _⟩
  simp [eds]
theorem replyStats_run {g f p d r k n b n0 n1 n2 n3 n4 n5 n6 n7 n8 n9 : Int} {sv : Value} {zs : List Int} {len : Nat} {O : Option Nat} (hg : HasG gsN H) (hn : nG ≤ H.next) (hrow : Row 3 false H sv (zs.map (Value.int .i64)) O) (hlen : zs.length = len) (hwf : ∀ n ∈ zs, (Lit.int .i64 n).wf = true) (w_g : IntKind.u64.has g) (w_f : IntKind.u64.has f) (w_p : IntKind.u64.has p) (w_d : IntKind.u64.has d) (w_r : IntKind.u64.has r) (w_k : IntKind.i64.has k) (w_n : IntKind.i64.has n) (w_b : IntKind.i64.has b) (w_n0 : IntKind.u64.has n0) (w_n1 : IntKind.u64.has n1) (w_n2 : IntKind.u64.has n2) (w_n3 : IntKind.u64.has n3) (w_n4 : IntKind.u64.has n4) (w_n5 : IntKind.u64.has n5) (w_n6 : IntKind.u64.has n6) (w_n7 : IntKind.u64.has n7) (w_n8 : IntKind.u64.has n8) (w_n9 : IntKind.u64.has n9) : CallR cx 5 #[.agg #[.int .u64 g, .int .u64 f, .int .u64 p, .int .u64 d, .int .u64 r, .int .i64 k, .int .i64 n, .int .i64 b, .int .u64 n0, .int .u64 n1, .int .u64 n2, .int .u64 n3, .int .u64 n4, .int .u64 n5, .int .u64 n6, .int .u64 n7, .int .u64 n8, .int .u64 n9], sv] H (fun v _ => v = .bool true) := by
  have u : ∀ {x : Int}, IntKind.u64.has x → U64 x := fun h => ⟨h.1, Int.lt_of_le_of_lt h.2 (by decide)⟩
  have i : ∀ {x : Int}, IntKind.i64.has x → I64 x := fun h => ⟨h.1, h.2⟩
  have hu : ∀ x ∈ [n0, n1, n2, n3, n4, n5, n6, n7, n8, n9], U64 x := by
    intro n hm
    simp only [List.mem_cons, List.not_mem_nil, or_false] at hm
    rcases hm with rfl | rfl | rfl | rfl | rfl | rfl | rfl | rfl | rfl | rfl <;> exact u (by assumption)
  have hz : ∀ z ∈ zs, I64 z := fun z hm => by
    have := hwf z hm
    simp [Lit.wf, IntKind.min, IntKind.max, IntKind.signed, IntKind.bits] at this
    exact this
  obtain ⟨ug, hug⟩ : ∃ m : Nat, g = (m : Int) := ⟨g.toNat, by have := (u w_g).1; omega⟩
  have vg := (u w_g).2
  subst hug
  obtain ⟨uf, huf⟩ : ∃ m : Nat, f = (m : Int) := ⟨f.toNat, by have := (u w_f).1; omega⟩
  have vf := (u w_f).2
  subst huf
  obtain ⟨up, hup⟩ : ∃ m : Nat, p = (m : Int) := ⟨p.toNat, by have := (u w_p).1; omega⟩
  have vp := (u w_p).2
  subst hup
  obtain ⟨ud, hud⟩ : ∃ m : Nat, d = (m : Int) := ⟨d.toNat, by have := (u w_d).1; omega⟩
  have vd := (u w_d).2
  subst hud
  obtain ⟨ur, hur⟩ : ∃ m : Nat, r = (m : Int) := ⟨r.toNat, by have := (u w_r).1; omega⟩
  have vr := (u w_r).2
  subst hur
  exact replyStats_run' (by omega) (by omega) (by omega) (by omega) (by omega) (i w_k) (i w_n) (i w_b) hu hg hn hrow hz
end Go.Proofs.YtpimepdlbhejhaaDoor.C
namespace Go.Proofs.YtpimepdlbhejhaaDoorA
theorem len18 {ns : List Int} (h : ns.length = 18) : ∃ a0 a1 a2 a3 a4 a5 a6 a7 a8 a9 a10 a11 a12 a13 a14 a15 a16 a17, ns = [a0, a1, a2, a3, a4, a5, a6, a7, a8, a9, a10, a11, a12, a13, a14, a15, a16, a17] := by match ns, h with | [a0, a1, a2, a3, a4, a5, a6, a7, a8, a9, a10, a11, a12, a13, a14, a15, a16, a17], _ => exact ⟨a0, a1, a2, a3, a4, a5, a6, a7, a8, a9, a10, a11, a12, a13, a14, a15, a16, a17, rfl⟩
end Go.Proofs.YtpimepdlbhejhaaDoorA

/- Recency; the law ReusePlaces. Own text of this session. -/
import Derived.Test.YtikkokolmipppaaRd
set_option linter.unusedVariables false
set_option linter.unusedSimpArgs false
set_option maxRecDepth 4000
set_option maxHeartbeats 8000000
namespace Go.Proofs.Ytikkokolmipppaa.C
open Go Go.RowKit Go.Proofs.YtikkokolmipppaaA Go.Proofs.Ytikkokolmipppaa.Ones Go.Proofs.Ytikkokolmipppaa.Plain
variable {H : AH}
theorem ln34 {l : Nat} {kk vk : IntKind} {es : List (Int × Int)} {H : AH} (hg : H.get l = some (.map kk vk es)) : aLenH Try.prog 34 (.map (some l)) H = some (.int .i64 (es.length : Nat)) := aLenH_map (by decide) un34 hg
/-- the map has these keys, each once -/
def KeyM (es : List (Int × Int)) (l : List Nat) : Prop := es.length = nd l ∧ ∀ y : Nat, (mget es (y : Int)).isSome = decide (y ∈ l)
theorem mset_len (a b : Int) (es : List (Int × Int)) : (mset a b es).length = if (mget es a).isSome then es.length else es.length + 1 := by
  unfold mset mget
  cases mfind a es 0 with
  | none => simp
  | some x => simp
theorem keyM_step {es : List (Int × Int)} {l : List Nat} (h : KeyM es l) (x : Nat) (b : Int) : KeyM (mset (x : Int) b es) (x :: l) := by
  constructor
  · rw [mset_len, h.2, nd, h.1]
    by_cases hx : x ∈ l <;> simp [hx]
  · intro y
    rw [mget_mset]
    by_cases e : y = x
    · subst e; simp
    · have e1 : ¬ ((y : Int) = (x : Int)) := by omega
      rw [if_neg e1, h.2]
      simp [e]
theorem drop_take_cons {xs : List Nat} {k m : Nat} (hk : k < m) (hm : m ≤ xs.length) : (xs.take m).drop k = xs.getD k 0 :: (xs.take m).drop (k + 1) := by
  rw [List.drop_eq_getElem_cons (by simp; omega)]
  congr 1
  rw [List.getElem_take, List.getD_eq_getElem?_getD, List.getElem?_eq_getElem (by omega)]
  rfl
/-- Recency -/
theorem recency_run {w : Bool} {sv : Value} {xs : List Nat} {O : Option Nat} {a : Int} {m y : Nat} (h : Row 28 w H sv (gcells xs) O) (hl : xs.length ≤ 4096) (hm : max 0 (min a (xs.length : Int)) = (m : Int)) :
    CallR cx 14 #[sv, i64 a, u64 (y : Int)] H (fun v H' => v = i64 (recI xs m y) ∧ Fresh H H') := by
  have hs := h.isSlice
  obtain ⟨rx, rfl, _⟩ := hs
  simp only [List.length_map] at h ⊢
  refine wk14 (by simp) ?_
  have hg : ¬ 4096 < (xs.length : Int) := by omega
  have hmx : m ≤ xs.length := by omega
  obtain ⟨sp, hsp, hrow⟩ := row_part el22 h (lo := none) (hi := some (i64 (m : Nat))) (a := 0) (b := m) (by simp [bnd]; omega) (by simp [bnd]) (by omega) (by simpa using hmx)
  have e : ((gcells xs).take m).drop 0 = gcells (xs.take m) := by simp [gcells, wcells, List.map_take]
  rw [e] at hrow
  have hps := hrow.isSlice
  obtain ⟨rp, rfl, _⟩ := hps
  simp only [List.length_map, List.length_take, Nat.min_eq_left hmx] at hrow hsp
  unfold c14
  refine aw_cut (fun t => t.env 0 = .slice rx xs.length xs.length ∧ t.env 1 = i64 a ∧ t.env 2 = u64 (y : Int) ∧ t.ds = [] ∧ t.H = H) (by simp) ?_
  rintro ⟨env, H1, ds⟩ ⟨e0, e1, e2, eds, hH⟩
  simp only at e0 e1 e2 eds hH
  subst hH
  refine aw_cut (fun t => t.env 0 = .slice rx xs.length xs.length ∧ t.env 1 = i64 a ∧ t.env 2 = u64 (y : Int) ∧ t.ds = [] ∧ t.H = H1) (by simp [e0, e1, e2, hg, eds]) ?_
  clear e0 e1 e2 eds
  rintro ⟨env, H2, ds⟩ ⟨e0, e1, e2, eds, hH⟩
  simp only at e0 e1 e2 eds hH
  subst hH
  refine aw_cut (fun t => t.env 2 = u64 (y : Int) ∧ t.env 7 = .slice rp m m ∧ t.ds = [] ∧ t.H = H2) (by simp [e0, e1, e2, hm, hsp, eds]) ?_
  clear e0 e1 e2 eds
  rintro ⟨env, H3, ds⟩ ⟨e2, e7, eds, hH⟩
  simp only at e2 e7 eds hH
  subst hH
  have hmm := aMakeMap_of (P := Try.prog) (H := H3) mk34
  refine aw_cut (fun t => t.env 2 = u64 (y : Int) ∧ t.env 7 = .slice rp m m ∧ t.env 8 = .map (some H3.next) ∧ t.ds = [] ∧ t.H = H3.new (.map .u64 .i64 [])) (by simp [e2, e7, hmm, eds]) ?_
  clear e2 e7 eds
  rintro ⟨env, H4, ds⟩ ⟨e2, e7, e8, eds, hH⟩
  simp only at e2 e7 e8 eds hH
  have f4 : Fresh H3 H4 := by rw [hH]; exact Fresh.ofNew
  have r4 : H4.get H3.next = some (.map .u64 .i64 []) := by rw [hH]; simp [AH.new]
  have l4 : H3.next < H4.next := by rw [hH]; simp [AH.new]
  clear hH
  obtain ⟨M, hM⟩ : ∃ M, M = H3.next := ⟨_, rfl⟩
  rw [← hM] at e8 r4
  have hw0 : IntKind.i64.wrap ((m : Int) - 1) = (m : Int) - 1 := w64 (by omega)
  simp [e7, hw0]
  refine aw_loop_to m (fun n t => t.env 2 = u64 (y : Int) ∧ t.env 7 = .slice rp m m ∧ t.env 8 = .map (some M) ∧ t.ds = [] ∧ Fresh H3 t.H ∧ ∃ r, r + n = m ∧ t.env 9 = i64 ((r : Int) - 1) ∧ lastB xs y m = lastB xs y r ∧ ∃ es, t.H.get M = some (.map .u64 .i64 es) ∧ KeyM es ((xs.take m).drop r)) ?_ ?_ ?_
  · clear e2 e7 e8 eds r4 l4 f4
    rintro n ⟨env, H5, ds⟩ hn ⟨e2, e7, e8, eds, f5, r, hr, e9, hlb, es, r5, hes⟩
    simp only at e2 e7 e8 e9 eds f5 r5
    obtain ⟨k, rfl⟩ : ∃ k, r = k + 1 := ⟨r - 1, by omega⟩
    have e9' : env 9 = i64 (k : Nat) := by rw [e9]; congr 1; omega
    have hk : k < xs.length := by omega
    have hkm : k < m := by omega
    have hkI : (k : Int) < m := by omega
    obtain ⟨lb, ob, cb, hrb, k1, k2, _⟩ := (hrow.keep f5 (fun _ _ => id)).cell (i := k) (x := u64 (xs.getD k 0 : Nat)) (by
      have := gcell (xs := xs.take m) (k := k) (by simp; omega)
      rw [this]
      congr 3
      rw [List.getD_eq_getElem?_getD, List.getElem?_take, if_pos hkm, ← List.getD_eq_getElem?_getD])
    have hixa := ix22 lb ob m m .i64 (k : Int) (by omega) hkI
    rw [Int.toNat_natCast] at hixa
    have hw : IntKind.i64.wrap ((k : Int) - 1) = (k : Int) - 1 := w64 (by omega)
    have hlk : lastB xs y (k + 1) = if xs.getD k 0 = y then some k else lastB xs y k := by
      rw [lastB, getD_of hk]
      simp only [Option.some.injEq]
    have hdc := drop_take_cons hkm hmx
    have hlu := aLookup_of (P := Try.prog) (t := 34) mk34 r5 ((xs.getD k 0 : Nat) : Int) false
    rw [lkV_eq] at hlu
    simp only [Bool.false_eq_true, if_false] at hlu
    have hst := keyM_step hes (xs.getD k 0)
    rw [← hdc] at hst
    generalize xs.getD k 0 = x at k2 hlk hlu hst
    generalize (mget es (x : Int)).getD 0 = u at hlu
    have hup := aMapUpdate_of (P := Try.prog) (t := 34) mk34 r5 (x : Int) (IntKind.i64.wrap (u + 1))
    have hln := ln34 r5
    have hst' := hst (IntKind.i64.wrap (u + 1))
    generalize IntKind.i64.wrap (u + 1) = u1 at hup hst'
    by_cases hx : x = y
    · subst hx
      rw [if_pos rfl] at hlk
      have hd : recI xs m x = ((nd ((xs.take m).drop (k + 1)) : Nat) : Int) := by rw [recI, hlb, hlk]
      rw [hes.1] at hln
      simp [e2, e7, e8, e9', hrb, hixa, k1, k2, hln, hd, f5, eds]
    · have hxI : ¬ ((x : Int) = (y : Int)) := by omega
      rw [if_neg hx] at hlk
      have hup' := aMapUpdate_of (P := Try.prog) (t := 34) mk34 r5 (x : Int) (IntKind.i64.wrap (u + 1))
      have hst'' := hst (IntKind.i64.wrap (u + 1))
      simp [e2, e7, e8, e9', hrb, hixa, k1, k2, hx, hxI, hlu, hup', hw, eds]
      refine ⟨⟨f5.1, fun z hz _ => ?_⟩, k, by omega, by simp, by rw [hlb, hlk], hst''⟩
      have : ¬ z = M := by omega
      simp [this]
      exact f5.get hz
  · clear e2 e7 e8 eds r4 l4 f4
    rintro ⟨env, H5, ds⟩ ⟨e2, e7, e8, eds, f5, r, hr, e9, hlb, _⟩
    simp only at e2 e7 e8 e9 eds f5
    obtain rfl : r = 0 := by omega
    have hres : recI xs m y = -1 := by rw [recI, hlb]; rfl
    simp [e9, eds, hres, f5]
  · simp [e2, e7, e8, eds, f4, r4, hw0]
    refine ⟨by simp [List.drop_eq_nil_of_le, nd], fun z => ?_⟩
    simp [mget_nil, List.drop_eq_nil_of_le]
theorem recency_long {w : Bool} {sv : Value} {xs : List Nat} {O : Option Nat} {a y : Value} (h : Row 28 w H sv (gcells xs) O) (hl : 4096 < xs.length) : CallR cx 14 #[sv, a, y] H (fun v H' => v = i64 (-1) ∧ H' = H) := by
  have hs := h.isSlice
  obtain ⟨rx, rfl, _⟩ := hs
  simp only [List.length_map] at h ⊢
  refine wk14 (by simp) ?_
  have hg : 4096 < (xs.length : Int) := by omega
  simp [c14, hg]
theorem hasG_any (H : AH) : HasG gs H := by intro x hx; cases hx
theorem nextL_get {ys : List Nat} {k : Nat} (hk : k < ys.length) : (nextL ys).getD k 0 = ((nxt ys k : Nat) : Int) := by
  rw [List.getD_eq_getElem?_getD, List.getElem?_eq_getElem (by simpa using hk)]
  simp [nextL]
theorem distL_get {ys : List Nat} {k : Nat} (hk : k < ys.length) : (distL ys).getD k 0 = dist ys k := by
  rw [List.getD_eq_getElem?_getD, List.getElem?_eq_getElem (by simpa using hk)]
  simp [distL]
theorem keys_of {zs : List Int} (h : ∀ n ∈ zs, (Lit.int .u64 n).wf = true) : ∃ xs : List Nat, zs.map (Value.int .u64) = gcells xs := by
  refine ⟨zs.map Int.toNat, ?_⟩
  simp only [gcells, wcells, List.map_map]
  refine List.map_congr_left fun z hz => ?_
  have := h z hz
  simp [Lit.wf, IntKind.min, IntKind.max, IntKind.signed, IntKind.bits] at this
  simp
  omega
theorem reusePlaces_run {sv : Value} {zs : List Int} {len : Nat} {Oa : Option Nat} (hg : HasG gs H) (hn : nG ≤ H.next) (hrow : Row 28 false H sv (zs.map (Value.int .u64)) Oa) (hlen : zs.length = len) (hwf : ∀ n ∈ zs, (Lit.int .u64 n).wf = true) :
    CallR cx 3 #[sv] H (fun v _ => v = .bool true) := by
  obtain ⟨xs, hxs⟩ := keys_of hwf
  rw [hxs] at hrow
  clear hxs hwf hlen
  have hs := hrow.isSlice
  obtain ⟨rx, rfl, _⟩ := hs
  simp only [List.length_map] at hrow ⊢
  refine wk3 (by simp) ?_
  by_cases hbig : 120 < (xs.length : Int)
  · simp [c3, hbig]
    refine callV_R cba (alive_run (hasG_any _)) ?_
    rintro _ H2 ⟨rfl, hH⟩
    subst hH
    simp
  have hl : xs.length ≤ 120 := by omega
  have hcut : cut xs = xs := cut_short (by omega)
  unfold c3
  refine aw_cut (fun t => t.env 0 = .slice rx xs.length xs.length ∧ t.ds = [] ∧ t.H = H) (by simp) ?_
  rintro ⟨env, H1, ds⟩ ⟨e0, eds, hH⟩
  simp only at e0 eds hH
  subst hH
  refine aw_cut (fun t => t.env 0 = .slice rx xs.length xs.length ∧ t.ds = [] ∧ t.H = H1) (by simp [e0, hbig, eds]) ?_
  clear e0 eds
  rintro ⟨env, H2, ds⟩ ⟨e0, eds, hH⟩
  simp only at e0 eds hH
  subst hH
  refine aw_cut (fun t => t.env 0 = .slice rx xs.length xs.length ∧ t.ds = [] ∧ Fresh H2 t.H ∧ IL H2.next t.H (t.env 3) (lastL xs) ∧ IL H2.next t.H (t.env 4) (nextL xs) ∧ IL H2.next t.H (t.env 5) (distL xs)) ?_ ?_
  · simp [e0]
    refine callV_R cb8 (last_run hrow (by omega)) ?_
    rintro v3 H3 ⟨f3, i3⟩
    simp [e0]
    refine callV_R cb9 (next_run (hrow.keep f3 (fun _ _ => id)) (by omega)) ?_
    rintro v4 H4 ⟨f4, i4⟩
    simp [e0]
    refine callV_R cb10 (distances_run (hrow.keep (f3.trans f4) (fun _ _ => id)) (by omega)) ?_
    rintro v5 H5 ⟨f5, i5⟩
    rw [hcut] at i3 i4 i5
    simp [e0, eds, (f3.trans f4).trans f5]
    have up : ∀ {B B' : Nat} {H : AH} {v : Value} {l : List Int}, B ≤ B' → IL B' H v l → IL B H v l := fun hb ⟨O, h1, h2⟩ => ⟨O, h1, fun o e => Nat.le_trans hb (h2 o e)⟩
    exact ⟨i3.fresh (f4.trans f5), (up f3.1 i4).fresh f5, up (f3.trans f4).1 i5⟩
  clear e0 eds
  rintro ⟨env, H3, ds⟩ ⟨e0, eds, f3, i3, i4, i5⟩
  simp only at e0 eds f3 i3 i4 i5
  generalize e3 : env 3 = v3 at i3
  generalize e4 : env 4 = v4 at i4
  generalize e5 : env 5 = v5 at i5
  obtain ⟨r3, rfl⟩ := i3.isSlice
  obtain ⟨r4, rfl⟩ := i4.isSlice
  obtain ⟨r5, rfl⟩ := i5.isSlice
  simp only [lastL_length, nextL_length, distL_length] at i3 i4 i5 e3 e4 e5
  refine aw_cut (fun t => t.env 0 = .slice rx xs.length xs.length ∧ t.env 3 = .slice r3 xs.length xs.length ∧ t.env 4 = .slice r4 xs.length xs.length ∧ t.env 5 = .slice r5 xs.length xs.length ∧ t.ds = [] ∧ t.H = H3) (by simp [e0, e3, e4, e5, eds, Go.undef]) ?_
  clear e0 e3 e4 e5 eds
  rintro ⟨env, H4, ds⟩ ⟨e0, e3, e4, e5, eds, hH⟩
  simp only at e0 e3 e4 e5 eds hH
  subst hH
  refine aw_cut (fun t => t.ds = []) ?_ ?_
  · simp [e0]
    refine aw_loop_to xs.length (fun k t => t.env 0 = .slice rx xs.length xs.length ∧ t.env 3 = .slice r3 xs.length xs.length ∧ t.env 4 = .slice r4 xs.length xs.length ∧ t.env 5 = .slice r5 xs.length xs.length ∧ t.env 37 = i64 (xs.length : Nat) ∧ t.env 38 = i64 (k : Nat) ∧ t.ds = [] ∧ Fresh H4 t.H) ?_ ?_ ?_
    · clear e0 e3 e4 e5 eds
      rintro k ⟨env, H5, ds⟩ hk ⟨e0, e3, e4, e5, e37, e38, eds, f5⟩
      simp only at e0 e3 e4 e5 e37 e38 eds f5
      have hkI : (k : Int) < xs.length := by omega
      have hw : IntKind.i64.wrap ((k : Int) + 1) = (k : Int) + 1 := w64 (by omega)
      have hrow5 := hrow.keep (f3.trans f5) (fun _ _ => id)
      obtain ⟨b3, o3, c3', h3, _, l3, g3, k3⟩ := (i3.fresh f5).get (i := k) (by simpa using hk)
      obtain ⟨b4, o4, c4', h4, _, l4, g4, k4⟩ := (i4.fresh f5).get (i := k) (by simpa using hk)
      obtain ⟨b5, o5, c5', h5, _, l5, g5, k5⟩ := (i5.fresh f5).get (i := k) (by simpa using hk)
      rw [lastL_get hk] at k3
      rw [nextL_get hk] at k4
      rw [distL_get hk] at k5
      have x3 := ix24 b3 o3 xs.length xs.length .i64 (k : Int) (by omega) hkI
      have x4 := ix24 b4 o4 xs.length xs.length .i64 (k : Int) (by omega) hkI
      have x5 := ix24 b5 o5 xs.length xs.length .i64 (k : Int) (by omega) hkI
      rw [Int.toNat_natCast] at x3 x4 x5
      simp [e0, e3, e4, e5, e37, e38, hkI, h3, x3, g3, k3]
      refine callV_R cb11 (rlast_run hrow5 (by omega) hk) ?_
      rintro _ H6 ⟨rfl, hH⟩
      subst hH
      simp [e0, e3, e4, e5, e37, e38, h4, x4, g4, k4, Go.undef]
      refine callV_R cb12 (rnext_run hrow5 (by omega) hk) ?_
      rintro _ H6 ⟨rfl, hH⟩
      subst hH
      simp [e0, e3, e4, e5, e37, e38, h5, x5, g5, k5, Go.undef]
      refine callV_R cb13 (rdist_run hrow5 (by omega) hk) ?_
      rintro _ H6 ⟨rfl, f6⟩
      have q3 := f6.get l3
      have q4 := f6.get l4
      have q5 := f6.get l5
      rw [g3] at q3
      rw [g4] at q4
      rw [g5] at q5
      simp [e0, e3, e4, e5, e37, e38, h3, h4, h5, x3, x4, x5, g3, g4, g5, k3, k4, k5, q3, q4, q5, hw, eds, f5.trans f6, Go.undef]
    · clear e0 e3 e4 e5 eds
      rintro ⟨env, H5, ds⟩ ⟨e0, e3, e4, e5, e37, e38, eds, f5⟩
      simp only at e0 e3 e4 e5 e37 e38 eds f5
      simp [e37, e38, eds]
    · simp [e0, e3, e4, e5, eds, Fresh.refl]
  clear e0 e3 e4 e5 eds
  rintro ⟨env, H5, ds⟩ eds
  simp only at eds
  simp
  refine callV_R cba (alive_run (hasG_any _)) ?_
  rintro _ H2 ⟨rfl, hH⟩
  subst hH
  simp [eds]
end Go.Proofs.Ytikkokolmipppaa.C

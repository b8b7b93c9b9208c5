/- The document's May and Print of an op; what is told is read back. Own text of this session. -/
import Derived.Test.YtlbgincmndakmaaDoorLCr
set_option linter.unusedVariables false
set_option linter.unusedSimpArgs false
set_option maxRecDepth 4000
set_option maxHeartbeats 8000000
namespace Go.Proofs.YtlbgincmndakmaaDoor.C
open Go Go.RowKit Go.Proofs.YtlbgincmndakmaaDoorA Go.Proofs.YtlbgincmndakmaaDoor.Plain
variable {H : AH}
theorem put_cfg {H : AH} : aStore Tryd.prog 27 (ptr H.next) (cfg 0 0 0 0) ⟨H.next + 1, upd H.get H.next (cfgB 0 0 0 0)⟩ = some ⟨H.next + 1, upd H.get H.next (cfgB 0 0 0 0)⟩ := by
  rw [st27 _ _ _ rfl]
  show AH.wrs _ _ 0 [i64 0, i64 0, i64 0, i64 0] = _
  rw [wrs_of (cs := [i64 0, i64 0, i64 0, i64 0]) (T := 27) (z := 0) (by simp) (by simp) (by simp), setAll_all _ _ (by simp), updd]
theorem al27 (H : AH) : aAlloc Tryd.prog 27 H = some (ptr H.next, ⟨H.next + 1, upd H.get H.next (cfgB 0 0 0 0)⟩) := by kernel_rfl
theorem rmayO_run {k : Int} {n m : Nat} {a : Option Addr} {p c q g : Int} : CallR cx 8 #[opV k n (.slice a m m) p c q g] H (fun v H' => ∃ b, v = .bool b ∧ (b = true ↔ MayO k n m p c q g) ∧ Fresh H H') := by
  refine wk8 (by simp) ?_
  unfold c8
  refine aw_cut (fun t => t.env 1 = ptr H.next ∧ t.ds = [] ∧ t.H = H.new (opB k n (.slice a m m) p c q g)) (by simp [box29]) ?_
  rintro ⟨env, H0, ds⟩ ⟨e1, eds, hH⟩
  simp only at e1 eds hH
  have f0 : Fresh H H0 := by rw [hH]; exact Fresh.ofNew
  have r0 : H0.get H.next = some (opB k n (.slice a m m) p c q g) := by rw [hH]; simp [AH.new]
  have l0 : H.next < H0.next := by rw [hH]; simp [AH.new]
  clear hH
  refine aw_cut (fun t => t.env 1 = ptr H.next ∧ t.env 3 = ptr H0.next ∧ t.ds = [] ∧ t.H = ⟨H0.next + 1, upd H0.get H0.next (cfgB 0 0 0 0)⟩) (by simp [e1, build27z, al27, put_cfg, eds, -st27, -ld27, -aBuild]) ?_
  clear e1 eds
  rintro ⟨env, H1, ds⟩ ⟨e1, e3, eds, hH⟩
  simp only at e1 e3 eds hH
  have f1 : Fresh H H1 := f0.trans (by rw [hH]; exact Fresh.ofNew)
  have r1 : H1.get H.next = some (opB k n (.slice a m m) p c q g) := by
    have : ¬ H.next = H0.next := by omega
    rw [hH]; simp [this, r0]
  have r3 : H1.get H0.next = some (cfgB 0 0 0 0) := by rw [hH]; simp
  clear hH
  have lc := ld27at r1
  have lz : aLoad Tryd.prog 27 (ptr H0.next) H1 = some (cfg 0 0 0 0) := by
    rw [ld27, row_of (cs := [i64 0, i64 0, i64 0, i64 0]) (T := 27) (own := true) (z := 0) r3 (by simp)]
    simp
  by_cases h1024 : 1024 < m
  · have hM : ¬ MayO k n m p c q g := by unfold MayO; omega
    have hmI : (1024 : Int) < m := by omega
    simp [e1, r1, h1024, hmI, hM, f1, eds]
  have hmI : ¬ (1024 : Int) < m := by omega
  refine aw_cut (fun t => t.env 1 = ptr H.next ∧ t.env 3 = ptr H0.next ∧ t.ds = [] ∧ t.H = H1) (by simp [e1, e3, r1, h1024, hmI, eds]) ?_
  clear e1 e3 eds
  rintro ⟨env, H2, ds⟩ ⟨e1, e3, eds, hH⟩
  simp only at e1 e3 eds hH
  subst hH
  have hm : m ≤ 1024 := by omega
  by_cases h1 : k = 1
  · subst h1
    by_cases hz : m = 0
    · subst hz
      have hM : MayO 1 n 0 p c q g ↔ (p = 0 ∧ c = 0 ∧ q = 0 ∧ g = 0) := by unfold MayO; simp
      simp [e1, e3, r1, lc, lz, eqC, hM, f1, eds]
      omega
    · have hM : ¬ MayO 1 n m p c q g := by unfold MayO; simp; omega
      simp [e1, e3, r1, hz, hM, f1, eds, Go.undef]
  by_cases h3 : k = 3
  · subst h3
    by_cases hz : m = 0
    · subst hz
      have hM : MayO 3 n 0 p c q g ↔ (p = 0 ∧ c = 0 ∧ q = 0 ∧ g = 0) := by unfold MayO; simp
      simp [e1, e3, r1, lc, lz, eqC, hM, f1, eds]
      omega
    · have hM : ¬ MayO 3 n m p c q g := by unfold MayO; simp; omega
      simp [e1, e3, r1, hz, hM, f1, eds, Go.undef]
  by_cases h2 : k = 2
  · subst h2
    have hM : MayO 2 n m p c q g ↔ (p = 0 ∧ c = 0 ∧ q = 0 ∧ g = 0) := by unfold MayO; simp; omega
    simp [e1, e3, r1, lc, lz, eqC, hM, f1, eds]
    omega
  by_cases h4 : k = 4
  · subst h4
    by_cases hz : m = 0
    · subst hz
      by_cases hn : n = 0
      · subst hn
        have hM : MayO 4 0 0 p c q g ↔ May p c q g := by unfold MayO; simp
        simp [e1, e3, r1, lc, Go.undef]
        refine callV_R cb25 may_run ?_
        rintro _ H3 ⟨rfl, hH⟩
        have f3 : Fresh H H3 := f1.trans (by rw [hH]; exact Fresh.ofNew)
        clear hH
        by_cases hmm : May p c q g
        · simp [hmm, hM, e1, f3, eds]
        · simp [hmm, hM, e1, f3, eds]
      · have hM : ¬ MayO 4 n 0 p c q g := by unfold MayO; simp [hn]
        simp [e1, e3, r1, hn, hM, f1, eds, Go.undef]
    · have hM : ¬ MayO 4 n m p c q g := by unfold MayO; simp [hz]
      simp [e1, e3, r1, hz, hM, f1, eds, Go.undef]
  by_cases h5 : k = 5
  · subst h5
    by_cases hz : m = 0
    · subst hz
      by_cases hn : n = 0
      · subst hn
        have hM : MayO 5 0 0 p c q g ↔ (p = 0 ∧ c = 0 ∧ q = 0 ∧ g = 0) := by unfold MayO; simp
        simp [e1, e3, r1, lc, lz, eqC, hM, f1, eds]
        omega
      · have hM : ¬ MayO 5 n 0 p c q g := by unfold MayO; simp [hn]
        simp [e1, e3, r1, hn, hM, f1, eds, Go.undef]
    · have hM : ¬ MayO 5 n m p c q g := by unfold MayO; simp [hz]
      simp [e1, e3, r1, hz, hM, f1, eds, Go.undef]
  by_cases h6 : k = 6
  · subst h6
    by_cases hz : m = 0
    · subst hz
      by_cases hn : n = 0
      · subst hn
        have hM : MayO 6 0 0 p c q g ↔ (p = 0 ∧ c = 0 ∧ q = 0 ∧ g = 0) := by unfold MayO; simp
        simp [e1, e3, r1, lc, lz, eqC, hM, f1, eds]
        omega
      · have hM : ¬ MayO 6 n 0 p c q g := by unfold MayO; simp [hn]
        simp [e1, e3, r1, hn, hM, f1, eds, Go.undef]
    · have hM : ¬ MayO 6 n m p c q g := by unfold MayO; simp [hz]
      simp [e1, e3, r1, hz, hM, f1, eds, Go.undef]
  have hM : ¬ MayO k n m p c q g := by unfold MayO; simp [h1, h2, h3, h4, h5, h6]
  simp [e1, e3, r1, h1, h2, h3, h4, h5, h6, hM, f1, eds]
/-- the kinds of an op that may be told -/
theorem may_kind {k : Int} {n m : Nat} {p c q g : Int} (h : MayO k n m p c q g) : k = 1 ∨ k = 2 ∨ k = 3 ∨ k = 4 ∨ k = 5 ∨ k = 6 := by
  unfold MayO at h
  refine Classical.byContradiction fun hc => ?_
  rw [if_neg (by omega), if_neg (by omega), if_neg (by omega), if_neg (by omega)] at h
  exact h.2
theorem addG (x : List UInt8) (hx : x.length < 100000) (ox oy : Operand) : aBin Tryd.prog .add 9 ox oy (.string ⟨#[103, 101, 116, 32]⟩) (.string (str x)) = some (.string (str (getW ++ 32 :: x))) := addW [103, 101, 116, 32] x (by simp; omega) ox oy
theorem addP (x : List UInt8) (hx : x.length < 100000) (ox oy : Operand) : aBin Tryd.prog .add 9 ox oy (.string ⟨#[112, 117, 116, 32]⟩) (.string (str x)) = some (.string (str (putW ++ 32 :: x))) := addW [112, 117, 116, 32] x (by simp; omega) ox oy
theorem addD (x : List UInt8) (hx : x.length < 100000) (ox oy : Operand) : aBin Tryd.prog .add 9 ox oy (.string ⟨#[100, 101, 108, 101, 116, 101, 32]⟩) (.string (str x)) = some (.string (str (delW ++ 32 :: x))) := addW [100, 101, 108, 101, 116, 101, 32] x (by simp; omega) ox oy
theorem addR (x : List UInt8) (hx : x.length < 100000) (ox oy : Operand) : aBin Tryd.prog .add 9 ox oy (.string ⟨#[114, 101, 115, 105, 122, 101, 32]⟩) (.string (str x)) = some (.string (str (resW ++ 32 :: x))) := addW [114, 101, 115, 105, 122, 101, 32] x (by simp; omega) ox oy
theorem join2 (x y : List UInt8) : Lib.join [x, y] [32] = x ++ 32 :: y := by rw [join_cons2, Lib.join_one]; simp
theorem join3 (x y z : List UInt8) : Lib.join [x, y, z] [32] = x ++ 32 :: (y ++ 32 :: z) := by rw [join_cons2, join2]; simp
theorem prL_get {n : Nat} {p c q g : Int} : prL 1 n [] p c q g = getW ++ 32 :: dec n := join2 _ _
theorem prL_del {n : Nat} {p c q g : Int} : prL 3 n [] p c q g = delW ++ 32 :: dec n := join2 _ _
theorem prL_put0 {n : Nat} {p c q g : Int} : prL 2 n [] p c q g = putW ++ 32 :: dec n := join2 _ _
theorem prL_put {n : Nat} {val : List UInt8} {p c q g : Int} (h : val ≠ []) : prL 2 n val p c q g = putW ++ 32 :: (dec n ++ 32 :: hex val) := by
  unfold prL prW
  rw [if_pos (by decide), if_neg h, if_neg (by decide)]
  exact join3 _ _ _
theorem prL_res {n : Nat} {p c q g : Int} : prL 4 n [] p c q g = resW ++ 32 :: textOf p c q g := by
  unfold prL prW
  rw [if_neg (by decide), if_pos rfl, if_pos rfl]
  exact join2 _ _
theorem prL_sta {n : Nat} {p c q g : Int} : prL 5 n [] p c q g = staW := by
  unfold prL prW
  rw [if_neg (by decide), if_pos rfl, if_neg (by decide)]
  exact Lib.join_one _ _
theorem prL_dum {n : Nat} {p c q g : Int} : prL 6 n [] p c q g = dumW := by
  unfold prL prW
  rw [if_neg (by decide), if_pos rfl, if_neg (by decide)]
  exact Lib.join_one _ _
/-- what is told is read back -/
theorem op_forth {k : Int} {n : Nat} {val : List UInt8} {p c q g : Int} (hM : MayO k n val.length p c q g) (hn : n < 18446744073709551616) : opOf (prL k n val p c q g) = ⟨k, n, val, p, c, q, g, 0⟩ := by
  obtain ⟨k1, k2⟩ := is_rd (l := dec n) (n := n) ⟨hn, rfl⟩
  have hk := may_kind hM
  have hlen := hM.1
  unfold MayO at hM
  have h0 : ∀ {l : List UInt8}, l.length = 0 → l = [] := fun h => List.length_eq_zero_iff.1 h
  rcases hk with rfl | rfl | rfl | rfl | rfl | rfl
  · rw [if_pos (by decide)] at hM
    obtain ⟨_, hz, rfl, rfl, rfl, rfl⟩ := hM
    obtain rfl := h0 hz
    have hs : splitL 32 (prL 1 n [] 0 0 0 0) = [getW, dec n] := by rw [prL_get, splitL_app 32 getW _ (by decide), splitL_plain (dec_plain n)]
    rw [opOf_fits hs (by unfold fitsP; simp [kindL, getW, putW, delW])]
    show opT 1 [dec n] = _
    rw [opT_keyed (by decide) (by simp), k1, k2]
    rfl
  · rw [if_neg (by decide), if_pos rfl] at hM
    obtain ⟨_, rfl, rfl, rfl, rfl⟩ := hM
    by_cases hv : val = []
    · subst hv
      have hs : splitL 32 (prL 2 n [] 0 0 0 0) = [putW, dec n] := by rw [prL_put0, splitL_app 32 putW _ (by decide), splitL_plain (dec_plain n)]
      rw [opOf_fits hs (by show fitsP 2 1; decide)]
      show opT 2 [dec n] = _
      rw [opT_keyed (by decide) (by simp), k1, k2]
      rfl
    · have hs : splitL 32 (prL 2 n val 0 0 0 0) = [putW, dec n, hex val] := by rw [prL_put hv, splitL_app 32 putW _ (by decide), splitL_app 32 (dec n) _ (dec_plain n), splitL_plain (hex_plain val)]
      rw [opOf_fits hs (by show fitsP 2 2; decide)]
      show opT 2 [dec n, hex val] = _
      have hvo : valOf (hex val) = (val, 0) := by
        unfold valOf
        rw [unhex_hex]
        simp only
        rw [if_neg hv, if_neg (by omega)]
      rw [opT_put, k1, k2, hvo]
      rfl
  · rw [if_pos (by decide)] at hM
    obtain ⟨_, hz, rfl, rfl, rfl, rfl⟩ := hM
    obtain rfl := h0 hz
    have hs : splitL 32 (prL 3 n [] 0 0 0 0) = [delW, dec n] := by rw [prL_del, splitL_app 32 delW _ (by decide), splitL_plain (dec_plain n)]
    rw [opOf_fits hs (by show fitsP 3 1; decide)]
    show opT 3 [dec n] = _
    rw [opT_keyed (by decide) (by simp), k1, k2]
    rfl
  · rw [if_neg (by decide), if_neg (by decide), if_pos rfl] at hM
    obtain ⟨_, hz, rfl, hm⟩ := hM
    obtain rfl := h0 hz
    have hs : splitL 32 (prL 4 0 [] p c q g) = resW :: splitL 32 (textOf p c q g) := by rw [prL_res, splitL_app 32 resW _ (by decide)]
    rw [opOf_fits hs (by show fitsP 4 _; unfold fitsP; simp)]
    show opT 4 _ = _
    rw [opT_res, join_splitL, text_out hm]
    rfl
  · rw [if_neg (by decide), if_neg (by decide), if_neg (by decide), if_pos (by decide)] at hM
    obtain ⟨_, hz, rfl, rfl, rfl, rfl, rfl⟩ := hM
    obtain rfl := h0 hz
    have hs : splitL 32 (prL 5 0 [] 0 0 0 0) = [staW] := by rw [prL_sta, splitL_plain (by decide)]
    rw [opOf_fits hs (by show fitsP 5 0; decide)]
    exact opT_bare (by decide)
  · rw [if_neg (by decide), if_neg (by decide), if_neg (by decide), if_pos (by decide)] at hM
    obtain ⟨_, hz, rfl, rfl, rfl, rfl, rfl⟩ := hM
    obtain rfl := h0 hz
    have hs : splitL 32 (prL 6 0 [] 0 0 0 0) = [dumW] := by rw [prL_dum, splitL_plain (by decide)]
    rw [opOf_fits hs (by show fitsP 6 0; decide)]
    exact opT_bare (by decide)
/-- ref.Print -/
theorem roprint_run {k : Int} {n : Nat} {sv : Value} {val : List UInt8} {O : Option Nat} {w : Bool} {p c q g : Int} (hv : Row 5 w H sv (val.map u8v) O) (hnn : n < 18446744073709551616) (hM : MayO k n val.length p c q g) :
    CallR cx 10 #[opV k n sv p c q g] H (fun v H' => Fresh H H' ∧ v = .string (str (prL k n val p c q g))) := by
  obtain ⟨ra, rfl, _⟩ := hv.isSlice
  simp only [List.length_map] at hv ⊢
  refine wk10 (by simp) ?_
  unfold c10
  refine aw_cut (fun t => t.env 1 = ptr H.next ∧ t.ds = [] ∧ t.H = H.new (opB k n (.slice ra val.length val.length) p c q g)) (by simp [box29]) ?_
  rintro ⟨env, H1, ds⟩ ⟨e1, eds, hH⟩
  simp only at e1 eds hH
  have f1 : Fresh H H1 := by rw [hH]; exact Fresh.ofNew
  have r1 : H1.get H.next = some (opB k n (.slice ra val.length val.length) p c q g) := by rw [hH]; simp [AH.new]
  have l1 : H.next < H1.next := by rw [hH]; simp [AH.new]
  have hv1 := hv.keep f1 (fun _ _ => id)
  clear hH
  have lc := ld27at r1
  have hk := may_kind hM
  have hlen := hM.1
  have hd := dec_len (n := n) (k := 20) (by omega) (by omega)
  unfold MayO at hM
  have h0 : ∀ {l : List UInt8}, l.length = 0 → l = [] := fun h => List.length_eq_zero_iff.1 h
  rcases hk with rfl | rfl | rfl | rfl | rfl | rfl
  · rw [if_pos (by decide)] at hM
    obtain rfl := h0 hM.2.1
    rw [prL_get]
    have ha := addG (dec n) (by omega)
    simp [e1, r1]
    refine callV_R cb32 (rprint_run hnn) ?_
    rintro _ H2 ⟨rfl, f2⟩
    simp [ha, eds, f1.trans f2]
  · by_cases hv0 : val = []
    · subst hv0
      rw [prL_put0]
      have ha := addP (dec n) (by omega)
      simp [e1, r1]
      refine callV_R cb32 (rprint_run hnn) ?_
      rintro _ H2 ⟨rfl, f2⟩
      simp [ha, eds, f1.trans f2]
    · have hln : ¬ val.length = 0 := fun h => hv0 (h0 h)
      rw [prL_put hv0]
      have ha := addP (dec n) (by omega)
      have hb := addW (putW ++ 32 :: dec n) [32] (by simp [putW]; omega)
      have hc := addW ((putW ++ 32 :: dec n) ++ [32]) (hex val) (by rw [hex_len]; simp [putW]; omega)
      have he : (putW ++ 32 :: dec n) ++ [32] ++ hex val = putW ++ 32 :: (dec n ++ 32 :: hex val) := by simp
      rw [he] at hc
      generalize (putW ++ 32 :: dec n) ++ [32] = t2 at hb hc
      generalize putW ++ 32 :: dec n = t1 at ha hb
      generalize putW ++ 32 :: (dec n ++ 32 :: hex val) = t3 at hc
      refine aw_mono _ (Q := fun e s1 => e = .ret ∧ s1.ds = [] ∧ Fresh H s1.H ∧ s1.env 2 = .string (str t3)) ?_ ?_
      · rintro e s1 ⟨rfl, hd, hf, hl⟩
        simp [hd, hf, hl]
      simp [e1, r1, hln, hv0]
      refine callV_R cb32 (rprint_run hnn) ?_
      rintro _ H2 ⟨rfl, f2⟩
      have r2 : H2.get H.next = some (opB 2 n (.slice ra val.length val.length) p c q g) := by rw [f2.get l1, r1]
      simp [e1, r2, ha, blank, hb]
      refine callV_R cb33 (rhex_run (hv1.keep f2 (fun _ _ => id)) (by omega)) ?_
      rintro _ H3 ⟨rfl, f3⟩
      simp [e1, r1, r2, hc, eds, f1.trans (f2.trans f3)]
  · rw [if_pos (by decide)] at hM
    obtain rfl := h0 hM.2.1
    rw [prL_del]
    have ha := addD (dec n) (by omega)
    simp [e1, r1]
    refine callV_R cb32 (rprint_run hnn) ?_
    rintro _ H2 ⟨rfl, f2⟩
    simp [ha, eds, f1.trans f2]
  · rw [if_neg (by decide), if_neg (by decide), if_pos rfl] at hM
    obtain ⟨_, hz, _, hm⟩ := hM
    obtain rfl := h0 hz
    rw [prL_res]
    have htl := text_len hm
    have ha := addR (textOf p c q g) (by omega)
    simp [e1, r1, lc]
    refine callV_R cb34 (crprint_run hm) ?_
    rintro _ H2 ⟨f2, rfl⟩
    simp [ha, eds, f1.trans f2]
  · rw [if_neg (by decide), if_neg (by decide), if_neg (by decide), if_pos (by decide)] at hM
    obtain rfl := h0 hM.2.1
    rw [prL_sta]
    simp [e1, r1, eds, f1, staW]
  · rw [if_neg (by decide), if_neg (by decide), if_neg (by decide), if_pos (by decide)] at hM
    obtain rfl := h0 hM.2.1
    rw [prL_dum]
    simp [e1, r1, eds, f1, dumW]
end Go.Proofs.YtlbgincmndakmaaDoor.C

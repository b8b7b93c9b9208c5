/- The document's reading of an op. Own text of this session. -/
import Derived.Test.YtlbgincmndakmaaDoorOpB
set_option linter.unusedVariables false
set_option linter.unusedSimpArgs false
set_option maxRecDepth 4000
set_option maxHeartbeats 8000000
namespace Go.Proofs.YtlbgincmndakmaaDoor.C
open Go Go.RowKit Go.Proofs.YtlbgincmndakmaaDoorA Go.Proofs.YtlbgincmndakmaaDoor.Plain
variable {H : AH}
abbrev rdV (k : Int) (n : Nat) (sv : Value) (p c q g e : Int) : Value := .agg #[i64 k, u64 n, sv, i64 p, i64 c, i64 q, i64 g, i64 e]
abbrev rdB (k : Int) (n : Nat) (sv : Value) (p c q g e : Int) : ABlk := .cells [i64 k, u64 n, sv, i64 p, i64 c, i64 q, i64 g, i64 e] 40 true 0
theorem alloc40 (H : AH) : aAlloc Tryd.prog 40 H = some (ptr H.next, ⟨H.next + 1, upd H.get H.next (rdB 0 0 nilS 0 0 0 0 0)⟩) := by kernel_rfl
theorem build40 (k : Int) (n : Nat) (a : Option Addr) (x y : Nat) (p c q g e : Int) : aBuild Tryd.prog 40 [(0, opV k n (.slice a x y) p c q g), (1, i64 e)] = some (rdV k n (.slice a x y) p c q g e) := by kernel_rfl
theorem build29c (p c q g : Int) : aBuild Tryd.prog 29 [(0, i64 4), (3, cfg p c q g)] = some (opV 4 0 nilS p c q g) := by kernel_rfl
theorem build29n (k : Int) (n : Nat) : aBuild Tryd.prog 29 [(0, i64 k), (1, u64 n)] = some (opV k n nilS 0 0 0 0) := by kernel_rfl
theorem st40b {H : AH} {l : Nat} {k k' : Int} {n n' : Nat} {s s' : Value} {p c q g e p' c' q' g' e' : Int} (hg : H.get l = some (rdB k n s p c q g e)) (hs : isCell s' = true) : aStore Tryd.prog 40 (ptr l) (rdV k' n' s' p' c' q' g' e') H = some ⟨H.next, upd H.get l (rdB k' n' s' p' c' q' g' e')⟩ := by
  rw [st40 _ _ _ rfl]
  show H.wrs l 0 [i64 k', u64 n', s', i64 p', i64 c', i64 q', i64 g', i64 e'] = _
  rw [wrs_of hg (by simp) (by simp [hs]), setAll_all _ _ (by simp)]
theorem ld40b {H : AH} {l : Nat} {k : Int} {n : Nat} {s : Value} {p c q g e : Int} (hg : H.get l = some (rdB k n s p c q g e)) : aLoad Tryd.prog 40 (ptr l) H = some (rdV k n s p c q g e) := by
  rw [ld40, row_of hg (by simp)]
  simp
theorem ld29r {H : AH} {l : Nat} {k : Int} {n : Nat} {s : Value} {p c q g e : Int} (hg : H.get l = some (rdB k n s p c q g e)) : aLoad Tryd.prog 29 (ptr l) H = some (opV k n s p c q g) := by
  rw [ld29, row_of hg (by simp)]
  simp
theorem st24r {H : AH} {l : Nat} {k : Int} {n : Nat} {s s' : Value} {p c q g e : Int} (hg : H.get l = some (rdB k n s p c q g e)) (hs : isCell s' = true) : aStore Tryd.prog 24 (.pointer (some ⟨l, 2, none⟩)) s' H = some ⟨H.next, upd H.get l (rdB k n s' p c q g e)⟩ := by
  rw [st24 _ _ _ hs, wrs_of hg (by simp) (by simp [hs])]
  rfl
theorem fin40 {H H1 : AH} {l : Nat} (hl : H.next ≤ l) (f : Fresh H H1) {k k' : Int} {n n' : Nat} {s s' : Value} {p c q g e p' c' q' g' e' : Int} (hg : H1.get l = some (rdB k n s p c q g e)) (hs : isCell s' = true) :
    aStore Tryd.prog 40 (ptr l) (rdV k' n' s' p' c' q' g' e') H1 = some ⟨H1.next, upd H1.get l (rdB k' n' s' p' c' q' g' e')⟩ ∧ aLoad Tryd.prog 40 (ptr l) ⟨H1.next, upd H1.get l (rdB k' n' s' p' c' q' g' e')⟩ = some (rdV k' n' s' p' c' q' g' e') ∧ Fresh H ⟨H1.next, upd H1.get l (rdB k' n' s' p' c' q' g' e')⟩ :=
  ⟨st40b hg hs, ld40b (by simp), fresh_upd f hl⟩
theorem rkeyed_run {k : Int} {w : Bool} {sv : Value} {w0 w1 : List UInt8} {r : List (List UInt8)} {O : Option Nat} (hrow : Row 9 w H sv (strs (w0 :: w1 :: r)) O) : CallR cx 36 #[i64 k, sv] H (fun v H' => Fresh H H' ∧ v = if okN w1 = true then rdV k (rdN w1) nilS 0 0 0 0 0 else rdV 0 0 nilS 0 0 0 0 7) := by
  obtain ⟨ra, rfl, _⟩ := hrow.isSlice
  refine wk36 (by simp) ?_
  unfold c36
  simp only [strs_length, List.length_cons] at hrow ⊢
  refine aw_cut (fun t => t.env 0 = i64 k ∧ t.env 1 = .slice ra (r.length + 1 + 1) (r.length + 1 + 1) ∧ t.env 4 = ptr H.next ∧ t.ds = [] ∧ t.H = ⟨H.next + 1, upd H.get H.next (rdB 0 0 nilS 0 0 0 0 0)⟩) (by simp [alloc40]) ?_
  rintro ⟨env, H1, ds⟩ ⟨e0, e1, e4, eds, hH⟩
  simp only at e0 e1 e4 eds hH
  have f1 : Fresh H H1 := by rw [hH]; exact Fresh.ofNew
  have r1 : H1.get H.next = some (rdB 0 0 nilS 0 0 0 0 0) := by rw [hH]; simp
  have l1 : H.next < H1.next := by rw [hH]; simp
  clear hH
  have hrow1 := hrow.keep f1 (fun _ _ => id)
  have hc1 : (strs (w0 :: w1 :: r))[1]? = some (.string (str w1)) := rfl
  obtain ⟨lb, ob, cb, hrb, g3, g4, _⟩ := hrow1.cell hc1
  have hixb := ix54 lb ob (r.length + 1 + 1) (r.length + 1 + 1) .i64 1 (by omega) (by omega)
  refine aw_cut (fun t => t.env 0 = i64 k ∧ t.env 4 = ptr H.next ∧ t.env 5 = u64 (rdN w1 : Nat) ∧ t.env 6 = .bool (okN w1) ∧ t.ds = [] ∧ Fresh H1 t.H) ?_ ?_
  · simp [e1, hrb, hixb, g3, g4]
    refine callV_R cb58 (rread_run (l := w1)) ?_
    rintro v H2 ⟨f2, hv⟩
    obtain rfl := toldN hv
    simp [e0, e4, eds, f2]
  clear e0 e1 e4 eds
  rintro ⟨env, H2, ds⟩ ⟨e0, e4, e5, e6, eds, f2⟩
  simp only at e0 e4 e5 e6 eds f2
  have r2 : H2.get H.next = some (rdB 0 0 nilS 0 0 0 0 0) := by rw [f2.get l1, r1]
  cases hb : okN w1 with
  | false =>
    obtain ⟨a1, a2, a3⟩ := fin40 (k' := 0) (n' := 0) (s' := nilS) (p' := 0) (c' := 0) (q' := 0) (g' := 0) (e' := 7) (Nat.le_refl _) (f1.trans f2) r2 rfl
    rw [hb] at e6
    simp [e4, e6, build29, build40, a1, a2, eds, -st40, -ld40, -aBuild]
    exact a3
  | true =>
    obtain ⟨a1, a2, a3⟩ := fin40 (k' := k) (n' := rdN w1) (s' := nilS) (p' := 0) (c' := 0) (q' := 0) (g' := 0) (e' := 0) (Nat.le_refl _) (f1.trans f2) r2 rfl
    rw [hb] at e6
    simp [e0, e4, e5, e6, build29n, build40, a1, a2, eds, -st40, -ld40, -aBuild]
    exact a3
def RdR (x : Rd) (H : AH) (v : Value) : Prop := ∃ sv O, v = rdV x.k x.n sv x.p x.c x.q x.g x.e ∧ Row 5 true H sv (x.val.map u8v) O
theorem rdR_bad (e : Int) (H : AH) : RdR (bad e) H (rdV 0 0 nilS 0 0 0 0 e) := ⟨nilS, none, rfl, Row.nil⟩
theorem opT_keyed {k : Int} (hk : keyP k) {w1 : List UInt8} {r : List (List UInt8)} (h : ¬ (k = 2 ∧ r.length = 1)) : opT k (w1 :: r) = if okN w1 = true then ⟨k, rdN w1, [], 0, 0, 0, 0, 0⟩ else bad 7 := by
  have h4 : k ≠ 4 := by unfold keyP at hk; omega
  have ho : oT k (w1 :: r) = (0, 0, 0, 0, 0) := by rw [oT, if_neg h4]
  have hn : nU k (w1 :: r) = rdN w1 := by rw [nU, if_pos hk]; rfl
  have he : eU k (w1 :: r) = if okN w1 = true then 0 else 7 := by rw [eU, if_pos hk]; rfl
  have hv : vV k (w1 :: r) = ([], eU k (w1 :: r)) := by
    rw [vV, if_neg]
    rintro ⟨h1, h2, _⟩
    exact h ⟨h1, by simpa using h2⟩
  rw [opT, hv, he, ho, hn]
  cases okN w1 <;> simp
theorem opT_put {w1 w2 : List UInt8} : opT 2 [w1, w2] = if okN w1 = true then (if (valOf w2).2 = 0 then ⟨2, rdN w1, (valOf w2).1, 0, 0, 0, 0, 0⟩ else bad (valOf w2).2) else bad 7 := by
  have ho : oT 2 [w1, w2] = (0, 0, 0, 0, 0) := by rw [oT, if_neg (by decide)]
  have hn : nU 2 [w1, w2] = rdN w1 := by rw [nU, if_pos (by decide)]; rfl
  have he : eU 2 [w1, w2] = if okN w1 = true then 0 else 7 := by rw [eU, if_pos (by decide)]; rfl
  cases hb : okN w1 with
  | true =>
    rw [hb] at he
    have hv : vV 2 [w1, w2] = valOf w2 := by rw [vV, if_pos ⟨rfl, rfl, by simpa using he⟩]; rfl
    rw [opT, hv, ho, hn]
    simp
  | false =>
    rw [hb] at he
    have hv : vV 2 [w1, w2] = ([], 7) := by rw [vV, if_neg (by rw [he]; simp), he]; rfl
    rw [opT, hv]
    simp
theorem opT_res {tl : List (List UInt8)} : opT 4 tl = if (outOf (Lib.join tl [32])).2.2.2.2 = 0 then ⟨4, 0, [], (outOf (Lib.join tl [32])).1, (outOf (Lib.join tl [32])).2.1, (outOf (Lib.join tl [32])).2.2.1, (outOf (Lib.join tl [32])).2.2.2.1, 0⟩ else bad (outOf (Lib.join tl [32])).2.2.2.2 := by
  have ho : oT 4 tl = outOf (Lib.join tl [32]) := by rw [oT, if_pos rfl]
  have hn : nU 4 tl = 0 := by rw [nU, if_neg (by decide)]
  have he : eU 4 tl = (oT 4 tl).2.2.2.2 := by rw [eU, if_neg (by decide)]
  have hv : vV 4 tl = ([], (oT 4 tl).2.2.2.2) := by rw [vV, if_neg (by simp), he]
  rw [opT, hv, hn, ho]
theorem opT_bare {k : Int} (hk : k = 5 ∨ k = 6) : opT k [] = ⟨k, 0, [], 0, 0, 0, 0, 0⟩ := by
  have h4 : k ≠ 4 := by omega
  have hky : ¬ keyP k := by unfold keyP; omega
  have ho : oT k [] = (0, 0, 0, 0, 0) := by rw [oT, if_neg h4]
  have hn : nU k [] = 0 := by rw [nU, if_neg hky]
  have he : eU k [] = 0 := by rw [eU, if_neg hky, ho]
  have hv : vV k [] = ([], 0) := by rw [vV, if_neg (by simp), he]
  rw [opT, hv, hn, ho]
  simp
theorem rput_run {w : Bool} {sv : Value} {w0 w1 : List UInt8} {r : List (List UInt8)} {O : Option Nat} (hrow : Row 9 w H sv (strs (w0 :: w1 :: r)) O) (hr : r.length ≤ 1) (hx : ∀ x ∈ r, x.length < 100000) : CallR cx 37 #[sv] H (fun v H' => Fresh H H' ∧ RdR (opT 2 (w1 :: r)) H' v) := by
  obtain ⟨ra, rfl, _⟩ := hrow.isSlice
  refine wk37 (by simp) ?_
  unfold c37
  have hrow' := hrow
  simp only [strs_length, List.length_cons] at hrow ⊢
  refine aw_cut (fun t => t.env 0 = .slice ra (r.length + 1 + 1) (r.length + 1 + 1) ∧ t.env 2 = ptr H.next ∧ t.ds = [] ∧ t.H = ⟨H.next + 1, upd H.get H.next (rdB 0 0 nilS 0 0 0 0 0)⟩) (by simp [alloc40]) ?_
  rintro ⟨env, H1, ds⟩ ⟨e0, e2, eds, hH⟩
  simp only at e0 e2 eds hH
  have f1 : Fresh H H1 := by rw [hH]; exact Fresh.ofNew
  have r1 : H1.get H.next = some (rdB 0 0 nilS 0 0 0 0 0) := by rw [hH]; simp
  have l1 : H.next < H1.next := by rw [hH]; simp
  clear hH
  have hrow1 := hrow.keep f1 (fun _ _ => id)
  obtain ⟨k0, n0, e9, hkn⟩ : ∃ (k0 : Int) (n0 : Nat) (e9 : Int), (if okN w1 = true then rdV 2 (rdN w1) nilS 0 0 0 0 0 else rdV 0 0 nilS 0 0 0 0 7) = rdV k0 n0 nilS 0 0 0 0 e9 ∧ ((okN w1 = true ∧ k0 = 2 ∧ n0 = rdN w1 ∧ e9 = 0) ∨ (okN w1 = false ∧ k0 = 0 ∧ n0 = 0 ∧ e9 = 7)) := by
    cases hb : okN w1 with
    | true => exact ⟨2, rdN w1, 0, by simp, .inl ⟨rfl, rfl, rfl, rfl⟩⟩
    | false => exact ⟨0, 0, 7, by simp, .inr ⟨rfl, rfl, rfl, rfl⟩⟩
  obtain ⟨hkv, hkn⟩ := hkn
  refine aw_cut (fun t => t.env 0 = .slice ra (r.length + 1 + 1) (r.length + 1 + 1) ∧ t.env 2 = ptr H.next ∧ t.ds = [] ∧ Fresh H1 t.H ∧ ∃ l, t.env 3 = ptr l ∧ H1.next ≤ l ∧ l < t.H.next ∧ t.H.get l = some (rdB k0 n0 nilS 0 0 0 0 e9)) ?_ ?_
  · simp [e0]
    refine callV_R cb36 (rkeyed_run hrow1) ?_
    rintro v H2 ⟨f2, rfl⟩
    rw [hkv]
    have a1 : aStore Tryd.prog 40 (ptr H2.next) (rdV k0 n0 nilS 0 0 0 0 e9) ⟨H2.next + 1, upd H2.get H2.next (rdB 0 0 nilS 0 0 0 0 0)⟩ = some ⟨H2.next + 1, upd H2.get H2.next (rdB k0 n0 nilS 0 0 0 0 e9)⟩ := by
      rw [st40b (k := 0) (n := 0) (s := nilS) (p := 0) (c := 0) (q := 0) (g := 0) (e := 0) (by simp) rfl, updd]
    simp [alloc40, a1, e0, e2, eds, -st40, -ld40]
    exact ⟨f2.trans Fresh.ofNew, f2.1⟩
  clear e0 e2 eds
  rintro ⟨env, H2, ds⟩ ⟨e0, e2, eds, f2, l, e3, hl, hl2, r3⟩
  simp only at e0 e2 eds f2 e3 hl2 r3
  have r2 : H2.get H.next = some (rdB 0 0 nilS 0 0 0 0 0) := by rw [f2.get l1, r1]
  have hrow2 := hrow1.keep f2 (fun _ _ => id)
  rcases hkn with ⟨hb, rfl, rfl, rfl⟩ | ⟨hb, rfl, rfl, rfl⟩
  case inr =>
    have hop : opT 2 (w1 :: r) = bad 7 := by
      by_cases h : r.length = 1
      · obtain ⟨w2, rfl⟩ : ∃ w2, r = [w2] := by
          match r, h with
          | [w2], _ => exact ⟨w2, rfl⟩
        rw [opT_put, hb]; rfl
      · rw [opT_keyed (by decide) (fun x => h x.2), hb]; rfl
    obtain ⟨a1, a2, a3⟩ := fin40 (k' := 0) (n' := 0) (s' := nilS) (p' := 0) (c' := 0) (q' := 0) (g' := 0) (e' := 7) (Nat.le_refl _) (f1.trans f2) r2 rfl
    have a0 := ld40b r3
    rw [hop]
    simp [e2, e3, r3, a0, a1, a2, eds, -st40, -ld40]
    exact ⟨a3, rdR_bad 7 _⟩
  by_cases hr1 : r.length = 1
  case neg =>
    have hr0 : r = [] := List.length_eq_zero_iff.1 (by omega)
    subst hr0
    have hop : opT 2 [w1] = ⟨2, rdN w1, [], 0, 0, 0, 0, 0⟩ := by rw [opT_keyed (by decide) (by simp), hb]; rfl
    obtain ⟨a1, a2, a3⟩ := fin40 (k' := 2) (n' := rdN w1) (s' := nilS) (p' := 0) (c' := 0) (q' := 0) (g' := 0) (e' := 0) (Nat.le_refl _) (f1.trans f2) r2 rfl
    have a0 := ld40b r3
    rw [hop]
    simp at e0
    simp [e0, e2, e3, r3, a0, a1, a2, eds, -st40, -ld40]
    exact ⟨a3, nilS, none, rfl, Row.nil⟩
  obtain ⟨w2, rfl⟩ : ∃ w2, r = [w2] := by
    match r, hr1 with
    | [w2], _ => exact ⟨w2, rfl⟩
  have hop : opT 2 [w1, w2] = if (valOf w2).2 = 0 then ⟨2, rdN w1, (valOf w2).1, 0, 0, 0, 0, 0⟩ else bad (valOf w2).2 := by rw [opT_put, hb]; rfl
  rw [hop]
  simp only [List.length_cons, List.length_nil, Nat.zero_add, Nat.reduceAdd] at e0 hrow2
  have hc2 : (strs [w0, w1, w2])[2]? = some (.string (str w2)) := rfl
  obtain ⟨lb, ob, cb, hrb, g3, g4, _⟩ := hrow2.cell hc2
  have hixb := ix54 lb ob 3 3 .i64 2 (by omega) (by omega)
  have hw2 := hx w2 (by simp)
  refine aw_cut (fun t => t.env 0 = .slice ra 3 3 ∧ t.env 2 = ptr H.next ∧ t.env 3 = ptr l ∧ t.ds = [] ∧ t.H = H2) (by simp [e0, e2, e3, r3, eds]) ?_
  clear e0 e2 e3 eds
  rintro ⟨env, H3, ds⟩ ⟨e0, e2, e3, eds, hH⟩
  simp only at e0 e2 e3 eds hH
  subst hH
  refine aw_cut (fun t => t.env 2 = ptr H.next ∧ t.env 3 = ptr l ∧ t.env 5 = .bool (unhex w2).isSome ∧ t.ds = [] ∧ Fresh H3 t.H ∧ ∃ O, Row 5 true t.H (t.env 4) (((unhex w2).getD []).map u8v) O ∧ ∀ x, O = some x → H3.next ≤ x) ?_ ?_
  · simp [e0, hrb, hixb, g3, g4]
    refine callV_R cb59 (rreadHex_run (s := w2) (by omega)) ?_
    rintro v H4 ⟨f4, hv⟩
    obtain ⟨sv, O, rfl, h1, h2⟩ := toldH_shape hv
    simp [e2, e3, eds, f4]
    exact ⟨O, h1, h2⟩
  clear e0 e2 e3 eds
  rintro ⟨env, H4, ds⟩ ⟨e2, e3, e5, eds, f4, O2, hsv, hO2⟩
  simp only at e2 e3 e5 eds f4 hsv
  generalize e4 : env 4 = sv4 at hsv
  obtain ⟨rb, rfl, _⟩ := hsv.isSlice
  simp only [List.length_map] at hsv e4
  have r4 : H4.get H.next = some (rdB 0 0 nilS 0 0 0 0 0) := by rw [f4.get (Nat.lt_of_lt_of_le l1 f2.1), r2]
  have r4l : H4.get l = some (rdB 2 (rdN w1) nilS 0 0 0 0 0) := by rw [f4.get hl2, r3]
  have f14 := (f1.trans f2).trans f4
  have badE : ∀ e, (valOf w2) = ([], e) → e ≠ 0 → (if (valOf w2).2 = 0 then (⟨2, rdN w1, (valOf w2).1, 0, 0, 0, 0, 0⟩ : Rd) else bad (valOf w2).2) = bad e := fun e he h0 => by rw [he]; simp [h0]
  cases hu : unhex w2 with
  | none =>
    rw [badE 7 (by simp [valOf, hu]) (by decide)]
    obtain ⟨a1, a2, a3⟩ := fin40 (k' := 0) (n' := 0) (s' := nilS) (p' := 0) (c' := 0) (q' := 0) (g' := 0) (e' := 7) (Nat.le_refl _) f14 r4 rfl
    rw [hu] at e5 e4
    simp [e2, e4, e5, build29, build40, a1, a2, eds, -st40, -ld40, -aBuild]
    exact ⟨a3, rdR_bad 7 _⟩
  | some v2 =>
    rw [hu] at e5 e4 hsv
    simp only [Option.getD_some] at e4 hsv
    by_cases hl0 : v2 = []
    · rw [badE 7 (by simp [valOf, hu, hl0]) (by decide)]
      obtain ⟨a1, a2, a3⟩ := fin40 (k' := 0) (n' := 0) (s' := nilS) (p' := 0) (c' := 0) (q' := 0) (g' := 0) (e' := 7) (Nat.le_refl _) f14 r4 rfl
      subst hl0
      simp [e2, e4, e5, build29, build40, a1, a2, eds, -st40, -ld40, -aBuild]
      exact ⟨a3, rdR_bad 7 _⟩
    have hln : ¬ v2.length = 0 := fun h => hl0 (List.length_eq_zero_iff.1 h)
    by_cases hl1 : 1024 < v2.length
    · rw [badE 6 (by simp [valOf, hu, hl0, hl1]) (by decide)]
      have hli : (1024 : Int) < v2.length := by omega
      obtain ⟨a1, a2, a3⟩ := fin40 (k' := 0) (n' := 0) (s' := nilS) (p' := 0) (c' := 0) (q' := 0) (g' := 0) (e' := 6) (Nat.le_refl _) f14 r4 rfl
      simp [e2, e4, e5, hl0, hln, hl1, hli, build29, build40, a1, a2, eds, -st40, -ld40, -aBuild]
      exact ⟨a3, rdR_bad 6 _⟩
    · have hv : valOf w2 = (v2, 0) := by simp [valOf, hu, hl0, hl1]
      have hli : ¬ (1024 : Int) < v2.length := by omega
      rw [hv]
      have a0 := st24r (s' := .slice rb v2.length v2.length) r4l rfl
      have a0' : aLoad Tryd.prog 40 (ptr l) ⟨H4.next, upd H4.get l (rdB 2 (rdN w1) (.slice rb v2.length v2.length) 0 0 0 0 0)⟩ = some (rdV 2 (rdN w1) (.slice rb v2.length v2.length) 0 0 0 0 0) := ld40b (by simp)
      have hne : ¬ H.next = l := by omega
      have r4' : (⟨H4.next, upd H4.get l (rdB 2 (rdN w1) (.slice rb v2.length v2.length) 0 0 0 0 0)⟩ : AH).get H.next = some (rdB 0 0 nilS 0 0 0 0 0) := by simp [hne, r4]
      obtain ⟨a1, a2, a3⟩ := fin40 (k' := 2) (n' := rdN w1) (s' := .slice rb v2.length v2.length) (p' := 0) (c' := 0) (q' := 0) (g' := 0) (e' := 0) (Nat.le_refl _) (fresh_upd f14 (by omega)) r4' rfl
      have hsv' := (hsv.keep (S := fun z => z = l) (H' := ⟨H4.next, upd H4.get l (rdB 2 (rdN w1) (.slice rb v2.length v2.length) 0 0 0 0 0)⟩) ⟨Nat.le_refl _, fun z _ hz => by simp at hz; simp [hz]⟩ (fun z hz hzz => by have := hO2 z hz; omega)).keep (S := fun z => z = H.next) (H' := ⟨H4.next, upd (upd H4.get l (rdB 2 (rdN w1) (.slice rb v2.length v2.length) 0 0 0 0 0)) H.next (rdB 2 (rdN w1) (.slice rb v2.length v2.length) 0 0 0 0 0)⟩) ⟨Nat.le_refl _, fun z _ hz => by simp at hz; simp [hz]⟩ (fun z hz hzz => by have := hO2 z hz; have := f2.1; omega)
      simp [e2, e3, e4, e5, hl0, hln, hl1, hli, a0, a0', a1, a2, eds, -st40, -ld40, -st24]
      exact ⟨a3, _, O2, rfl, hsv'⟩
end Go.Proofs.YtlbgincmndakmaaDoor.C

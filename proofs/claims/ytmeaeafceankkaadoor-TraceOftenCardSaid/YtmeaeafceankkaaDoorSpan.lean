/- What a word of a trace stands for. Own text of this session. -/
import Derived.Test.YtmeaeafceankkaaDoorCut
import Derived.Test.YtmeaeafceankkaaDoorA20
set_option linter.unusedVariables false
set_option linter.unusedSimpArgs false
set_option maxRecDepth 4000
set_option maxHeartbeats 4000000
namespace Go.Proofs.YtmeaeafceankkaaDoor.C
open Go Go.RowKit Go.Proofs.YtmeaeafceankkaaDoorA Go.Proofs.YtmeaeafceankkaaDoor.Plain
variable {H : AH}
theorem fresh_upd' {H H' : AH} {b : ABlk} {l : Nat} (h : Fresh H H') (hl : H.next ≤ l) : Fresh H ⟨H'.next, upd H'.get l b⟩ := ⟨h.1, fun x hx _ => by
  have : ¬ x = l := by omega
  simp only [upd_get, this, if_false]
  exact h.get hx⟩
theorem fresh_new' {H H' : AH} {b : ABlk} (h : Fresh H H') : Fresh H ⟨H'.next + 1, upd H'.get H'.next b⟩ := h.trans Fresh.ofNew
-- pairs
abbrev prB (ok : Bool) (a b : Int) : ABlk := .cells [.bool ok, u64 a, u64 b] 62 true 0
abbrev prV (ok : Bool) (a b : Int) : Value := .agg #[.bool ok, u64 a, u64 b]
theorem alloc62 (H : AH) : aAlloc Tryd.prog 62 H = some (ptr H.next, ⟨H.next + 1, upd H.get H.next (prB false 0 0)⟩) := by kernel_rfl
theorem build62 : aBuild Tryd.prog 62 [] = some (prV false 0 0) := by kernel_rfl
theorem build62a (ok : Bool) (a b : Int) : aBuild Tryd.prog 62 [(0, .bool ok), (1, u64 a), (2, u64 b)] = some (prV ok a b) := by kernel_rfl
theorem st62b {H : AH} {l : Nat} {o o' : Bool} {a b a' b' : Int} (hg : H.get l = some (prB o a b)) : aStore Tryd.prog 62 (ptr l) (prV o' a' b') H = some ⟨H.next, upd H.get l (prB o' a' b')⟩ := by
  rw [st62 _ _ _ rfl]
  show H.wrs l 0 [.bool o', u64 a', u64 b'] = _
  rw [wrs_of hg (by simp) (by simp), setAll_all _ _ (by simp)]
theorem ld62b {H : AH} {l : Nat} {o : Bool} {a b : Int} (hg : H.get l = some (prB o a b)) : aLoad Tryd.prog 62 (ptr l) H = some (prV o a b) := by
  rw [ld62, row_of hg (by simp)]
  simp
-- spans
abbrev spB (k m : Int) (r : Bool) : ABlk := .cells [u64 k, u64 m, .bool r] 53 true 0
abbrev spV (k m : Int) (r : Bool) : Value := .agg #[u64 k, u64 m, .bool r]
theorem alloc53 (H : AH) : aAlloc Tryd.prog 53 H = some (ptr H.next, ⟨H.next + 1, upd H.get H.next (spB 0 0 false)⟩) := by kernel_rfl
theorem build53 : aBuild Tryd.prog 53 [] = some (spV 0 0 false) := by kernel_rfl
theorem build53a (k m : Int) (r : Bool) : aBuild Tryd.prog 53 [(0, u64 k), (1, u64 m), (2, .bool r)] = some (spV k m r) := by kernel_rfl
theorem st53b {H : AH} {l : Nat} {r r' : Bool} {k m k' m' : Int} (hg : H.get l = some (spB k m r)) : aStore Tryd.prog 53 (ptr l) (spV k' m' r') H = some ⟨H.next, upd H.get l (spB k' m' r')⟩ := by
  rw [st53 _ _ _ rfl]
  show H.wrs l 0 [u64 k', u64 m', .bool r'] = _
  rw [wrs_of hg (by simp) (by simp), setAll_all _ _ (by simp)]
theorem ld53b {H : AH} {l : Nat} {r : Bool} {k m : Int} (hg : H.get l = some (spB k m r)) : aLoad Tryd.prog 53 (ptr l) H = some (spV k m r) := by
  rw [ld53, row_of hg (by simp)]
  simp
/-- ref.pair -/
theorem rpair_run {l : List UInt8} {c : UInt8} (hl : l.length < 100000000) : CallR cx 31 #[.string (str l), .int .u8 (c.toNat : Int)] H (fun v H' => v = prV (pairF l c).2.2 ((pairF l c).1 : Nat) ((pairF l c).2.1 : Nat) ∧ Fresh H H') := by
  refine wk31 (by simp) ?_
  unfold c31
  refine aw_cut (fun t => t.env 0 = .string (str l) ∧ t.env 1 = .int .u8 (c.toNat : Int) ∧ t.env 4 = ptr H.next ∧ t.ds = [] ∧ t.H = ⟨H.next + 1, upd H.get H.next (prB false 0 0)⟩) (by simp [alloc62]) ?_
  rintro ⟨env, H1, ds⟩ ⟨e0, e1, e4, eds, hH⟩
  simp only at e0 e1 e4 eds hH
  have f1 : Fresh H H1 := by rw [hH]; exact Fresh.ofNew
  have r1 : H1.get H.next = some (prB false 0 0) := by rw [hH]; simp
  have l1 : H.next < H1.next := by rw [hH]; simp
  clear hH
  have fin : ∀ {H2 : AH} (o : Bool) (a b : Int), Fresh H1 H2 → aStore Tryd.prog 62 (ptr H.next) (prV o a b) H2 = some ⟨H2.next, upd H2.get H.next (prB o a b)⟩ ∧ aLoad Tryd.prog 62 (ptr H.next) ⟨H2.next, upd H2.get H.next (prB o a b)⟩ = some (prV o a b) ∧ Fresh H ⟨H2.next, upd H2.get H.next (prB o a b)⟩ := by
    intro H2 o a b f
    exact ⟨st62b (by rw [f.get l1, r1]), ld62b (by simp), fresh_upd' (f1.trans f) (Nat.le_refl _)⟩
  obtain ⟨n, hn, hlt, hcase⟩ : ∃ n, n ≤ l.length ∧ (∀ m, m < n → l[m]? ≠ some c) ∧ ((n = l.length ∧ (cutF l c).2.2 = false) ∨ (n < l.length ∧ l[n]? = some c ∧ cutF l c = (l.take n, l.drop (n + 1), true))) := by
    rcases idx_spec c l with ⟨h1, h2⟩ | ⟨n, h1, h2, h3, h4⟩
    · refine ⟨l.length, Nat.le_refl _, fun m hm e => h2 (List.mem_of_getElem? e), .inl ⟨rfl, ?_⟩⟩
      simp [cutF, h1]
    · have hn0 : ¬ (n : Int) < 0 := by omega
      exact ⟨n, by omega, h4, .inr ⟨h2, h3, by simp [cutF, h1, hn0]⟩⟩
  refine aw_cut (fun t => t.env 4 = ptr H.next ∧ t.ds = [] ∧ Fresh H1 t.H ∧ n = l.length ∧ (cutF l c).2.2 = false) ?_ ?_
  · simp
    refine aw_loop_to n (fun k t => t.env 0 = .string (str l) ∧ t.env 1 = .int .u8 (c.toNat : Int) ∧ t.env 4 = ptr H.next ∧ t.env 5 = i64 (k : Nat) ∧ t.ds = [] ∧ t.H = H1) ?_ ?_ ?_
    · clear e0 e1 e4 eds
      rintro k ⟨env, H2, ds⟩ hk ⟨e0, e1, e4, e5, eds, hH⟩
      simp only at e0 e1 e4 e5 eds hH
      subst hH
      have hkl : k < l.length := by omega
      have hkI : (k : Int) < l.length := by omega
      have hw := w64 (n := (k : Int) + 1) (by omega)
      have hne : ¬ ((l[k].toNat : Nat) : Int) = ((c.toNat : Nat) : Int) := fun e => hlt k hk (by
        rw [List.getElem?_eq_getElem hkl]
        have : l[k].toNat = c.toNat := by omega
        rw [UInt8.toNat_inj.1 this])
      have hix := idxW l k hkl
      generalize ((l[k].toNat : Nat) : Int) = y at hne hix
      simp [e0, e1, e4, e5, hkl, hkI, hix, hne, hw, eds]
    · clear e0 e1 e4 eds
      rintro ⟨env, H2, ds⟩ ⟨e0, e1, e4, e5, eds, hH⟩
      simp only at e0 e1 e4 e5 eds hH
      subst hH
      rcases hcase with ⟨h1, h2⟩ | ⟨h1, h2, h3⟩
      · have hle : ¬ (n : Int) < l.length := by omega
        have hle' : ¬ n < l.length := by omega
        simp [e0, e1, e4, e5, hle, hle', eds, Fresh.refl]
        exact ⟨h1, h2⟩
      · have hnI : (n : Int) < l.length := by omega
        have hix := idxW l n h1
        have hc : l[n] = c := by rw [List.getElem?_eq_getElem h1] at h2; simpa using h2
        rw [hc] at hix
        obtain ⟨n1, hn1⟩ : ∃ n1, n1 = n + 1 := ⟨_, rfl⟩
        have hw : IntKind.i64.wrap ((n : Int) + 1) = (n1 : Int) := by rw [w64 (by omega)]; omega
        have s1 := fun H => aSlice_str (P := Tryd.prog) (t := 9) un9 l (lo := none) (hi := some (i64 (n : Nat))) (a := 0) (b := n) (H := H) (by simp [bnd]; omega) (by simp [bnd]) (by omega) (by omega)
        have s2 := fun H => aSlice_str (P := Tryd.prog) (t := 9) un9 l (lo := some (i64 (n1 : Nat))) (hi := none) (a := n1) (b := l.length) (H := H) (by simp [bnd]) (by simp [bnd]; omega) (by omega) (by omega)
        rw [List.take_of_length_le (Nat.le_refl _)] at s2
        rw [List.drop_zero] at s1
        have hpf : pairF l c = (rdN (l.take n), rdN (l.drop n1), okN (l.take n) && okN (l.drop n1)) := by rw [pairF, h3, hn1]; rfl
        rw [hpf]
        generalize l.take n = x at s1
        generalize l.drop n1 = z at s2
        simp [e0, e1, e4, e5, h1, hnI, hix, s1]
        refine callV_R cb30 (rread_run (l := x)) ?_
        rintro v H3 ⟨f3, hv⟩
        obtain rfl := toldN hv
        simp [e0, e5, hw, s2]
        refine callV_R cb30 (rread_run (l := z)) ?_
        rintro v H4 ⟨f4, hv⟩
        obtain rfl := toldN hv
        obtain ⟨b1, b2, b3⟩ := fin (okN x && okN z) (rdN x : Nat) (rdN z : Nat) (f3.trans f4)
        cases hx : okN x with
        | false =>
          rw [hx] at b1 b2 b3
          simp only [Bool.false_and] at b1 b2 b3
          simp [e4, build62a, b1, b2, eds, -aBuild, -ld62, -st62]
          exact b3
        | true =>
          rw [hx] at b1 b2 b3
          simp only [Bool.true_and] at b1 b2 b3
          simp [e4, build62a, b1, b2, eds, -aBuild, -ld62, -st62]
          exact b3
    · simp [e0, e1, e4, eds]
  clear e0 e1 e4 eds
  rintro ⟨env, H2, ds⟩ ⟨e4, eds, f2, h1, h2⟩
  simp only at e4 eds f2
  obtain ⟨b1, b2, b3⟩ := fin false 0 0 f2
  have hpf : pairF l c = (0, 0, false) := by rw [pairF, h2]; rfl
  simp [e4, hpf, build62, b1, b2, eds, -aBuild, -ld62, -st62]
  exact b3
/-- what a word stands for: a key, how many, whether they rise, and whether it is one -/
noncomputable def spanF (w : List UInt8) : Nat × Nat × Bool × Bool :=
  if okN w = true then (rdN w, 1, false, true)
  else if (pairF w 42).2.2 = true ∧ 2 ≤ (pairF w 42).2.1 then ((pairF w 42).1, (pairF w 42).2.1, false, true)
  else if (pairF w 45).2.2 = true ∧ (pairF w 45).1 < (pairF w 45).2.1 then ((pairF w 45).1, (pairF w 45).2.1 - (pairF w 45).1, true, true)
  else (0, 0, false, false)
theorem pairF_lt (l : List UInt8) (c : UInt8) : (pairF l c).1 < 18446744073709551616 ∧ (pairF l c).2.1 < 18446744073709551616 := by
  unfold pairF
  split
  · exact ⟨rdN_lt _, rdN_lt _⟩
  · exact ⟨by decide, by decide⟩
/-- trace.read -/
theorem tread_run {w : List UInt8} (hl : w.length < 100000000) : CallR cx 24 #[.string (str w)] H (fun v H' => v = .tuple #[spV ((spanF w).1 : Nat) ((spanF w).2.1 : Nat) (spanF w).2.2.1, .bool (spanF w).2.2.2] ∧ Fresh H H') := by
  refine wk24 (by simp) ?_
  have fin : ∀ (k m : Int) (r : Bool), aStore Tryd.prog 53 (ptr H.next) (spV k m r) ⟨H.next + 1, upd H.get H.next (spB 0 0 false)⟩ = some ⟨H.next + 1, upd (upd H.get H.next (spB 0 0 false)) H.next (spB k m r)⟩ ∧ aLoad Tryd.prog 53 (ptr H.next) ⟨H.next + 1, upd (upd H.get H.next (spB 0 0 false)) H.next (spB k m r)⟩ = some (spV k m r) ∧ Fresh H ⟨H.next + 1, upd (upd H.get H.next (spB 0 0 false)) H.next (spB k m r)⟩ := by
    intro k m r
    exact ⟨st53b (k := 0) (m := 0) (r := false) (by simp), ld53b (by simp), fresh_upd' Fresh.ofNew (Nat.le_refl _)⟩
  have hp42 := fun H => pair_run (H := H) (l := w) (c := 42) hl
  have hp45 := fun H => pair_run (H := H) (l := w) (c := 45) hl
  simp [c24, alloc53]
  refine callV_R cb43 (read_run (l := w)) ?_
  rintro v H2 ⟨hH, hv⟩
  subst hH
  obtain rfl := toldN hv
  cases hok : okN w with
  | true =>
    obtain ⟨b1, b2, b3⟩ := fin (rdN w : Nat) 1 false
    simp [build53a, b1, b2, spanF, hok, -aBuild, -ld53, -st53]
    exact b3
  | false =>
    simp
    refine callV_R cb44 (hp42 _) ?_
    rintro _ H3 ⟨rfl, hH⟩
    subst hH
    have hb42 := pairF_lt w 42
    have hb45 := pairF_lt w 45
    have hsp : spanF w = (if (pairF w 42).2.2 = true ∧ 2 ≤ (pairF w 42).2.1 then ((pairF w 42).1, (pairF w 42).2.1, false, true)
      else if (pairF w 45).2.2 = true ∧ (pairF w 45).1 < (pairF w 45).2.1 then ((pairF w 45).1, (pairF w 45).2.1 - (pairF w 45).1, true, true)
      else (0, 0, false, false)) := by rw [spanF, hok]; rfl
    rw [hsp]
    generalize pairF w 42 = p at hb42
    generalize pairF w 45 = q at hp45 hb45
    obtain ⟨pa, pb, po⟩ := p
    obtain ⟨qa, qb, qo⟩ := q
    simp only at hb42 hb45
    by_cases h1 : po = true ∧ 2 ≤ pb
    · obtain ⟨rfl, h2⟩ := h1
      have h2I : (2 : Int) ≤ pb := by omega
      obtain ⟨b1, b2, b3⟩ := fin (pa : Nat) (pb : Nat) false
      simp [h2, h2I, build53a, b1, b2, -aBuild, -ld53, -st53]
      exact b3
    · rw [if_neg h1]
      cases po with
      | false =>
        simp
        refine callV_R cb44 (hp45 _) ?_
        rintro _ H4 ⟨rfl, hH⟩
        subst hH
        cases qo with
        | false =>
          obtain ⟨b1, b2, b3⟩ := fin 0 0 false
          simp [build53, b1, b2, -aBuild, -ld53, -st53]
          exact b3
        | true =>
          by_cases h3 : qa < qb
          · have h3I : (qa : Int) < qb := by omega
            obtain ⟨d, hd⟩ : ∃ d, d = qb - qa := ⟨_, rfl⟩
            have hw : IntKind.u64.wrap ((qb : Int) - (qa : Int)) = (d : Int) := by
              simp [IntKind.wrap, IntKind.bits, IntKind.signed]
              omega
            obtain ⟨b1, b2, b3⟩ := fin (qa : Nat) (d : Nat) true
            simp [h3, h3I, hw, build53a, b1, b2, ← hd, -aBuild, -ld53, -st53]
            exact b3
          · have h3I : ¬ (qa : Int) < qb := by omega
            obtain ⟨b1, b2, b3⟩ := fin 0 0 false
            simp [h3, h3I, build53, b1, b2, -aBuild, -ld53, -st53]
            exact b3
      | true =>
        have h2I : ¬ (2 : Int) ≤ pb := fun h => h1 ⟨rfl, by omega⟩
        simp [h2I]
        refine callV_R cb44 (hp45 _) ?_
        rintro _ H4 ⟨rfl, hH⟩
        subst hH
        cases qo with
        | false =>
          obtain ⟨b1, b2, b3⟩ := fin 0 0 false
          simp [build53, b1, b2, -aBuild, -ld53, -st53]
          exact b3
        | true =>
          by_cases h3 : qa < qb
          · have h3I : (qa : Int) < qb := by omega
            obtain ⟨d, hd⟩ : ∃ d, d = qb - qa := ⟨_, rfl⟩
            have hw : IntKind.u64.wrap ((qb : Int) - (qa : Int)) = (d : Int) := by
              simp [IntKind.wrap, IntKind.bits, IntKind.signed]
              omega
            obtain ⟨b1, b2, b3⟩ := fin (qa : Nat) (d : Nat) true
            simp [h3, h3I, hw, build53a, b1, b2, ← hd, -aBuild, -ld53, -st53]
            exact b3
          · have h3I : ¬ (qa : Int) < qb := by omega
            obtain ⟨b1, b2, b3⟩ := fin 0 0 false
            simp [h3, h3I, build53, b1, b2, -aBuild, -ld53, -st53]
            exact b3
end Go.Proofs.YtmeaeafceankkaaDoor.C

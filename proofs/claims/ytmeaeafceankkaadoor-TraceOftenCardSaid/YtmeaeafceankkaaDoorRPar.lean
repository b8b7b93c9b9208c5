/- Parsing a trace: the document's. Own text of this session. -/
import Derived.Test.YtmeaeafceankkaaDoorParse
set_option linter.unusedVariables false
set_option linter.unusedSimpArgs false
set_option maxRecDepth 4000
set_option maxHeartbeats 8000000
namespace Go.Proofs.YtmeaeafceankkaaDoor.C
open Go Go.RowKit Go.Proofs.YtmeaeafceankkaaDoorA Go.Proofs.YtmeaeafceankkaaDoor.Plain
variable {H : AH}
def many2 (m : Nat) (r : Bool) : Nat := if r then (if m < 5000 then m + 1 else m) else m
theorem many2_big {m o : Nat} {r : Bool} (ho : o ≤ 4096) : (4096 - o < many m r) ↔ (4096 < many2 m r ∨ 4096 < o + many2 m r) := by
  cases r
  · simp [many, many2]; omega
  · simp only [many, many2, if_true]
    by_cases h : m < 5000
    · rw [if_pos h]; omega
    · rw [if_neg h]; omega
theorem many2_eq {m o : Nat} {r : Bool} (ho : o ≤ 4096) (h : ¬ 4096 - o < many m r) : many2 m r = many m r := by
  cases r
  · simp [many, many2]
  · simp only [many, many2, if_true] at *
    by_cases h : m < 5000
    · rw [if_pos h]; omega
    · rw [if_neg h]; omega
/-- what stands behind a word's reading -/
def SpM (sp : Nat × Nat × Bool × Bool) (a b c : Value) : Prop := ∃ (key m : Nat) (r : Bool), sp = (key, m, r, true) ∧ a = u64 (key : Nat) ∧ b = u64 (many2 m r : Nat) ∧ c = u64 (bif r then 1 else 0)
/-- ref.Parse -/
theorem rParse_run {s : List UInt8} (hs : s.length < 100000) : CallR cx 12 #[.string (str s)] H (fun v H' => Fresh H H' ∧ ∃ gv O, v = .tuple #[gv, i64 ((parse s).2 : Nat)] ∧ Row 39 true H' gv (gcells (parse s).1) O) := by
  refine wk12 (by simp) ?_
  by_cases h0 : s = []
  · subst h0
    simp [c12, parse, Fresh.refl]
    exact ⟨none, Row.nil⟩
  have hps : parse s = parseF (splitL 32 s) [] := by rw [parse, if_neg h0]
  rw [hps]
  have hwl := splitL_le 32 s
  have hsh := splitL_short 32 s
  have hwords := rwords_run (H := H) (s := s) (by omega)
  generalize hws : splitL 32 s = ws at hwl hsh hwords
  simp [c12, h0]
  refine callV_R cb29 hwords ?_
  rintro wv H1 ⟨f1, Ow, hrow, hOw⟩
  obtain ⟨ra, rfl, _⟩ := hrow.isSlice
  simp only [strs_length] at hrow
  simp
  refine aw_loop_to ws.length (fun k t => t.env 5 = .slice ra ws.length ws.length ∧ t.env 6 = i64 (k : Nat) ∧ t.ds = [] ∧ Fresh H1 t.H ∧ ∃ out O, Row 39 true t.H (t.env 4) (gcells out) O ∧ (∀ x, O = some x → H1.next ≤ x) ∧ out.length ≤ 4096 ∧ parseF ws [] = parseF (ws.drop k) out) ?_ ?_ ?_
  · rintro k ⟨env, H2, ds⟩ hk ⟨e5, e6, eds, f2, out, O, hout, hO, hol, hp⟩
    simp only at e5 e6 eds f2 hout
    generalize e4 : env 4 = ov at hout
    obtain ⟨ro, rfl, _⟩ := hout.isSlice
    simp only [List.length_map] at hout e4
    have hkN : (k : Int) < ws.length := by omega
    have hwk := w64 (n := (k : Int) + 1) (by omega)
    have hrow2 := hrow.keep f2 (fun _ _ => id)
    obtain ⟨la, oa, ca, hra, g1, g2, _⟩ := hrow2.cell (i := k) (x := .string (str ws[k])) (by simp [strs, hk])
    have hix := ix47 la oa ws.length ws.length .i64 (k : Int) (by omega) hkN
    rw [Int.toNat_natCast] at hix
    have hdr : ws.drop k = ws[k] :: ws.drop (k + 1) := List.drop_eq_getElem_cons hk
    have hwlen := hsh _ (List.getElem_mem hk)
    have gK := fun (H3 : AH) (f : Fresh H2 H3) => (hrow2.keep f (fun _ _ => id)).cell (i := k) (x := .string (str ws[k])) (by simp [strs, hk])
    generalize ws[k] = w at g2 hdr hwlen gK
    have hlt := span_lt w
    have hpw : parseF ws [] = (if (spanF w).2.2.2 = false then ([], 7) else if 4096 - out.length < many (spanF w).2.1 (spanF w).2.2.1 then ([], 6) else parseF (ws.drop (k + 1)) (out ++ keysOf (spanF w).1 (many (spanF w).2.1 (spanF w).2.2.1) (spanF w).2.2.1)) := by rw [hp, hdr, parseF]
    have gL : ∀ H3 : AH, Fresh H2 H3 → ∃ cs, H3.get la = some (.cells cs 9 true 1) ∧ cs[oa + k]? = some (.string (str w)) := by
      intro H3 f
      obtain ⟨l, o, cs, hr', q1, q2, _⟩ := gK H3 f
      rw [hra] at hr'
      cases hr'
      exact ⟨cs, q1, q2⟩
    simp [e5, e6, hk, hkN, hra, hix, g1, g2]
    refine callV_R cb30 (rread_run (l := w)) ?_
    rintro v H3 ⟨f3, hv⟩
    obtain rfl := toldN hv
    obtain ⟨c3, q3, w3⟩ := gL H3 f3
    obtain ⟨okw, hokw⟩ : ∃ okw, okw = okN w := ⟨_, rfl⟩
    rw [← hokw]
    simp [eds]
    refine onBool_join (fun t => t.env 4 = .slice ro out.length out.length ∧ t.env 5 = .slice (some ⟨la, oa, none⟩) ws.length ws.length ∧ t.env 6 = i64 (k : Nat) ∧ t.ds = [] ∧ Fresh H2 t.H ∧ SpM (spanF w) (t.env 7) (t.env 9) (t.env 10)) ?_ ?_
    · cases okw with
      | true =>
        simp [e4, e5, e6, hra, eds]
        exact ⟨f3, rdN w, 1, false, by rw [spanF, ← hokw]; rfl, rfl, rfl, rfl⟩
      | false =>
        have hp42 := fun H => rpair_run (H := H) (l := w) (c := 42) (by omega)
        have hp45 := fun H => rpair_run (H := H) (l := w) (c := 45) (by omega)
        rw [show ((42 : UInt8).toNat : Int) = 42 from rfl] at hp42
        rw [show ((45 : UInt8).toNat : Int) = 45 from rfl] at hp45
        have hsp : spanF w = (if (pairF w 42).2.2 = true ∧ 2 ≤ (pairF w 42).2.1 then ((pairF w 42).1, (pairF w 42).2.1, false, true)
          else if (pairF w 45).2.2 = true ∧ (pairF w 45).1 < (pairF w 45).2.1 then ((pairF w 45).1, (pairF w 45).2.1 - (pairF w 45).1, true, true)
          else (0, 0, false, false)) := by rw [spanF, ← hokw]; rfl
        have hb42 := pairF_lt w 42
        have hb45 := pairF_lt w 45
        rw [hsp] at hpw
        rw [hsp]
        clear hsp hlt
        generalize pairF w 42 = p at hp42 hb42 hpw
        generalize pairF w 45 = q at hp45 hb45 hpw
        obtain ⟨pa, pb, po⟩ := p
        obtain ⟨qa, qb, qo⟩ := q
        simp only at hb42 hb45
        simp [e5, e6, hk, hkN, hra, hix, q3, w3]
        refine callV_R cb31 (hp42 _) ?_
        rintro _ H4 ⟨rfl, f4⟩
        have hst : aStore Tryd.prog 62 (ptr H4.next) (prV po (pa : Nat) (pb : Nat)) ⟨H4.next + 1, upd H4.get H4.next (prB false 0 0)⟩ = some ⟨H4.next + 1, upd (upd H4.get H4.next (prB false 0 0)) H4.next (prB po (pa : Nat) (pb : Nat))⟩ := st62b (o := false) (a := 0) (b := 0) (by simp)
        obtain ⟨H5, hH5⟩ : ∃ H5 : AH, H5 = ⟨H4.next + 1, upd (upd H4.get H4.next (prB false 0 0)) H4.next (prB po (pa : Nat) (pb : Nat))⟩ := ⟨_, rfl⟩
        rw [← hH5] at hst
        have f5 : Fresh H4 H5 := by rw [hH5]; exact fresh_upd' Fresh.ofNew (Nat.le_refl _)
        have rB : H5.get H4.next = some (prB po (pa : Nat) (pb : Nat)) := by rw [hH5]; simp
        have lB : H4.next < H5.next := by rw [hH5]; simp
        clear hH5
        have f25 := (f3.trans f4).trans f5
        obtain ⟨c5, q5, w5⟩ := gL H5 f25
        simp [e5, e6, hk, hkN, hra, hix, alloc62, hst, q5, w5, -st62]
        refine callV_R cb31 (hp45 _) ?_
        rintro _ H6 ⟨rfl, f6⟩
        have hst' : aStore Tryd.prog 62 (ptr H6.next) (prV qo (qa : Nat) (qb : Nat)) ⟨H6.next + 1, upd H6.get H6.next (prB false 0 0)⟩ = some ⟨H6.next + 1, upd (upd H6.get H6.next (prB false 0 0)) H6.next (prB qo (qa : Nat) (qb : Nat))⟩ := st62b (o := false) (a := 0) (b := 0) (by simp)
        obtain ⟨H7, hH7⟩ : ∃ H7 : AH, H7 = ⟨H6.next + 1, upd (upd H6.get H6.next (prB false 0 0)) H6.next (prB qo (qa : Nat) (qb : Nat))⟩ := ⟨_, rfl⟩
        rw [← hH7] at hst'
        have f7 : Fresh H6 H7 := by rw [hH7]; exact fresh_upd' Fresh.ofNew (Nat.le_refl _)
        have rC : H7.get H6.next = some (prB qo (qa : Nat) (qb : Nat)) := by rw [hH7]; simp
        clear hH7
        have rB7 : H7.get H4.next = some (prB po (pa : Nat) (pb : Nat)) := by rw [(f6.trans f7).get lB, rB]
        have f27 := f25.trans (f6.trans f7)
        simp [alloc62, hst', rB7, rC, -st62]
        by_cases h1 : po = true ∧ 2 ≤ pb
        · obtain ⟨rfl, h2⟩ := h1
          have h2I : (2 : Int) ≤ pb := by omega
          simp [h2, h2I, rB7, e4, e5, e6, hra, eds]
          exact ⟨f27, pa, pb, false, by simp [h2], rfl, rfl, rfl⟩
        rw [if_neg h1] at hpw ⊢
        by_cases h3 : qo = true ∧ qa < qb
        · obtain ⟨rfl, h4⟩ := h3
          have h4I : (qa : Int) < qb := by omega
          obtain ⟨d, hd⟩ : ∃ d, d = qb - qa := ⟨_, rfl⟩
          have hw : IntKind.u64.wrap ((qb : Int) - (qa : Int)) = (d : Int) := by
            simp [IntKind.wrap, IntKind.bits, IntKind.signed]
            omega
          obtain ⟨d1, hd1⟩ : ∃ d1, d1 = d + 1 := ⟨_, rfl⟩
          have hno : ∀ x y, po = true → aBin Tryd.prog .geq 39 x y (u64 (pb : Nat)) (u64 2) = some (.bool false) := by
            intro x y hpo
            have : ¬ (2 : Int) ≤ pb := fun h => h1 ⟨hpo, by omega⟩
            simp [this]
          have hm2 : many2 d true = if d < 5000 then d1 else d := by simp [many2, hd1]
          by_cases h5 : d < 5000
          · have h5I : (d : Int) < 5000 := by omega
            rw [if_pos h5] at hm2
            have hw1 : IntKind.u64.wrap ((d : Int) + 1) = (d1 : Int) := by rw [show (d : Int) + 1 = (d1 : Int) by omega, wU' (by omega)]
            cases po with
            | false =>
              simp [h4, h4I, rB7, rC, e4, e5, e6, hra, eds, hw, hw1, h5I, h5]
              exact ⟨f27, qa, d, true, by simp [h4, ← hd], rfl, by rw [hm2], rfl⟩
            | true =>
              have h6I : ¬ (2 : Int) ≤ pb := fun h => h1 ⟨rfl, by omega⟩
              have h6 : ¬ 2 ≤ pb := fun h => h1 ⟨rfl, h⟩
              simp [h4, h4I, rB7, rC, e4, e5, e6, hra, eds, hw, hw1, h5I, h5, h6I, h6]
              exact ⟨f27, qa, d, true, by simp [h4, ← hd], rfl, by rw [hm2], rfl⟩
          · have h5I : ¬ (d : Int) < 5000 := by omega
            rw [if_neg h5] at hm2
            cases po with
            | false =>
              simp [h4, h4I, rB7, rC, e4, e5, e6, hra, eds, hw, h5I, h5]
              exact ⟨f27, qa, d, true, by simp [h4, ← hd], rfl, by rw [hm2], rfl⟩
            | true =>
              have h6I : ¬ (2 : Int) ≤ pb := fun h => h1 ⟨rfl, by omega⟩
              have h6 : ¬ 2 ≤ pb := fun h => h1 ⟨rfl, h⟩
              simp [h4, h4I, rB7, rC, e4, e5, e6, hra, eds, hw, h5I, h5, h6I, h6]
              exact ⟨f27, qa, d, true, by simp [h4, ← hd], rfl, by rw [hm2], rfl⟩
        rw [if_neg h3] at hpw ⊢
        have hpp : parseF ws [] = ([], 7) := by rw [hpw]; rfl
        rw [hpp]
        have f17 := f1.trans (f2.trans f27)
        cases po with
        | false =>
          cases qo with
          | false =>
            simp [rB7, rC, eds]
            exact ⟨f17, none, Row.nil⟩
          | true =>
            have h4 : ¬ qa < qb := fun h => h3 ⟨rfl, h⟩
            have h4I : ¬ (qa : Int) < qb := by omega
            simp [rB7, rC, eds, h4, h4I]
            exact ⟨f17, none, Row.nil⟩
        | true =>
          have h6I : ¬ (2 : Int) ≤ pb := fun h => h1 ⟨rfl, by omega⟩
          have h6 : ¬ 2 ≤ pb := fun h => h1 ⟨rfl, h⟩
          cases qo with
          | false =>
            simp [rB7, rC, eds, h6, h6I]
            exact ⟨f17, none, Row.nil⟩
          | true =>
            have h4 : ¬ qa < qb := fun h => h3 ⟨rfl, h⟩
            have h4I : ¬ (qa : Int) < qb := by omega
            simp [rB7, rC, eds, h4, h4I, h6, h6I]
            exact ⟨f17, none, Row.nil⟩
    · rintro ⟨env, H4, ds⟩ ⟨e4, e5, e6, eds, f4, key, m, r, hsp, e7, e9, e10⟩
      clear hix g1 g2 q3 w3 gL gK
      rw [hsp] at hlt hpw
      simp only at hlt hpw e4 e5 e6 eds e7 e9 e10
      have f24 := f2.trans f4
      have hout4 := hout.keep f4 (fun _ _ => id)
      rw [if_neg (by simp)] at hpw
      have hcv : IntKind.i64.wrap ((many2 m r : Nat) : Int) = (many2 m r : Nat) ∨ 4096 < many2 m r := by
        by_cases h : 4096 < many2 m r
        · exact .inr h
        · exact .inl (w64 (by omega))
      by_cases hbig : 4096 - out.length < many m r
      · have hpp : parseF ws [] = ([], 6) := by rw [hpw, if_pos hbig]
        rw [hpp]
        have hb2 := (many2_big hol).1 hbig
        generalize many2 m r = n2 at e9 hb2 hcv
        by_cases hn2 : 4096 < n2
        · have hn2I : (4096 : Int) < n2 := by omega
          simp [e4, e5, e6, e7, e9, e10, hn2, hn2I, eds]
          exact ⟨f1.trans f24, none, Row.nil⟩
        · have hn2I : ¬ (4096 : Int) < n2 := by omega
          have hcv : IntKind.i64.wrap (n2 : Int) = n2 := w64 (by omega)
          obtain ⟨sm, hsm⟩ : ∃ sm, sm = out.length + n2 := ⟨_, rfl⟩
          have hsw : IntKind.i64.wrap ((out.length : Int) + n2) = (sm : Int) := by rw [w64 (by omega)]; omega
          have hs6 : (4096 : Int) < sm := by omega
          have hs6' : 4096 < sm := by omega
          simp [e4, e5, e6, e7, e9, e10, hn2, hn2I, hcv, hsw, hs6, hs6', eds]
          exact ⟨f1.trans f24, none, Row.nil⟩
      have hb2 := fun h => hbig ((many2_big hol).2 h)
      have hme := many2_eq hol hbig
      rw [if_neg hbig] at hpw
      rw [hme] at hb2 e9
      clear hme hcv
      obtain ⟨n, hn⟩ : ∃ n, n = many m r := ⟨_, rfl⟩
      rw [← hn] at hpw hb2 e9 hbig
      have hn2 : ¬ 4096 < n := fun h => hb2 (.inl h)
      have hn2I : ¬ (4096 : Int) < n := by omega
      have hcv : IntKind.i64.wrap (n : Int) = n := w64 (by omega)
      obtain ⟨sm, hsm⟩ : ∃ sm, sm = out.length + n := ⟨_, rfl⟩
      have hsw : IntKind.i64.wrap ((out.length : Int) + n) = (sm : Int) := by rw [w64 (by omega)]; omega
      have hs6' : ¬ 4096 < sm := fun h => hb2 (.inr (by omega))
      have hs6 : ¬ (4096 : Int) < sm := by omega
      simp [e4, e5, e6, e7, e9, e10, hn2, hn2I, hcv, hsw, hs6, hs6', eds]
      refine aw_loop_to n (fun j t => t.env 5 = .slice (some ⟨la, oa, none⟩) ws.length ws.length ∧ t.env 6 = i64 (k : Nat) ∧ t.env 7 = u64 (key : Nat) ∧ t.env 9 = u64 (n : Nat) ∧ t.env 10 = u64 (bif r then 1 else 0) ∧ t.env 13 = u64 (j : Nat) ∧ t.ds = [] ∧ Fresh H1 t.H ∧ ∃ O, Row 39 true t.H (t.env 4) (gcells (out ++ keysOf key j r)) O ∧ ∀ x, O = some x → H1.next ≤ x) ?_ ?_ ?_
      · clear e4 e5 e6 e7 e9 e10 eds
        rintro j ⟨env, H5, ds⟩ hj ⟨e5, e6, e7, e9, e10, e13, eds, f5, O5, h5, hO5⟩
        simp only at e5 e6 e7 e9 e10 e13 eds f5 h5
        generalize e4 : env 4 = ov at h5
        have hjI : (j : Int) < n := by omega
        have hwj : IntKind.u64.wrap ((j : Int) + 1) = ((j + 1 : Nat) : Int) := by rw [show (j : Int) + 1 = ((j + 1 : Nat) : Int) by omega, wU' (by omega)]
        obtain ⟨x, hx⟩ : ∃ x, x = if r then key + j else key := ⟨_, rfl⟩
        obtain ⟨by1, hby1⟩ : ∃ by1 : Int, by1 = bif r then 1 else 0 := ⟨_, rfl⟩
        obtain ⟨y, hy⟩ : ∃ y : Nat, y = if r then j else 0 := ⟨_, rfl⟩
        have hxy : x = key + y := by rw [hx, hy]; cases r <;> simp
        have hmul : IntKind.u64.wrap (by1 * (j : Int)) = (y : Int) := by
          rw [hby1, hy]
          cases r
          · simp [IntKind.wrap, IntKind.bits, IntKind.signed]
          · simp; exact wU' (by omega)
        have hadd : IntKind.u64.wrap ((key : Int) + (y : Int)) = (x : Int) := by
          rw [show (key : Int) + (y : Int) = (x : Int) by omega, wU']
          rw [hx]
          cases r with
          | false => exact hlt.1
          | true =>
            have := hlt.2.2 rfl
            have hq : n = min m 4096 + 1 := hn
            simp only [if_true]
            omega
        rw [← hby1] at e10
        have hlen5 : (out ++ keysOf key j r).length ≤ 2000000 := by rw [List.length_append, keysOf_len]; omega
        obtain ⟨H6, a1, a2, a3, a4, a5, a6⟩ := app22 x h5 f5 hO5 hlen5
        have hks : out ++ keysOf key (j + 1) r = (out ++ keysOf key j r) ++ [x] := by rw [keysOf_succ, hx, List.append_assoc]
        rw [← hks] at a3
        generalize (out ++ keysOf key j r).length = nn at a1 a3
        simp [e4, e5, e6, e7, e9, e10, e13, hj, hjI, hmul, hadd, a1, hwj, eds]
        exact ⟨hby1, a2, _, by simpa [gcells] using a3, fun y e => by cases e; exact a4⟩
      · clear e4 e5 e6 e7 e9 e10 eds
        rintro ⟨env, H5, ds⟩ ⟨e5, e6, e7, e9, e10, e13, eds, f5, O5, h5, hO5⟩
        simp only at e5 e6 e7 e9 e10 e13 eds f5 h5
        simp [e5, e6, e7, e9, e13, hwk, hra, eds]
        exact ⟨f5, _, O5, by simpa [gcells] using h5, hO5, by rw [List.length_append, keysOf_len]; omega, hpw⟩
      · simp [e4, e5, e6, e7, e9, e10, keysOf, eds]
        exact ⟨f24, O, by simpa [gcells] using hout4, hO⟩
  · rintro ⟨env, H2, ds⟩ ⟨e5, e6, eds, f2, out, O, hout, hO, hol, hp⟩
    simp only at e5 e6 eds f2 hout
    rw [List.drop_length, parseF] at hp
    rw [hp]
    simp [e5, e6, eds]
    exact ⟨f1.trans f2, _, hout⟩
  · simp [Fresh.refl]
    exact ⟨[], none, Row.nil, by simp, by simp, rfl⟩
end Go.Proofs.YtmeaeafceankkaaDoor.C

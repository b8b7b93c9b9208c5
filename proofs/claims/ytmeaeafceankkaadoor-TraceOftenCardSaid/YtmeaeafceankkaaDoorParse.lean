/- Parsing a trace: the program's. Own text of this session. -/
import Derived.Test.YtmeaeafceankkaaDoorSpan
set_option linter.unusedVariables false
set_option linter.unusedSimpArgs false
set_option maxRecDepth 4000
set_option maxHeartbeats 8000000
namespace Go.Proofs.YtmeaeafceankkaaDoor.C
open Go Go.RowKit Go.Proofs.YtmeaeafceankkaaDoorA Go.Proofs.YtmeaeafceankkaaDoor.Plain
variable {H : AH}
theorem wU' {n : Nat} (h : n < 18446744073709551616) : IntKind.u64.wrap (n : Int) = (n : Int) := by simp [IntKind.wrap, IntKind.bits, IntKind.signed]; omega
abbrev gcells (g : List Nat) : List Value := g.map fun (n : Nat) => u64 (n : Int)
theorem gc_snoc (g : List Nat) (x : Nat) : gcells (g ++ [x]) = gcells g ++ [u64 (x : Nat)] := by simp [gcells]
theorem el22 : El Tryd.prog 22 39 := ⟨un22, by kernel_rfl, (Tryd.prog.info? 39).getD default, by kernel_rfl, by kernel_rfl, of_decide_eq_true (by kernel_rfl), by kernel_rfl⟩
def many (m : Nat) (r : Bool) : Nat := if r then min m 4096 + 1 else m
def keysOf (k n : Nat) (r : Bool) : List Nat := (List.range n).map fun i => if r then k + i else k
theorem keysOf_succ (k n : Nat) (r : Bool) : keysOf k (n + 1) r = keysOf k n r ++ [if r then k + n else k] := by simp [keysOf, List.range_succ]
theorem keysOf_len (k n : Nat) (r : Bool) : (keysOf k n r).length = n := by simp [keysOf]
noncomputable def parseF : List (List UInt8) → List Nat → List Nat × Nat
  | [], out => (out, 0)
  | w :: ws, out => if (spanF w).2.2.2 = false then ([], 7) else if 4096 - out.length < many (spanF w).2.1 (spanF w).2.2.1 then ([], 6) else parseF ws (out ++ keysOf (spanF w).1 (many (spanF w).2.1 (spanF w).2.2.1) (spanF w).2.2.1)
noncomputable def parse (s : List UInt8) : List Nat × Nat := if s = [] then ([], 0) else parseF (splitL 32 s) []
theorem span_lt (w : List UInt8) : (spanF w).1 < 18446744073709551616 ∧ (spanF w).2.1 < 18446744073709551616 ∧ ((spanF w).2.2.1 = true → (spanF w).1 + (spanF w).2.1 < 18446744073709551616) := by
  have h1 := pairF_lt w 42
  have h2 := pairF_lt w 45
  have h3 := rdN_lt w
  unfold spanF
  split
  · exact ⟨h3, by simp, by simp⟩
  · split
    · exact ⟨h1.1, h1.2, by simp⟩
    · split
      · rename_i hq
        refine ⟨h2.1, ?_, fun _ => ?_⟩
        · simp only; omega
        · simp only; omega
      · exact ⟨by simp, by simp, by simp⟩
/-- one more in a row -/
theorem app22 {H1 H2 : AH} {ov : Value} {xs : List Nat} {O' : Option Nat} (x : Nat) (hr : Row 39 true H2 ov (gcells xs) O') (hf : Fresh H1 H2) (hO : ∀ y, O' = some y → H1.next ≤ y) (hx : xs.length ≤ 2000000) :
    ∃ H3, aAppend Tryd.prog 22 22 ov (.slice (some ⟨H2.next, 0, none⟩) 1 1) ⟨H2.next + 1, upd H2.get H2.next (.cells [u64 (x : Nat)] 39 true 1)⟩ = some (sl (H2.next + 1) 0 (xs.length + 1), H3) ∧ Fresh H1 H3 ∧ Row 39 true H3 (sl (H2.next + 1) 0 (xs.length + 1)) (gcells (xs ++ [x])) (some (H2.next + 1)) ∧ H1.next ≤ H2.next + 1 ∧ (∀ l, l < H2.next → O' ≠ some l → H3.get l = H2.get l) ∧ H2.next < H3.next := by
  have hel : (gcells xs).length = xs.length := by simp
  obtain ⟨H3, hap, hnx, hget, hrow3, hkp⟩ := row_append el22 hr (by rw [hel]; omega) (v := u64 (x : Nat)) rfl
  rw [hel] at hap hrow3
  rw [← gc_snoc] at hrow3
  exact ⟨H3, hap, ⟨by have := hf.1; omega, fun z hz _ => by rw [hkp z (by have := hf.1; omega) (fun e => by have := hO z e; omega), hf.get hz]⟩, hrow3, by have := hf.1; omega, fun l hl hn => hkp l hl hn, by omega⟩
theorem row_neB {H : AH} {sv : Value} {vs : List Value} {O : Option Nat} {l : Nat} {k m : Int} {r : Bool} (h : Row 39 true H sv vs O) (hl : H.get l = some (spB k m r)) : O ≠ some l := fun e => by
  subst e
  obtain ⟨o, cs, _, h2, _⟩ := h
  rw [hl] at h2
  cases h2
/-- trace.Parse -/
theorem parse_run {s : List UInt8} (hs : s.length < 100000) : CallR cx 9 #[.string (str s)] H (fun v H' => Fresh H H' ∧ ∃ gv O, v = .tuple #[gv, i64 ((parse s).2 : Nat)] ∧ Row 39 true H' gv (gcells (parse s).1) O) := by
  refine wk9 (by simp) ?_
  by_cases h0 : s = []
  · subst h0
    simp [c9, parse, Fresh.refl]
    exact ⟨none, Row.nil⟩
  have hps : parse s = parseF (splitL 32 s) [] := by rw [parse, if_neg h0]
  rw [hps]
  have hwl := splitL_le 32 s
  have hsh := splitL_short 32 s
  have hwords := words_run (H := H) (s := s) (by omega)
  generalize hws : splitL 32 s = ws at hwl hsh hwords
  simp [c9, h0]
  refine callV_R cb23 hwords ?_
  rintro wv H1 ⟨f1, hrow⟩
  obtain ⟨ra, rfl, _⟩ := hrow.isSlice
  simp only [strs_length] at hrow
  simp
  refine aw_loop_to ws.length (fun k t => t.env 16 = .slice ra ws.length ws.length ∧ t.env 17 = i64 (ws.length : Nat) ∧ t.env 18 = i64 (k : Nat) ∧ t.ds = [] ∧ Fresh H1 t.H ∧ ∃ out O, Row 39 true t.H (t.env 4) (gcells out) O ∧ (∀ x, O = some x → H1.next ≤ x) ∧ out.length ≤ 4096 ∧ parseF ws [] = parseF (ws.drop k) out) ?_ ?_ ?_
  · rintro k ⟨env, H2, ds⟩ hk ⟨e16, e17, e18, eds, f2, out, O, hout, hO, hol, hp⟩
    simp only at e16 e17 e18 eds f2 hout
    generalize e4 : env 4 = ov at hout
    obtain ⟨ro, rfl, _⟩ := hout.isSlice
    simp only [List.length_map] at hout e4
    have hkN : (k : Int) < ws.length := by omega
    have hwk := w64 (n := (k : Int) + 1) (by omega)
    obtain ⟨la, oa, ca, hra, g1, g2, _⟩ := (hrow.keep f2 (fun _ _ => id)).cell (i := k) (x := .string (str ws[k])) (by simp [strs, hk])
    have hix := ix47 la oa ws.length ws.length .i64 (k : Int) (by omega) hkN
    rw [Int.toNat_natCast] at hix
    have hdr : ws.drop k = ws[k] :: ws.drop (k + 1) := List.drop_eq_getElem_cons hk
    have hwlen := hsh _ (List.getElem_mem hk)
    generalize ws[k] = w at g2 hdr hwlen
    simp [e16, e17, e18, hk, hkN, hra, hix, g1, g2]
    refine callV_R cb24 (tread_run (w := w) (by omega)) ?_
    rintro _ H3 ⟨rfl, f3⟩
    have hlt := span_lt w
    have hpw : parseF ws [] = (if (spanF w).2.2.2 = false then ([], 7) else if 4096 - out.length < many (spanF w).2.1 (spanF w).2.2.1 then ([], 6) else parseF (ws.drop (k + 1)) (out ++ keysOf (spanF w).1 (many (spanF w).2.1 (spanF w).2.2.1) (spanF w).2.2.1)) := by rw [hp, hdr, parseF]
    generalize spanF w = sp at hlt hpw
    obtain ⟨key, m, r, ok⟩ := sp
    simp only at hlt hpw
    have hst : aStore Tryd.prog 53 (ptr H3.next) (spV (key : Nat) (m : Nat) r) ⟨H3.next + 1, upd H3.get H3.next (spB 0 0 false)⟩ = some ⟨H3.next + 1, upd (upd H3.get H3.next (spB 0 0 false)) H3.next (spB (key : Nat) (m : Nat) r)⟩ := st53b (k := 0) (m := 0) (r := false) (by simp)
    obtain ⟨H4, hH4⟩ : ∃ H4 : AH, H4 = ⟨H3.next + 1, upd (upd H3.get H3.next (spB 0 0 false)) H3.next (spB (key : Nat) (m : Nat) r)⟩ := ⟨_, rfl⟩
    rw [← hH4] at hst
    have f4 : Fresh H3 H4 := by rw [hH4]; exact fresh_upd' Fresh.ofNew (Nat.le_refl _)
    have rB : H4.get H3.next = some (spB (key : Nat) (m : Nat) r) := by rw [hH4]; simp
    have lB : H3.next < H4.next := by rw [hH4]; simp
    clear hH4
    have f24 := f2.trans (f3.trans f4)
    have hout4 := hout.keep (f3.trans f4) (fun _ _ => id)
    cases ok with
    | false =>
      have hpp : parseF ws [] = ([], 7) := by rw [hpw]; rfl
      rw [hpp]
      simp [e4, e16, e17, e18, alloc53, hst, eds, -st53]
      exact ⟨f1.trans f24, none, Row.nil⟩
    | true =>
      rw [if_neg (by simp)] at hpw
      obtain ⟨n, hn⟩ : ∃ n, n = many m r := ⟨_, rfl⟩
      obtain ⟨rm, hrm⟩ : ∃ rm, rm = 4096 - out.length := ⟨_, rfl⟩
      rw [← hn, ← hrm] at hpw
      have hcv : IntKind.u64.wrap (rm : Int) = (rm : Int) := wU' (by omega)
      have hsub : IntKind.i64.wrap (4096 - (out.length : Int)) = (rm : Int) := by rw [w64 (by omega)]; omega
      cases r with
      | false =>
        have hnn : n = m := hn
        subst hnn
        clear hn
        by_cases hbig : rm < n
        · have hbigI : (rm : Int) < n := by omega
          have hpp : parseF ws [] = ([], 6) := by rw [hpw, if_pos hbig]
          rw [hpp]
          simp [e4, e16, e17, e18, alloc53, hst, rB, hcv, hsub, hbigI, eds, -st53]
          exact ⟨f1.trans f24, none, Row.nil⟩
        have hbigI : ¬ (rm : Int) < n := by omega
        rw [if_neg hbig] at hpw
        simp [e4, e16, e17, e18, alloc53, hst, rB, hcv, hsub, hbigI, eds, -st53]
        refine aw_loop_to n (fun j t => t.env 16 = .slice ra ws.length ws.length ∧ t.env 17 = i64 (ws.length : Nat) ∧ t.env 18 = i64 (k : Nat) ∧ t.env 7 = ptr H3.next ∧ t.env 42 = u64 (n : Nat) ∧ t.env 43 = u64 (j : Nat) ∧ t.ds = [] ∧ Fresh H1 t.H ∧ t.H.get H3.next = some (spB (key : Nat) (n : Nat) false) ∧ H3.next < t.H.next ∧ ∃ O, Row 39 true t.H (t.env 4) (gcells (out ++ keysOf key j false)) O ∧ ∀ x, O = some x → H1.next ≤ x) ?_ ?_ ?_
        · clear e4 e16 e17 e18 eds
          rintro j ⟨env, H5, ds⟩ hj ⟨e16, e17, e18, e7, e42, e43, eds, f5, rB5, lB5, O5, h5, hO5⟩
          simp only at e16 e17 e18 e7 e42 e43 eds f5 rB5 lB5 h5
          generalize e4 : env 4 = ov at h5
          have hjI : (j : Int) < n := by omega
          have hwj : IntKind.u64.wrap ((j : Int) + 1) = ((j + 1 : Nat) : Int) := by rw [show (j : Int) + 1 = ((j + 1 : Nat) : Int) by omega, wU' (by omega)]
          have hneB := row_neB h5 rB5
          obtain ⟨x, hx⟩ : ∃ x, x = key := ⟨_, rfl⟩
          have hlen5 : (out ++ keysOf key j false).length ≤ 2000000 := by rw [List.length_append, keysOf_len]; omega
          obtain ⟨H6, a1, a2, a3, a4, a5, a6⟩ := app22 x h5 f5 hO5 hlen5
          have hks : out ++ keysOf key (j + 1) false = (out ++ keysOf key j false) ++ [x] := by rw [keysOf_succ, hx, List.append_assoc]; rfl
          rw [← hks] at a3
          have rB6 := a5 H3.next lB5 hneB
          rw [rB5] at rB6
          generalize (out ++ keysOf key j false).length = nn at a1 a3
          subst hx
          simp [e4, e7, e16, e17, e18, e42, e43, hj, hjI, rB5, a1, rB6, hwj, eds]
          exact ⟨a2, by omega, _, by simpa [gcells] using a3, fun y e => by cases e; exact a4⟩
        · clear e4 e16 e17 e18 eds
          rintro ⟨env, H5, ds⟩ ⟨e16, e17, e18, e7, e42, e43, eds, f5, rB5, lB5, O5, h5, hO5⟩
          simp only at e16 e17 e18 e7 e42 e43 eds f5 rB5 lB5 h5
          simp [e16, e17, e18, e42, e43, hwk, eds]
          exact ⟨f5, _, O5, by simpa [gcells] using h5, hO5, by rw [List.length_append, keysOf_len]; omega, hpw⟩
        · simp [e4, e16, e17, e18, keysOf, eds]
          exact ⟨f24, rB, lB, O, by simpa [gcells] using hout4, hO⟩
      | true =>
        have hnn : n = min m 4096 + 1 := hn
        have hmin : IntKind.u64.wrap (min (m : Int) 4096 + 1) = (n : Int) := by
          simp only [IntKind.wrap, IntKind.bits, IntKind.signed]
          simp
          omega
        by_cases hbig : rm < n
        · have hbigI : (rm : Int) < n := by omega
          have hpp : parseF ws [] = ([], 6) := by rw [hpw, if_pos hbig]
          rw [hpp]
          simp [e4, e16, e17, e18, alloc53, hst, rB, hmin, hcv, hsub, hbigI, eds, -st53]
          exact ⟨f1.trans f24, none, Row.nil⟩
        have hbigI : ¬ (rm : Int) < n := by omega
        rw [if_neg hbig] at hpw
        simp [e4, e16, e17, e18, alloc53, hst, rB, hmin, hcv, hsub, hbigI, eds, -st53]
        refine aw_loop_to n (fun j t => t.env 16 = .slice ra ws.length ws.length ∧ t.env 17 = i64 (ws.length : Nat) ∧ t.env 18 = i64 (k : Nat) ∧ t.env 7 = ptr H3.next ∧ t.env 42 = u64 (n : Nat) ∧ t.env 43 = u64 (j : Nat) ∧ t.ds = [] ∧ Fresh H1 t.H ∧ t.H.get H3.next = some (spB (key : Nat) (m : Nat) true) ∧ H3.next < t.H.next ∧ ∃ O, Row 39 true t.H (t.env 4) (gcells (out ++ keysOf key j true)) O ∧ ∀ x, O = some x → H1.next ≤ x) ?_ ?_ ?_
        · clear e4 e16 e17 e18 eds
          rintro j ⟨env, H5, ds⟩ hj ⟨e16, e17, e18, e7, e42, e43, eds, f5, rB5, lB5, O5, h5, hO5⟩
          simp only at e16 e17 e18 e7 e42 e43 eds f5 rB5 lB5 h5
          generalize e4 : env 4 = ov at h5
          have hjI : (j : Int) < n := by omega
          have hwj : IntKind.u64.wrap ((j : Int) + 1) = ((j + 1 : Nat) : Int) := by rw [show (j : Int) + 1 = ((j + 1 : Nat) : Int) by omega, wU' (by omega)]
          have hneB := row_neB h5 rB5
          obtain ⟨x, hx⟩ : ∃ x, x = key + j := ⟨_, rfl⟩
          have hadd : IntKind.u64.wrap ((key : Int) + (j : Int)) = (x : Int) := by have hkm := hlt.2.2 rfl; rw [show (key : Int) + (j : Int) = (x : Int) by omega, wU' (by omega)]
          have hlen5 : (out ++ keysOf key j true).length ≤ 2000000 := by rw [List.length_append, keysOf_len]; omega
          obtain ⟨H6, a1, a2, a3, a4, a5, a6⟩ := app22 x h5 f5 hO5 hlen5
          have hks : out ++ keysOf key (j + 1) true = (out ++ keysOf key j true) ++ [x] := by rw [keysOf_succ, hx, List.append_assoc]; rfl
          rw [← hks] at a3
          have rB6 := a5 H3.next lB5 hneB
          rw [rB5] at rB6
          generalize (out ++ keysOf key j true).length = nn at a1 a3
          skip
          simp [e4, e7, e16, e17, e18, e42, e43, hj, hjI, rB5, hadd, a1, rB6, hwj, eds]
          exact ⟨a2, by omega, _, by simpa [gcells] using a3, fun y e => by cases e; exact a4⟩
        · clear e4 e16 e17 e18 eds
          rintro ⟨env, H5, ds⟩ ⟨e16, e17, e18, e7, e42, e43, eds, f5, rB5, lB5, O5, h5, hO5⟩
          simp only at e16 e17 e18 e7 e42 e43 eds f5 rB5 lB5 h5
          simp [e16, e17, e18, e42, e43, hwk, eds]
          exact ⟨f5, _, O5, by simpa [gcells] using h5, hO5, by rw [List.length_append, keysOf_len]; omega, hpw⟩
        · simp [e4, e16, e17, e18, keysOf, eds]
          exact ⟨f24, rB, lB, O, by simpa [gcells] using hout4, hO⟩
  · rintro ⟨env, H2, ds⟩ ⟨e16, e17, e18, eds, f2, out, O, hout, hO, hol, hp⟩
    simp only at e16 e17 e18 eds f2 hout
    rw [List.drop_length, parseF] at hp
    rw [hp]
    simp [e17, e18, eds]
    exact ⟨f1.trans f2, _, hout⟩
  · simp [Fresh.refl]
    exact ⟨[], none, Row.nil, by simp, by simp, rfl⟩
end Go.Proofs.YtmeaeafceankkaaDoor.C

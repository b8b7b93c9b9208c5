/- What the functions of digits do with numbers, over the small heap. Own text of this session. -/
import Derived.Test.YtmeaeafceankkaaDoorC
import Derived.Test.YtmeaeafceankkaaDoorPlain
set_option linter.unusedVariables false
set_option linter.unusedSimpArgs false
set_option maxRecDepth 4000
set_option maxHeartbeats 4000000
namespace Go.Proofs.YtmeaeafceankkaaDoor.C
open Go Go.RowKit Go.Proofs.YtmeaeafceankkaaDoorA Go.Proofs.YtmeaeafceankkaaDoor.Plain
theorem wrap_small {n : Int} (h : -9000000000000000000 ≤ n ∧ n ≤ 9000000000000000000) : IntKind.i64.wrap n = n := by simp [IntKind.wrap, IntKind.bits, IntKind.signed]; omega
theorem wrapU (n : Int) : IntKind.u64.wrap n = n % 18446744073709551616 := by simp [IntKind.wrap, IntKind.bits, IntKind.signed]
theorem wrapU_small {n : Int} (h : 0 ≤ n ∧ n < 18446744073709551616) : IntKind.u64.wrap n = n := by rw [wrapU]; omega
theorem wrap8 (n : Int) : IntKind.u8.wrap n = n % 256 := by simp [IntKind.wrap, IntKind.bits, IntKind.signed]
theorem wrap8_small {n : Int} (h : 0 ≤ n ∧ n < 256) : IntKind.u8.wrap n = n := by rw [wrap8]; omega
theorem str_nil : (⟨#[]⟩ : ByteArray) = str [] := rfl
theorem alloc95 (H : AH) : aAlloc Tryd.prog 95 H = some (ptr H.next, ⟨H.next + 1, upd H.get H.next (.cells (List.replicate 20 (.int .u8 0)) 95 true 0)⟩) := by kernel_rfl
theorem u8_is : isU8 Tryd.prog 5 = true := by kernel_rfl
variable {H : AH}
theorem conv1 (b : UInt8) (l : Nat) (hb : H.get l = some (.cells [.int .u8 b.toNat] 5 true 1)) : aConv Tryd.prog 74 9 (.slice (some ⟨l, 0, none⟩) 1 1) H = some (.string (str [b])) := by
  have := aConv_bytes (P := Tryd.prog) (s := 74) (d := 9) (e := 5) un74 un9 u8_is (l0 := l) (o := 0) (c := 1) (l := [b]) (H := H) (by intro _; simp [hb])
  simpa using this
theorem dg_val (n : Nat) (h : n < 10) : IntKind.u8.wrap (IntKind.u64.wrap (48 + (n : Int))) = ((dg n).toNat : Int) := by
  rw [wrapU_small (by omega), wrap8_small (by omega), dg_nat h]; omega
/-- ref.Print -/
theorem rprint_run {n : Nat} (hn : n < 18446744073709551616) : CallR cx 26 #[.int .u64 n] H (fun v H' => v = .string (str (dec n)) ∧ Fresh H H') := by
  refine wk26 (by simp) ?_
  simp [c26]
  refine aw_loop (fun m s => s.env 0 = .int .u64 m ∧ s.ds = [] ∧ Fresh H s.H ∧ m ≤ n ∧ ∃ t, s.env 3 = .string (str t) ∧ dec n = dec m ++ t ∧ t.length < 1000 ∧ t.length + (dec m).length ≤ 20) ?_ (k := n) ?_
  · rintro m ⟨env, H1, ds⟩ ⟨e0, eds, hf, hmn, t, e3, ht, htl, hlen⟩
    simp only at e0 eds hf e3
    by_cases hm : m < 10
    · have h10 : ¬ (10 : Int) ≤ m := by omega
      have hd := dg_val m hm
      simp [e0, h10, hd]
      have hc := conv1 (H := ⟨H1.next + 1, upd H1.get H1.next (.cells [.int .u8 (dg m).toNat] 5 true 1)⟩) (dg m) H1.next (by simp)
      have ha := fun ox oy => aBin_stradd (P := Tryd.prog) (t := 9) ox oy un9 [dg m] t (by simp; omega)
      have e : dec n = [dg m] ++ t := by rw [ht, dec_small hm]
      simp [hc, e0, e3, ha, eds, e]
      exact hf.trans Fresh.ofNew
    · have h10 : (10 : Int) ≤ m := by omega
      have hmod : (m : Int).tmod 10 = ((m % 10 : Nat) : Int) := by rw [Int.tmod_eq_emod_of_nonneg (by omega)]; push_cast; rfl
      have hdiv : (m : Int).tdiv 10 = ((m / 10 : Nat) : Int) := by rw [Int.tdiv_eq_ediv_of_nonneg (by omega)]; push_cast; rfl
      have hdw : IntKind.u64.wrap ((m / 10 : Nat) : Int) = ((m / 10 : Nat) : Int) := wrapU_small (by omega)
      have hd := dg_val (m % 10) (Nat.mod_lt _ (by omega))
      simp [e0, h10, aBin_rem, hmod, hd, -Int.natCast_emod, -Int.natCast_ediv]
      have hc := conv1 (H := ⟨H1.next + 1, upd H1.get H1.next (.cells [.int .u8 (dg (m % 10)).toNat] 5 true 1)⟩) (dg (m % 10)) H1.next (by simp)
      have ha := fun ox oy => aBin_stradd (P := Tryd.prog) (t := 9) ox oy un9 [dg (m % 10)] t (by simp; omega)
      have hdm := dec_big (n := m) (by omega)
      simp [hc, e0, e3, ha, eds, aBin_quo, hdiv, hdw, -Int.natCast_ediv]
      refine ⟨m / 10, by omega, rfl, hf.trans Fresh.ofNew, by omega, ?_⟩
      refine ⟨?_, ?_, ?_⟩
      · rw [ht, hdm]; simp
      · have : (dec m).length ≥ 1 := List.length_pos_iff.2 (dec_ne m); omega
      · rw [hdm] at hlen; simp at hlen; omega
  · simp
    exact ⟨Fresh.refl, dec_len (by omega) (by omega)⟩
theorem slice95 {l : Nat} {cs : List Value} (h : H.get l = some (.cells cs 95 true 0)) (hl : cs.length = 20) (j : Nat) (hj : j ≤ 20) : aSlice Tryd.prog 95 (ptr l) (some (i64 j)) none H = some (.slice (some ⟨l, j, none⟩) (20 - j) (20 - j)) := by
  have h0 : (0 : Int) ≤ j := by omega
  simp [aSlice, un95, bnd, hj, h, sz5, hl]
/-- digits.decimal -/
theorem decimal_run {n : Nat} (hn : n < 18446744073709551616) : CallR cx 46 #[.int .u64 n] H (fun v H' => v = .string (str (dec n)) ∧ Fresh H H') := by
  refine wk46 (by simp) ?_
  simp [c46, alloc95]
  refine aw_loop (fun m s => s.env 0 = .int .u64 m ∧ s.env 3 = ptr H.next ∧ s.ds = [] ∧ s.H.next = H.next + 1 ∧ Fresh H s.H ∧ ∃ cs k t, s.H.get H.next = some (.cells cs 95 true 0) ∧ cs.length = 20 ∧ s.env 4 = i64 ((20 - k : Nat) : Int) ∧ t.length = k ∧ cs.drop (20 - k) = t.map (fun b : UInt8 => Value.int .u8 b.toNat) ∧ dec n = dec m ++ t ∧ m ≤ n) ?_ (k := n) ?_
  · rintro m ⟨env, H1, ds⟩ ⟨e0, e3, eds, hnx, hf, cs, k, t, hcs, hcl, e4, htl, htd, hdec, hmn⟩
    simp only at e0 e3 eds hnx hf hcs e4
    have hk : k ≤ 19 := by
      have h1 := dec_len (k := 20) (by omega) (show n < 10 ^ 20 by omega)
      have h2 : 1 ≤ (dec m).length := List.length_pos_iff.2 (dec_ne m)
      rw [hdec, List.length_append] at h1
      omega
    have hw4 : IntKind.i64.wrap (((20 - k : Nat) : Int) - 1) = ((19 - k : Nat) : Int) := by rw [wrap_small (by omega)]; omega
    have hmod : (m : Int).tmod 10 = ((m % 10 : Nat) : Int) := by rw [Int.tmod_eq_emod_of_nonneg (by omega)]; push_cast; rfl
    have hdiv : (m : Int).tdiv 10 = ((m / 10 : Nat) : Int) := by rw [Int.tdiv_eq_ediv_of_nonneg (by omega)]; push_cast; rfl
    have hdw : IntKind.u64.wrap ((m / 10 : Nat) : Int) = ((m / 10 : Nat) : Int) := wrapU_small (by omega)
    have hd := dg_val (m % 10) (Nat.mod_lt _ (by omega))
    have hix := aIndexAddr_array (P := Tryd.prog) un95 sz5 H.next 0 .i64 ((19 - k : Nat) : Int) (by omega) (by omega)
    have hst : (19 - k) + 1 ≤ cs.length := by omega
    have hlen' : (cs.set (19 - k) (.int .u8 (dg (m % 10)).toNat)).length = 20 := by simp [hcl]
    have hdrop : (cs.set (19 - k) (.int .u8 (dg (m % 10)).toNat)).drop (19 - k) = (dg (m % 10) :: t).map (fun b : UInt8 => Value.int .u8 b.toNat) := by
      rw [List.drop_set, if_neg (by omega), Nat.sub_self, List.drop_eq_getElem_cons (by omega), List.set_cons_zero, show 19 - k + 1 = 20 - k by omega, htd]
      rfl
    simp [e0, e3, e4, hw4, aBin_rem, hmod, hd, -Int.natCast_emod, -Int.natCast_ediv, hix, hcs, hst, aBin_quo, hdiv, hdw]
    generalize hcs' : cs.set (19 - k) (.int .u8 (dg (m % 10)).toNat) = cs' at *
    have hf2 : Fresh H ⟨H1.next, upd H1.get H.next (.cells cs' 95 true 0)⟩ := ⟨by simp; omega, fun l hl _ => by
      have : l ≠ H.next := by omega
      simp [this, hf.get hl]⟩
    by_cases hm : m < 10
    · have hsl := slice95 (H := ⟨H1.next, upd H1.get H.next (.cells cs' 95 true 0)⟩) (l := H.next) (cs := cs') (by simp) hlen' (19 - k) (by omega)
      have hl20 : 20 - (19 - k) = (dg (m % 10) :: t).length := by simp; omega
      rw [hl20] at hsl
      have hcv := aConv_bytes (P := Tryd.prog) (s := 74) (d := 9) (e := 5) un74 un9 u8_is (l0 := H.next) (o := 19 - k) (c := (dg (m % 10) :: t).length) (l := dg (m % 10) :: t) (H := ⟨H1.next, upd H1.get H.next (.cells cs' 95 true 0)⟩) (by
        intro _
        rw [row_of (cs := cs') (T := 95) (own := true) (z := 0) (by simp) (by rw [← hl20, hlen']; omega), hdrop]
        rw [List.take_of_length_le (by simp)])
      have e : dec n = dg (m % 10) :: t := by rw [hdec, dec_small hm, Nat.mod_eq_of_lt hm]; rfl
      simp only [List.length_cons] at hsl hcv
      simp [hm, e4, e3, hsl, hcv, eds, e]
      exact hf2
    · have hdm := dec_big (n := m) (by omega)
      simp [hm, e3, eds]
      refine ⟨m / 10, by omega, by omega, hnx, hf2, hlen', k + 1, by omega, dg (m % 10) :: t, by simp [htl], ?_, ?_, by omega⟩
      · rw [show 20 - (k + 1) = 19 - k by omega]; exact hdrop
      · rw [hdec, hdm]; simp
  · simp
    exact ⟨Fresh.ofNew, 0, by simp⟩
/-- digits.Print -/
theorem print_run {n : Nat} (hn : n < 18446744073709551616) : CallR cx 37 #[.int .u64 n] H (fun v H' => v = .string (str (dec n)) ∧ Fresh H H') := by
  refine wk37 (by simp) ?_
  simp [c37]
  refine callV_R cb46 (decimal_run hn) ?_
  rintro _ H1 ⟨rfl, hf⟩
  simp [hf]
theorem val_take {l : List UInt8} {k : Nat} (hk : k < l.length) : val (l.take (k + 1)) = val (l.take k) * 10 + (l[k].toNat - 48) := by
  rw [List.take_add_one, List.getElem?_eq_getElem hk]
  exact val_app _ _
theorem idx (l : List UInt8) (i : Nat) (hi : i < l.length) : aIndex Tryd.prog 9 (.string (str l)) (.int .i64 i) = some (.int .u8 l[i].toNat) := aIndex_str un9 l .i64 i hi
/-- digits.Read -/
theorem read_run {l : List UInt8} : CallR cx 43 #[.string (str l)] H (fun v H' => H' = H ∧ ((∃ n, Is l n ∧ v = .tuple #[.int .u64 n, .bool true]) ∨ ((∀ n, ¬ Is l n) ∧ v = .tuple #[.int .u64 0, .bool false]))) := by
  refine wk43 (by simp) ?_
  have heq := fun ox oy => aBin_streqL (P := Tryd.prog) (t := 9) ox oy un9 l []
  cases hl : l with
  | nil =>
    subst hl
    simp [c43, str_nil, heq, Go.undef]
    intro n hn
    exact dec_ne n hn.2.symm
  | cons b r =>
    rw [← hl]
    have hlen : l.length = r.length + 1 := by rw [hl]; rfl
    have hne : ¬ l = [] := by rw [hl]; simp
    by_cases h20 : 20 < (l.length : Int)
    · simp [c43, str_nil, heq, hne, h20, Go.undef]
      intro n hn
      have := is_len hn
      omega
    have h0 : (0 : Nat) < l.length := by omega
    have hi0 := idx l 0 h0
    simp only [Int.natCast_zero] at hi0
    have hz0 : l[0].toNat = 48 ↔ l[0] = 48 := ⟨fun h => UInt8.toNat_inj.1 h, fun h => by rw [h]; rfl⟩
    by_cases hz : l[0].toNat = 48 ∧ 1 < l.length
    · have hz1 : ((l[0].toNat : Nat) : Int) = 48 := by omega
      have hz2 : (1 : Int) < l.length := by omega
      simp [c43, str_nil, heq, hne, h20, hi0, hz1, hz2, Go.undef]
      intro n hn
      have h1 : l.head? = some 48 := by rw [List.head?_eq_getElem?, List.getElem?_eq_getElem h0, hz0.1 hz.1]
      have := dec_head (n := n) (by rw [← hn.2]; exact h1)
      rw [← hn.2] at this
      omega
    have hcanon : l.head? = some 48 → l.length = 1 := by
      intro h
      rw [List.head?_eq_getElem?, List.getElem?_eq_getElem h0] at h
      have h1 := hz0.2 (Option.some.inj h)
      omega
    have hgo : ∀ (K : Prop) (G : Prop), (l[0].toNat = 48 → ¬ 1 < l.length) := fun _ _ h h' => hz ⟨h, h'⟩
    have hmain : aw cx 57 none (c43) (fun e s => (e = .normal ∨ e = .ret) ∧ ∃ H', takeMarks s.ds s.H = some H' ∧ ∃ v, (aResults Tryd.prog [.tmp 2, .tmp 3] s.env H').map tupleOf = some v ∧ H' = H ∧ ((∃ n, Is l n ∧ v = .tuple #[.int .u64 n, .bool true]) ∨ ((∀ n, ¬ Is l n) ∧ v = .tuple #[.int .u64 0, .bool false]))) ⟨envOf #[.string (str l)], H, []⟩ := by
      unfold c43
      refine aw_cut (fun s => s.env 0 = .string (str l) ∧ s.ds = [] ∧ s.H = H) (by simp) ?_
      rintro ⟨env, H1, ds⟩ ⟨e0, eds, rfl⟩
      simp only at e0 eds
      refine aw_cut (fun s => s.env 0 = .string (str l) ∧ s.ds = [] ∧ s.H = H1) ?_ ?_
      · by_cases h48 : l[0].toNat = 48
        · have h48i : ((l[0].toNat : Nat) : Int) = 48 := by omega
          have h1 : ¬ (1 : Int) < l.length := fun h => hz ⟨h48, by omega⟩
          simp [e0, eds, str_nil, aBin_streqL, un9, hne, h20, hi0, h48i, h1, Go.undef]
        · have h48i : ¬ ((l[0].toNat : Nat) : Int) = 48 := by omega
          simp [e0, eds, str_nil, aBin_streqL, un9, hne, h20, hi0, h48i, Go.undef]
      rintro ⟨env, H1, ds⟩ ⟨e0, eds, rfl⟩
      simp only at e0 eds
      simp [e0, eds]
      refine aw_loop_to l.length (fun k s => s.env 0 = .string (str l) ∧ s.ds = [] ∧ s.H = H1 ∧ s.env 5 = i64 k ∧ s.env 4 = .int .u64 (val (l.take k)) ∧ val (l.take k) < 18446744073709551616 ∧ ∀ b ∈ l.take k, isD b) ?_ ?_ ?_
      · rintro k ⟨env, H2, ds⟩ hk ⟨e0, eds, rfl, e5, e4, hv, hd⟩
        simp only at e0 eds e5 e4
        have hkN : (k : Int) < l.length := by omega
        have hix := idx l k hk
        have hw : IntKind.i64.wrap ((k : Int) + 1) = (k : Int) + 1 := wrap_small (by omega)
        have hvt := val_take hk
        have hb8 := UInt8.toNat_lt l[k]
        have htk : l.take (k + 1) = l.take k ++ [l[k]] := by rw [List.take_add_one, List.getElem?_eq_getElem hk]; rfl
        by_cases hlo : ((l[k].toNat : Nat) : Int) < 48
        · simp [e0, e5, e4, hkN, hk, hix, hlo, Go.undef, eds]
          intro n hn
          have := dec_isD n l[k] (by rw [← hn.2]; simp)
          unfold isD at this; omega
        by_cases hhi : 57 < ((l[k].toNat : Nat) : Int)
        · simp [e0, e5, e4, hkN, hk, hix, hlo, hhi, Go.undef, eds]
          intro n hn
          have := dec_isD n l[k] (by rw [← hn.2]; simp)
          unfold isD at this; omega
        have hw8 : IntKind.u8.wrap ((l[k].toNat : Int) - 48) = ((l[k].toNat - 48 : Nat) : Int) := by rw [wrap8_small (by omega)]; omega
        have hw6 : IntKind.u64.wrap ((l[k].toNat - 48 : Nat) : Int) = ((l[k].toNat - 48 : Nat) : Int) := wrapU_small (by omega)
        have hws : IntKind.u64.wrap (18446744073709551615 - ((l[k].toNat - 48 : Nat) : Int)) = ((18446744073709551615 - (l[k].toNat - 48) : Nat) : Int) := by rw [wrapU_small (by omega)]; omega
        have hq : (((18446744073709551615 - (l[k].toNat - 48) : Nat) : Int)).tdiv 10 = (((18446744073709551615 - (l[k].toNat - 48)) / 10 : Nat) : Int) := by rw [Int.tdiv_eq_ediv_of_nonneg (by omega)]; push_cast; rfl
        have hqw : IntKind.u64.wrap ((((18446744073709551615 - (l[k].toNat - 48)) / 10 : Nat) : Int)) = (((18446744073709551615 - (l[k].toNat - 48)) / 10 : Nat) : Int) := wrapU_small (by omega)
        by_cases hov : (((18446744073709551615 - (l[k].toNat - 48)) / 10 : Nat) : Int) < (val (l.take k) : Int)
        · simp [e0, e5, e4, hkN, hk, hix, hlo, hhi, hw8, hw6, hws, aBin_quo, hq, hqw, hov, Go.undef, eds, -Int.natCast_ediv]
          intro n hn
          have h1 := is_val hn
          have h2 := val_ge (l := l.take (k + 1)) (l.drop (k + 1))
          rw [List.take_append_drop] at h2
          have h3 := hn.1
          omega
        · have hm1 : IntKind.u64.wrap (10 * (val (l.take k) : Int)) = ((10 * val (l.take k) : Nat) : Int) := by rw [wrapU_small (by omega)]; push_cast; rfl
          have hm2 : IntKind.u64.wrap (((10 * val (l.take k) : Nat) : Int) + ((l[k].toNat - 48 : Nat) : Int)) = ((val (l.take (k + 1)) : Nat) : Int) := by rw [wrapU_small (by omega), hvt]; omega
          simp [e0, e5, e4, hkN, hk, hix, hlo, hhi, hw8, hw6, hws, aBin_quo, hq, hqw, hov, Go.undef, eds, -Int.natCast_ediv, hm1, hw]
          refine ⟨by push_cast at hm2; exact hm2, by omega, ?_⟩
          intro b hb
          rw [htk] at hb
          rcases List.mem_append.1 hb with hb | hb
          · exact hd b hb
          · rw [List.mem_singleton] at hb
            subst hb
            unfold isD; omega
      · rintro ⟨env, H2, ds⟩ ⟨e0, eds, rfl, e5, e4, hv, hd⟩
        simp only at e0 eds e5 e4
        rw [List.take_length] at e4 hv hd
        simp [e0, e5, e4, eds]
        exact ⟨val l, ⟨hv, (dec_val hne hd hcanon).symm⟩, rfl⟩
      · simp [val, e0]
    exact hmain
end Go.Proofs.YtmeaeafceankkaaDoor.C

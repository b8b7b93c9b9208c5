/- MarksTells over the small heap. Own text of this session. -/
import Derived.Test.YtdmidlgnfepfjaaDoorWith
set_option linter.unusedVariables false
set_option linter.unusedSimpArgs false
set_option maxRecDepth 4000
set_option maxHeartbeats 8000000
namespace Go.Proofs.YtdmidlgnfepfjaaDoor.C
open Go Go.RowKit Go.Proofs.YtdmidlgnfepfjaaDoorA Go.Proofs.YtdmidlgnfepfjaaDoor.Ones
variable {H : AH}
/-- a set's footprint -/
def Ft (S W : Nat) (l : Nat) : Prop := l = S ∨ l = W
/-- what the law's loop keeps: the row of what was seen, and the set -/
def TellsI (D E L mk S W w : Nat) (xs : List Nat) (env1 : Env) (k : Nat) (H : AH) (Ok : Nat → Prop) : Prop :=
  ∃ sv O ws', (∀ x, Ok x ↔ (x = D ∨ x = E ∨ x = L ∨ O = some x ∨ Ft S W x)) ∧ k ≤ xs.length ∧ H.get D = some (.cells [ptr S] 23 true 0) ∧ H.get E = some (.cells [sv] 34 true 0) ∧
    H.get L = some (.loop env1 90 #[74] c4_0as c4_0bd .ready none mk) ∧ Row 3 true H sv (icells (xs.take k)) O ∧ IsSet H S W w ws' ∧
    (∀ o, O = some o → o ≠ D ∧ o ≠ E ∧ o ≠ L ∧ ¬ Ft S W o) ∧ (¬ Ft S W D ∧ ¬ Ft S W E ∧ ¬ Ft S W L) ∧ (D < H.next ∧ E < H.next ∧ L < H.next) ∧ D ≠ E ∧ D ≠ L ∧ E ≠ L
theorem TellsI.stable {D E L mk S W w : Nat} {xs : List Nat} {env1 : Env} {k : Nat} {H H' : AH} {Ok : Nat → Prop} (h : TellsI D E L mk S W w xs env1 k H Ok) (hk : ∀ l, Ok l → H'.get l = H.get l) (hn : H.next ≤ H'.next) : TellsI D E L mk S W w xs env1 k H' Ok := by
  obtain ⟨sv, O, ws', h1, h2, h3, h4, h5, h6, h7, h8, h9, h10, h11⟩ := h
  have hkp : Keep (fun l => ¬ Ok l) H H' := ⟨hn, fun l _ hl => hk l (Classical.not_not.1 hl)⟩
  refine ⟨sv, O, ws', h1, h2, ?_, ?_, ?_, h6.same (fun l hl => hk l ((h1 l).2 (by simp [hl]))) hn, h7.keep hkp (fun hn => hn ((h1 S).2 (by simp [Ft]))) (fun hn => hn ((h1 W).2 (by simp [Ft]))), h8, h9, by omega, h11⟩
  · rw [hk _ ((h1 _).2 (by simp)), h3]
  · rw [hk _ ((h1 _).2 (by simp)), h4]
  · rw [hk _ ((h1 _).2 (by simp)), h5]
theorem TellsI.low {D E L mk S W w : Nat} {xs : List Nat} {env1 : Env} {k : Nat} {H : AH} {Ok : Nat → Prop} (h : TellsI D E L mk S W w xs env1 k H Ok) : ∀ l, Ok l → l < H.next := by
  obtain ⟨sv, O, ws', h1, h2, h3, h4, h5, h6, h7, h8, h9, h10, h11⟩ := h
  intro l hl
  rcases (h1 l).1 hl with h | h | h | h | h
  · omega
  · omega
  · omega
  · subst h; exact h6.low
  · rcases h with h | h
    · subst h; exact h7.lS
    · subst h; exact h7.lW
theorem tells_client {D E L mk S W w : Nat} {xs : List Nat} {env1 : Env} {m : Nat} (hm : xs.length = m) (e5 : env1 5 = ptr D) (e14 : env1 14 = ptr E) (hw : w = 65536) (hxw : ∀ x ∈ xs, x < w) (hx1 : xs.length ≤ 1000000) :
    Client cx (.func (.yield L) #[] #[]) (fun k => #[i64 ((xs[k]?).getD 0 : Nat)]) m (fun k => TellsI D E L mk S W w xs env1 k) (fun _ _ => False) := by
  subst hm
  refine ⟨fun h => h.stable, fun h => h.elim, fun h => h.low, fun h => h.elim, ?_⟩
  rintro k H Ok hk ⟨sv, O, ws', h1, h2, h3, h4, h5, h6, h7, h8, h9, h10, h11⟩
  have hx0 : xs[k]? = some xs[k] := List.getElem?_eq_getElem hk
  have hxk := hxw xs[k] (List.getElem_mem hk)
  generalize xs[k] = x at hx0 hxk
  have hlen : (icells (xs.take k)).length = k := by simp; omega
  refine yield_go h5 rfl c4_0as_c_code c4_0bd_c_code c4_0as_c_ok c4_0bd_c_ok ?_
  rw [hx0]
  simp [c4_0as_c, bindAll, h5]
  generalize hHb : upd H.get L (.loop env1 90 #[74] c4_0as c4_0bd .busy none mk) = gb
  have hgb : ∀ y, y ≠ L → gb y = H.get y := fun y hy => by rw [← hHb]; simp [hy]
  have hgl : gb L = some (.loop env1 90 #[74] c4_0as c4_0bd .busy none mk) := by rw [← hHb]; simp
  have hrow : Row 3 true ⟨H.next, gb⟩ sv (icells (xs.take k)) O := h6.same (fun o ho => hgb o (h8 o ho).2.2.1) (Nat.le_refl _)
  have hkb : Keep (fun l => l = L) H ⟨H.next, gb⟩ := ⟨Nat.le_refl _, fun l _ hn => hgb l hn⟩
  have hlow : ∀ l, Ft S W l → l < H.next := fun l h => by
    rcases h with h | h
    · subst h; exact h7.lS
    · subst h; exact h7.lW
  have hFt : ∀ l, Ft S W l → l ≠ L ∧ l ≠ D ∧ l ≠ E ∧ l < H.next ∧ O ≠ some l := fun l hf =>
    ⟨fun e => h9.2.2 (e ▸ hf), fun e => h9.1 (e ▸ hf), fun e => h9.2.1 (e ▸ hf), hlow l hf, fun e => (h8 l e).2.2.2 hf⟩
  have fS : Ft S W S := .inl rfl
  have fW : Ft S W W := .inr rfl
  have hq1 : IsSet ⟨H.next, gb⟩ S W w ws' := h7.keep hkb (fun e => (hFt S fS).1 e) (fun e => (hFt W fW).1 e)
  obtain ⟨H2, hap, hn2, hget, hrow2, hkeep⟩ := row_append el34 hrow (by rw [hlen]; omega) (v := i64 (x : Nat)) rfl
  simp at hn2
  have hl2 : ∀ y, y < H.next → O ≠ some y → H2.get y = gb y := fun y h1 h2 => hkeep y h1 h2
  have oD : O ≠ some D := fun e => (h8 _ e).1 rfl
  have oE : O ≠ some E := fun e => (h8 _ e).2.1 rfl
  have oL : O ≠ some L := fun e => (h8 _ e).2.2.1 rfl
  simp only [hlen] at hap hrow2
  simp [c4_0bd_c, e5, e14, hgb, h11, h3, h4, hap, hl2 E h10.2.1 oE, hl2 D h10.1 oD]
  have hq2 : IsSet ⟨H2.next, upd H2.get E (.cells [sl (H.next + 1) 0 (k + 1)] 34 true 0)⟩ S W w ws' := by
    refine hq1.keep (F := fun l => l = E ∨ O = some l) ⟨by simp; omega, fun l hl hn => ?_⟩ ?_ ?_
    · simp at hl hn
      simp [hn.1, hl2 l hl hn.2]
    · rintro (e | e)
      · exact (hFt S fS).2.2.1 e
      · exact (hFt S fS).2.2.2.2 e
    · rintro (e | e)
      · exact (hFt W fW).2.2.1 e
      · exact (hFt W fW).2.2.2.2 e
  have gD : (⟨H2.next, upd H2.get E (.cells [sl (H.next + 1) 0 (k + 1)] 34 true 0)⟩ : AH).get D = some (.cells [ptr S] 23 true 0) := by simp [h11, hl2 D h10.1 oD, hgb, h3]
  have gE : (⟨H2.next, upd H2.get E (.cells [sl (H.next + 1) 0 (k + 1)] 34 true 0)⟩ : AH).get E = some (.cells [sl (H.next + 1) 0 (k + 1)] 34 true 0) := by simp
  have gL : (⟨H2.next, upd H2.get E (.cells [sl (H.next + 1) 0 (k + 1)] 34 true 0)⟩ : AH).get L = some (.loop env1 90 #[74] c4_0as c4_0bd .busy none mk) := by simp [h11.2.2.symm, hl2 L h10.2.2 oL, hgl]
  have gR : Row 3 true ⟨H2.next, upd H2.get E (.cells [sl (H.next + 1) 0 (k + 1)] 34 true 0)⟩ (sl (H.next + 1) 0 (k + 1)) (icells (xs.take (k + 1))) (some (H.next + 1)) := by
    have : icells (xs.take (k + 1)) = icells (xs.take k) ++ [i64 (x : Nat)] := by rw [List.take_add_one, hx0, Option.toList, icells, List.map_append]; rfl
    rw [this]
    refine hrow2.same (fun o e => ?_) (Nat.le_refl _)
    cases e
    simp [show ¬ H.next + 1 = E by omega]
  have gK : ∀ l, l < H.next → ¬ Ok l → (⟨H2.next, upd H2.get E (.cells [sl (H.next + 1) 0 (k + 1)] 34 true 0)⟩ : AH).get l = H.get l := by
    intro l hl hn
    have n12 : ¬ l = E := fun e => hn ((h1 l).2 (by simp [e]))
    have nL : ¬ l = L := fun e => hn ((h1 l).2 (by simp [e]))
    have nO : O ≠ some l := fun e => hn ((h1 l).2 (by simp [e]))
    simp [n12, hl2 l hl nO, hgb l nL]
  have gn : (⟨H2.next, upd H2.get E (.cells [sl (H.next + 1) 0 (k + 1)] 34 true 0)⟩ : AH).next = H.next + 2 := by simp [hn2]
  generalize (⟨H2.next, upd H2.get E (.cells [sl (H.next + 1) 0 (k + 1)] 34 true 0)⟩ : AH) = H3 at *
  obtain ⟨z, hz⟩ : ∃ z : Nat, z = 65535 := ⟨_, rfl⟩
  have hput := put_run (H := H3) (show IsSet H3 S W w ws' from hq2) (i := z) (by omega)
  rw [show ((z : Nat) : Int) = 65535 by omega] at hput
  refine callV_R cb9 hput ?_
  rintro _ H4 ⟨rfl, hk4, hn4, ws4, hq4, _⟩
  have nW : ∀ l, (l = D ∨ l = E ∨ l = L ∨ H.next ≤ l) → ¬ l = W := fun l h hf => by
    have := hFt W fW
    subst hf
    rcases h with h | h | h | h
    · exact this.2.1 h
    · exact this.2.2.1 h
    · exact this.1 h
    · have := this.2.2.2.1; omega
  have kD : H4.get D = some (.cells [ptr S] 23 true 0) := by rw [hk4.get (by omega) (nW _ (by simp)), gD]
  simp [e5, e14, kD]
  refine callV_R cb17 (drop_run hq4 (i := x) hxk) ?_
  rintro _ H5 ⟨rfl, hk5, hn5, ws5, hq5, _⟩
  have kE : H5.get E = some (.cells [sl (H.next + 1) 0 (k + 1)] 34 true 0) := by rw [hk5.get (by omega) (nW _ (by simp)), hk4.get (by omega) (nW _ (by simp)), gE]
  have kL : H5.get L = some (.loop env1 90 #[74] c4_0as c4_0bd .busy none mk) := by rw [hk5.get (by omega) (nW _ (by simp)), hk4.get (by omega) (nW _ (by simp)), gL]
  have kD5 : H5.get D = some (.cells [ptr S] 23 true 0) := by rw [hk5.get (by omega) (nW _ (by simp)), kD]
  have kR := (gR.keep hk4 (fun l e => nW l (by cases e; omega))).keep hk5 (fun l e => nW l (by cases e; omega))
  simp [kL, Ex.isNormal, Ex.jump]
  have hU : Keep (fun l => l = L) H5 ⟨H5.next, upd H5.get L (.loop env1 90 #[74] c4_0as c4_0bd .ready none mk)⟩ := ⟨Nat.le_refl _, fun l _ hn => by simp at hn; simp [hn]⟩
  refine ⟨fun y => y = D ∨ y = E ∨ y = L ∨ some (H.next + 1) = some y ∨ Ft S W y, ?_, ⟨by simp; omega, fun l hl hn => ?_⟩, ?_⟩
  · intro l hl
    rcases hl with h | h | h | h | h
    · exact .inl ((h1 l).2 (by simp [h]))
    · exact .inl ((h1 l).2 (by simp [h]))
    · exact .inl ((h1 l).2 (by simp [h]))
    · right; cases h; omega
    · exact .inl ((h1 l).2 (by simp [h]))
  · have nL : ¬ l = L := fun e => hn ((h1 l).2 (by simp [e]))
    have nf : ¬ l = W := fun e => hn ((h1 l).2 (by simp [Ft, e]))
    simp [nL]
    rw [hk5.get (by omega) nf, hk4.get (by omega) nf, gK l hl hn]
  · refine ⟨_, some (H.next + 1), ws5, fun y => Iff.rfl, by omega, ?_, ?_, by simp, kR.keep hU (fun l e h => by cases e; omega), hq5.keep hU (fun e => (hFt S fS).1 e) (fun e => (hFt W fW).1 e), ?_, h9, by simp; omega, h11⟩
    · simp [h11.2.1, kD5]
    · simp [h11.2.2, kE]
    · intro o e
      cases e
      refine ⟨by omega, by omega, by omega, fun e => ?_⟩
      have := (hFt _ e).2.2.2.1; omega
theorem u8_wf {a : Int} (h : (Lit.int .u8 a).wf = true) : 0 ≤ a ∧ a ≤ 255 := by
  simp [Lit.wf, IntKind.min, IntKind.max, IntKind.signed, IntKind.bits] at h
  exact h
theorem with_elemsB {ws ws' : List Nat} {n N : Nat} (hn : n < N) (h : ∀ j, bitAt ws' j = if j = n then true else bitAt ws j) : withL (elemsB ws N) n = elemsB ws' N := by
  rw [elemsB_F, elemsB_F, with_elems _ hn]
  exact elemsF_congr N (fun j _ => (h j).symm)
theorem marksTells_run {sv : Value} {zs : List Int} {len : Nat} {O : Option Nat} {a1 : Int} (hg : HasG gs H) (hn : nG ≤ H.next) (hrow : Row 28 false H sv (zs.map (Value.int .u16)) O) (hlen : zs.length = len) (hwf : ∀ n ∈ zs, (Lit.int .u16 n).wf = true) (w1 : (Lit.int .u8 a1).wf = true) :
    CallR cx 4 #[sv, .int .u8 a1] H (fun v _ => v = .bool true) := by
  have b1 := u8_wf w1
  obtain ⟨most, hmost⟩ : ∃ m : Nat, (m : Int) = a1 := ⟨a1.toNat, by omega⟩
  have hw3 : IntKind.i64.wrap a1 = (most : Int) := by rw [w64 (by omega)]; omega
  obtain ⟨ra, rfl, hra⟩ := hrow.isSlice
  simp only [List.length_map] at hrow
  obtain ⟨w, hw⟩ : ∃ w : Nat, w = 65536 := ⟨_, rfl⟩
  have hnew := mnew_run (H := H) (w := w) (by omega)
  rw [show ((w : Nat) : Int) = 65536 by omega] at hnew
  have hz16 : ∀ k (hk : k < zs.length), 0 ≤ zs[k] ∧ zs[k] ≤ 65535 := fun k hk => u16_wf (hwf _ (List.getElem_mem hk))
  refine wk4 (by simp) ?_
  unfold c4
  refine aw_cut (fun t => t.env 0 = .slice ra zs.length zs.length ∧ t.env 1 = .int .u8 a1 ∧ t.ds = [] ∧ t.H = H) (by simp) ?_
  rintro ⟨env, H', ds⟩ ⟨e0, e1, eds, hH⟩
  simp only at e0 e1 eds hH
  subst hH
  -- the set
  refine aw_cut (fun t => t.env 0 = .slice ra zs.length zs.length ∧ t.env 1 = .int .u8 a1 ∧ t.env 6 = i64 0 ∧ t.ds = [] ∧ Fresh H' t.H ∧ ∃ D, t.env 5 = ptr D ∧ H'.next + 1 < D ∧ D < t.H.next ∧ t.H.get D = some (.cells [ptr (H'.next + 1)] 23 true 0) ∧ IsSet t.H (H'.next + 1) H'.next w (List.replicate ((w + 63) / 64) 0)) ?_ ?_
  · simp
    refine callV_R cb7 hnew ?_
    rintro _ H1 ⟨rfl, f1, hn1, hs⟩
    simp [alloc23, e0, e1, eds]
    refine ⟨⟨by have := f1.1; simp; omega, fun l hl _ => ?_⟩, by omega, ?_⟩
    · simp [show ¬ l = H1.next by have := f1.1; omega]; exact f1.get hl
    · refine hs.fresh ⟨by simp, fun l hl _ => ?_⟩
      simp [show ¬ l = H1.next by omega]
  clear e0 e1 eds
  rintro ⟨env, H1, ds⟩ ⟨e0, e1, e6, eds, f1, D, e5, hD, hDl, gD, hs⟩
  simp only at e0 e1 e5 e6 eds f1 hDl gD hs
  generalize hS : H'.next + 1 = S at *
  generalize hW : H'.next = W at *
  refine aw_cut (fun t => t.env 0 = .slice ra zs.length zs.length ∧ t.env 1 = .int .u8 a1 ∧ t.env 5 = ptr D ∧ t.ds = [] ∧ t.H = H1) (by simp [e0, e1, e5, e6, gD, eds]) ?_
  clear e0 e1 e5 e6 eds
  rintro ⟨env, H2, ds⟩ ⟨e0, e1, e5, eds, hH⟩
  simp only at e0 e1 e5 eds hH
  subst hH
  have hgf : ∀ {H3 : AH}, Fresh H' H3 → HasG gs H3 := fun f => hg.fresh gs_lt (by omega) f
  by_cases h200 : 200 < (zs.length : Int)
  · simp [e0, h200]
    refine callV_R cba (alive_run (hgf f1)) ?_
    rintro _ _ ⟨rfl, _⟩
    simp [eds]
  refine aw_cut (fun t => t.env 0 = .slice ra zs.length zs.length ∧ t.env 1 = .int .u8 a1 ∧ t.env 5 = ptr D ∧ t.ds = [] ∧ t.H = H2) (by simp [e0, e1, e5, h200, eds]) ?_
  clear e0 e1 e5 eds
  rintro ⟨env, H1, ds⟩ ⟨e0, e1, e5, eds, hH⟩
  simp only at e0 e1 e5 eds hH
  subst hH
  refine aw_cut (fun t => t.env 0 = .slice ra zs.length zs.length ∧ t.env 1 = .int .u8 a1 ∧ t.env 5 = ptr D ∧ t.env 7 = .slice none 0 0 ∧ t.ds = [] ∧ t.H = H1) (by simp [e0, e1, e5, eds]) ?_
  clear e0 e1 e5 eds
  rintro ⟨env, H2, ds⟩ ⟨e0, e1, e5, e7, eds, hH⟩
  simp only at e0 e1 e5 e7 eds hH
  subst hH
  -- the numbers are put in
  refine aw_cut (fun t => t.env 1 = .int .u8 a1 ∧ t.env 5 = ptr D ∧ t.ds = [] ∧ Fresh H' t.H ∧ D < t.H.next ∧ t.H.get D = some (.cells [ptr S] 23 true 0) ∧ ∃ ws, IsSet t.H S W w ws ∧ ∃ O', Row 3 true t.H (t.env 7) (icells (elemsB ws w)) O' ∧ (∀ x, O' = some x → D < x) ∧ (elemsB ws w).length ≤ 200) ?_ ?_
  · simp [e0]
    refine aw_loop_to zs.length (fun k t => t.env 1 = .int .u8 a1 ∧ t.env 5 = ptr D ∧ t.env 30 = .slice ra zs.length zs.length ∧ t.env 31 = i64 (zs.length : Nat) ∧ t.env 32 = i64 (k : Nat) ∧ t.ds = [] ∧ Fresh H' t.H ∧ D < t.H.next ∧ t.H.get D = some (.cells [ptr S] 23 true 0) ∧ ∃ ws, IsSet t.H S W w ws ∧ ∃ O', Row 3 true t.H (t.env 7) (icells (elemsB ws w)) O' ∧ (∀ x, O' = some x → D < x) ∧ (elemsB ws w).length ≤ k) ?_ ?_ ?_
    · clear e0 e1 e5 e7 eds
      rintro k ⟨env, H3, ds⟩ hk ⟨e1, e5, e30, e31, e32, eds, f3, hD3, gD3, ws, hs3, O', hr3, hO3, hl3⟩
      simp only at e1 e5 e30 e31 e32 eds f3 hD3 gD3 hs3 hr3
      generalize e7 : env 7 = wv at hr3
      have hkN : (k : Int) < zs.length := by omega
      have hwk := w64 (n := (k : Int) + 1) (by omega)
      have hz := hz16 k hk
      obtain ⟨la, oa, ca, hraa, g1, g2, _⟩ := (hrow.keep f3 (fun _ _ => id)).cell (i := k) (x := .int .u16 zs[k]) (by simp [hk])
      have hix := ix22 la oa zs.length zs.length .i64 (k : Int) (by omega) hkN
      rw [Int.toNat_natCast] at hix
      obtain ⟨n, hnn⟩ : ∃ n : Nat, zs[k] = (n : Int) := ⟨(zs[k]).toNat, by omega⟩
      rw [hnn] at g2 hz
      have hwn := w64 (n := (n : Int)) (by omega)
      simp [e5, e30, e31, e32, hk, hkN, hraa, hix, g1, g2, gD3, hwn]
      refine callV_R cb9 (put_run hs3 (i := n) (by omega)) ?_
      rintro _ H4 ⟨rfl, k4, hn4, ws', hs4, hb4⟩
      have hr4 := hr3.keep k4 (fun l e h => by have := hO3 l e; omega)
      have f4 : Fresh H' H4 := ⟨by have := f3.1; omega, fun l hl _ => by rw [k4.get (by have := f3.1; omega) (by omega), f3.get hl]⟩
      have gD4 : H4.get D = some (.cells [ptr S] 23 true 0) := by rw [k4.get hD3 (by omega), gD3]
      simp [e7, hwn]
      refine callV_R cb13 (with_run hr4 (by omega) (i := n) (by omega)) ?_
      rintro v H5 ⟨f5, O5, hr5, hO5⟩
      rw [with_elemsB (by omega) hb4] at hr5
      simp [e1, e5, e30, e31, e32, hraa, hwk, eds]
      refine ⟨f4.trans f5, by have := f5.1; omega, by rw [f5.get (by omega), gD4], ws', hs4.fresh f5, O5, hr5, fun x hx => by have := hO5 x hx; omega, ?_⟩
      have hwe := with_elemsB (N := w) (show n < w by omega) hb4
      rw [← hwe, withL]
      have h1 := List.length_filter_le (fun x => decide (x ≠ n)) ((elemsB ws w).drop (ltN n (elemsB ws w)))
      have h2 := ltN_le n (elemsB ws w)
      simp only [List.length_append, List.length_cons, List.length_take, List.length_drop] at h1 ⊢
      omega
    · clear e0 e1 e5 e7 eds
      rintro ⟨env, H3, ds⟩ ⟨e1, e5, e30, e31, e32, eds, f3, hD3, gD3, ws, hs3, O', hr3, hO3, hl3⟩
      simp only at e1 e5 e30 e31 e32 eds f3 hD3 gD3 hs3 hr3
      simp [e1, e5, e31, e32, eds]
      exact ⟨f3, hD3, gD3, ws, hs3, O', hr3, hO3, by omega⟩
    · simp [e0, e1, e5, e7, eds]
      refine ⟨f1, hDl, gD, _, hs, none, ?_⟩
      have : elemsB (List.replicate ((w + 63) / 64) 0) w = [] := by
        have h1 := elemsB_len (List.replicate ((w + 63) / 64) 0) w
        have h2 : ∀ k, below (List.replicate ((w + 63) / 64) 0) k = 0 := fun k => by
          induction k with
          | zero => rfl
          | succ k ih => rw [below, ih, bitAt_zero]; rfl
        rw [h2] at h1
        exact List.length_eq_zero_iff.1 h1
      rw [this]
      exact ⟨Row.nil, by simp, by simp⟩
  clear e0 e1 e5 e7 eds
  rintro ⟨env, H3, ds⟩ ⟨e1, e5, eds, f3, hD3, gD3, ws, hs3, O', hr3, hO3, hl3⟩
  simp only at e1 e5 eds f3 hD3 gD3 hs3 hr3
  generalize e7 : env 7 = wv at hr3
  have hN : 64 * ws.length = w := by have := hs3.len; omega
  have htold := told_run (most := most) hs3 (hgf f3) (by have := f3.1; omega)
  rw [hN] at htold
  have hlt : ∀ x ∈ elemsB ws w, x < w := by rw [elemsB_F]; exact elemsF_lt _ w
  have hbl := elemsB_len ws w
  generalize hxs : elemsB ws w = xs at *
  obtain ⟨rl, rfl, _⟩ := hr3.isSlice
  simp only [List.length_map] at e7 hr3
  obtain ⟨c, hc⟩ : ∃ c, c = min xs.length most := ⟨_, rfl⟩
  have hmin : min (xs.length : Int) (most : Int) = (c : Int) := by rw [hc]; omega
  have hcl : c ≤ xs.length := by omega
  refine aw_cut (fun t => t.env 1 = .int .u8 a1 ∧ t.env 5 = ptr D ∧ t.env 7 = .slice rl xs.length xs.length ∧ t.env 10 = i64 (c : Nat) ∧ t.ds = [] ∧ t.H = H3) (by simp [e1, e5, e7, hw3, hmin, eds]) ?_
  clear e1 e5 e7 eds
  rintro ⟨env, H4, ds⟩ ⟨e1, e5, e7, e10, eds, hH⟩
  simp only at e1 e5 e7 e10 eds hH
  subst hH
  -- told
  refine aw_cut (fun t => t.env 5 = ptr D ∧ t.env 7 = .slice rl xs.length xs.length ∧ t.env 10 = i64 (c : Nat) ∧ t.env 12 = .bool true ∧ t.ds = [] ∧ Fresh H4 t.H ∧ ∃ Of, Row 3 true t.H (t.env 11) (icells (xs.take most)) Of) ?_ ?_
  · simp [e1, e5, gD3, hw3]
    refine callV_R cb14 htold ?_
    rintro _ H5 ⟨tv, Of, rfl, hrT, _, f5⟩
    simp [e5, e7, e10, eds, f5]
    exact ⟨Of, by simpa [icells] using hrT⟩
  clear e1 e5 e7 e10 eds
  rintro ⟨env, H5, ds⟩ ⟨e5, e7, e10, e12, eds, f5, Of, hrT⟩
  simp only at e5 e7 e10 e12 eds f5 hrT
  generalize e11 : env 11 = tv at hrT
  have gD5 : H5.get D = some (.cells [ptr S] 23 true 0) := by rw [f5.get hD3, gD3]
  have hs5 := hs3.fresh f5
  have hr5 := hr3.keep f5 (fun _ _ => id)
  have f35 := f3.trans f5
  -- All
  refine aw_cut (fun t => t.env 5 = ptr D ∧ t.env 7 = .slice rl xs.length xs.length ∧ t.env 10 = i64 (c : Nat) ∧ t.env 11 = tv ∧ t.env 12 = .bool true ∧ t.env 13 = .func (.func 26) #[] #[ptr H5.next] ∧ t.ds = [] ∧ t.H = ⟨H5.next + 1, upd H5.get H5.next (.cells [ptr S] 23 true 0)⟩) ?_ ?_
  · simp [e5, gD5]
    refine callV_R cb15 all_run ?_
    rintro _ _ ⟨rfl, rfl⟩
    simp [e5, e7, e10, e11, e12, eds]
  clear e5 e7 e10 e11 e12 eds
  rintro ⟨env, H6, ds⟩ ⟨e5, e7, e10, e11, e12, e13, eds, hH⟩
  simp only at e5 e7 e10 e11 e12 e13 eds hH
  have f6 : Fresh H5 H6 := by rw [hH]; exact Fresh.ofNew
  have gB : H6.get H5.next = some (.cells [ptr S] 23 true 0) := by rw [hH]; simp
  have hB : H5.next < H6.next := by rw [hH]; simp
  clear hH
  have hD5 : D < H5.next := Nat.lt_of_lt_of_le hD3 f5.1
  have gD6 : H6.get D = some (.cells [ptr S] 23 true 0) := by rw [f6.get hD5, gD5]
  have hs6 := hs5.fresh f6
  have hr6 := hr5.keep f6 (fun _ _ => id)
  have hrT6 := hrT.keep f6 (fun _ _ => id)
  -- the first ones are as they should be
  refine aw_cut (fun t => t.env 5 = ptr D ∧ t.env 7 = .slice rl xs.length xs.length ∧ t.env 13 = .func (.func 26) #[] #[ptr H5.next] ∧ t.ds = [] ∧ t.H = H6) ?_ ?_
  · obtain ⟨sp, hsp, hrowp⟩ := row_part el34 hr6 (lo := none) (hi := some (i64 (c : Int))) (a := 0) (b := c) (by simp [bnd]; omega) (by simp [bnd]) (by omega) (by simpa using hcl)
    have htk : ((icells xs).take c).drop 0 = icells (xs.take most) := by
      rw [List.drop_zero, ← List.map_take]
      congr 1
      rcases Nat.le_total xs.length most with h | h
      · rw [List.take_of_length_le (by omega), List.take_of_length_le (by omega)]
      · have : c = most := by omega
        rw [this]
    rw [htk] at hrowp
    simp [e7, e10, e11, e12, e13, hsp]
    refine callV_R cb16 (ints_run hrT6 hrowp (by simp; omega)) ?_
    rintro _ H7 ⟨rfl, hH⟩
    subst hH
    simp [e5, e7, e13, eds]
  clear e5 e7 e10 e11 e12 e13 eds
  rintro ⟨env, H7, ds⟩ ⟨e5, e7, e13, eds, hH⟩
  simp only at e5 e7 e13 eds hH
  subst hH
  refine aw_cut (fun t => t.env 5 = ptr D ∧ t.env 7 = .slice rl xs.length xs.length ∧ t.env 13 = .func (.func 26) #[] #[ptr H5.next] ∧ t.env 14 = ptr H7.next ∧ t.ds = [] ∧ t.H = ⟨H7.next + 1, upd H7.get H7.next (.cells [.slice none 0 0] 34 true 0)⟩) (by simp [alloc34, e5, e7, e13, eds]) ?_
  clear e5 e7 e13 eds
  rintro ⟨env, H8, ds⟩ ⟨e5, e7, e13, e14, eds, hH⟩
  simp only at e5 e7 e13 e14 eds hH
  have hn8 : H8.next = H7.next + 1 := by rw [hH]
  have f8 : Fresh H7 H8 := by rw [hH]; exact Fresh.ofNew
  have gE8 : H8.get H7.next = some (.cells [.slice none 0 0] 34 true 0) := by rw [hH]; simp
  clear hH
  have hD7 : D < H7.next := by omega
  have gD8 : H8.get D = some (.cells [ptr S] 23 true 0) := by rw [f8.get hD7, gD6]
  have gB8 : H8.get H5.next = some (.cells [ptr S] 23 true 0) := by rw [f8.get hB, gB]
  have hs8 := hs6.fresh f8
  have hr8 := hr6.keep f8 (fun _ _ => id)
  have hg8 := hgf (f35.trans (f6.trans f8))
  -- the loop
  simp
  generalize henv : put env 90 (some 73) (env 13) = env1
  have k5 : env1 5 = ptr D := by rw [← henv]; simp [e5]
  have k7 : env1 7 = .slice rl xs.length xs.length := by rw [← henv]; simp [e7]
  have k14 : env1 14 = ptr H7.next := by rw [← henv]; simp [e14]
  have k73 : env1 73 = .func (.func 26) #[] #[ptr H5.next] := by rw [← henv]; simp [e13]
  clear henv
  have hfr9 : Fresh H8 ⟨H8.next + 2, upd (upd H8.get H8.next .mark) (H8.next + 1) (.loop env1 90 #[74] c4_0as c4_0bd .ready none H8.next)⟩ := ⟨by simp, fun l hl _ => by
    simp [show ¬ l = H8.next + 1 by omega, show ¬ l = H8.next by omega]⟩
  have hs9 := hs8.fresh hfr9
  have nFt : ∀ l, S < l → ¬ Ft S W l := fun l hl h => by rcases h with h | h <;> omega
  have hcl := tells_client (D := D) (E := H7.next) (L := H8.next + 1) (mk := H8.next) (S := S) (W := W) (w := w) (xs := xs) (env1 := env1) hbl k5 k14 hw hlt (by omega)
  rw [← hxs, ← hN] at hcl
  refine range_go (f := 26) (fs := #[]) (cs := #[ptr H5.next]) k73 (by kernel_rfl) (R := _) (all1_run (S := S) (W := W) (w := w) (ws := ws) (b := H5.next) (O := fun x => x = D ∨ x = H7.next ∨ x = H8.next + 1 ∨ (none : Option Nat) = some x ∨ Ft S W x)
    hcl hs9 ?_ ?_ ?_ ?_ ?_ ?_ ?_) ?_
  · exact hg8.fresh gs_lt (by have := f35.1; have := f6.1; have := f8.1; omega) hfr9
  · have := f35.1; have := f6.1; have := f8.1; simp; omega
  · intro l hl h
    rcases h with h | h | h | h | h
    · omega
    · omega
    · omega
    · cases h
    · rcases h with h | h <;> omega
  · rfl
  · simp; omega
  · simp [show ¬ H5.next = H8.next + 1 by omega, show ¬ H5.next = H8.next by omega, gB8]
  · rw [hN, hxs]
    refine ⟨.slice none 0 0, none, ws, fun y => Iff.rfl, Nat.zero_le _, ?_, ?_, by simp, ⟨⟨none, rfl, .inl rfl⟩, by simp⟩, hs9, fun o e => (by cases e), ⟨nFt _ (by omega), nFt _ (by omega), nFt _ (by omega)⟩, ⟨by simp; omega, by simp; omega, by simp⟩, by omega, by omega, by omega⟩
    · simp [show ¬ D = H8.next + 1 by omega, show ¬ D = H8.next by omega, gD8]
    · simp [show ¬ H7.next = H8.next + 1 by omega, show ¬ H7.next = H8.next by omega, gE8]
  · rintro v H9 ⟨rfl, O9, hO9, hk, hcase⟩
    rcases hcase with hI | hI
    case inr => exact hI.elim
    rw [hN, hxs] at hI
    obtain ⟨sv9, O9', ws9, h1, h2, h3, h4, h5, h6, h7, h8, h9, h10, h11⟩ := hI
    show withLoop (H9.get (H8.next + 1)) _
    rw [h5, withLoop_some]
    refine ⟨by simp, .normal, rfl, ?_⟩
    have nO : ∀ l, (l = H8.next ∨ (S < l ∧ l < H7.next ∧ l ≠ D) ∨ l < H'.next) → ¬ (l = D ∨ l = H7.next ∨ l = H8.next + 1 ∨ (none : Option Nat) = some l ∨ Ft S W l) := by
      intro l h
      rintro (h2 | h2 | h2 | h2 | h2)
      · omega
      · omega
      · omega
      · cases h2
      · rcases h2 with h2 | h2 <;> omega
    have hmk : H9.get H8.next = some .mark := by
      rw [hk.get (by simp) (nO _ (.inl rfl))]
      simp
    show aw cx 90 none _ _ ⟨env1, ⟨H9.next, YtdmidlgnfepfjaaDoorA.del H9.get (H8.next + 1)⟩, H8.next :: ds⟩
    have hkd : Keep (fun l => l = H8.next + 1) H9 ⟨H9.next, YtdmidlgnfepfjaaDoorA.del H9.get (H8.next + 1)⟩ := ⟨Nat.le_refl _, fun l _ hn => by simp [hn]⟩
    generalize hHA : (⟨H9.next, YtdmidlgnfepfjaaDoorA.del H9.get (H8.next + 1)⟩ : AH) = HA at *
    have hnA : HA.next = H9.next := by rw [← hHA]
    have hk1 := hk.1
    simp at hk1
    have j14 : HA.get H7.next = some (.cells [sv9] 34 true 0) := by rw [hkd.get (by omega) (by omega), h4]
    have jm : HA.get H8.next = some .mark := by rw [hkd.get (by omega) (by omega), hmk]
    rw [List.take_of_length_le (by omega)] at h6
    have jr : Row 3 true HA sv9 (icells xs) O9' := h6.keep hkd (fun l e => (h8 l e).2.2.1)
    have jrow : Row 3 true HA (.slice rl xs.length xs.length) (icells xs) O' := by
      refine hr8.same (fun l e => ?_) (by omega)
      have h3l := hO3 l e
      have h3h : l < H4.next := by subst e; exact hr3.low
      have := f5.1; have := f6.1
      rw [hkd.get (by omega) (by omega), hk.get (by simp; omega) (nO _ (.inr (.inl ⟨by omega, by omega, by omega⟩)))]
      simp [show ¬ l = H8.next + 1 by omega, show ¬ l = H8.next by omega]
    have hgA : HasG gs HA := fun y hy => by
      have hlt : y.1 < nG := of_decide_eq_true (List.all_eq_true.1 gs_lt y hy)
      have := f1.1; have := f35.1; have := f6.1; have := f8.1
      rw [hkd.get (by omega) (by omega), hk.get (by simp; omega) (nO _ (.inr (.inr (by omega))))]
      have := hg8 y hy
      simp [show ¬ y.1 = H8.next + 1 by omega, show ¬ y.1 = H8.next by omega]
      exact this
    simp [k7, k14, j14]
    refine callV_R cb16 (ints_run jr jrow (by omega)) ?_
    rintro _ HB ⟨rfl, hHB⟩
    rw [hHB]
    simp
    refine callV_R cba (alive_run hgA) ?_
    rintro _ HC ⟨rfl, hHC⟩
    subst hHC
    simp [takeMarks, jm, eds]
end Go.Proofs.YtdmidlgnfepfjaaDoor.C

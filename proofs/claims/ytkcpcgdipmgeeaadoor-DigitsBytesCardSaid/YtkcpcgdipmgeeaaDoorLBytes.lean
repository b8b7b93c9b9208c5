/- DigitsBytes over the small heap. Own text of this session. -/
import Derived.Test.YtkcpcgdipmgeeaaDoorHex4
set_option linter.unusedVariables false
set_option linter.unusedSimpArgs false
set_option maxRecDepth 4000
set_option maxHeartbeats 4000000
namespace Go.Proofs.YtkcpcgdipmgeeaaDoor.C
open Go Go.RowKit Go.Proofs.YtkcpcgdipmgeeaaDoorA Go.Proofs.YtkcpcgdipmgeeaaDoor.Plain
variable {H : AH}
theorem hex_inj : ∀ {l m : List UInt8}, hex l = hex m → l = m
  | [], [], _ => rfl
  | [], b :: m, h => by have := congrArg List.length h; rw [hex_len, hex_len] at this; simp at this
  | a :: l, [], h => by have := congrArg List.length h; rw [hex_len, hex_len] at this; simp at this
  | a :: l, b :: m, h => by
    have e : ∀ (x : UInt8) (r : List UInt8), hex (x :: r) = hd (x.toNat / 16) :: hd (x.toNat % 16) :: hex r := fun _ _ => rfl
    rw [e, e] at h
    simp only [List.cons.injEq] at h
    obtain ⟨h1, h2, h3⟩ := h
    have ha := UInt8.toNat_lt a
    have hb := UInt8.toNat_lt b
    have g1 := hd_inj ⟨a.toNat / 16, by omega⟩ ⟨b.toNat / 16, by omega⟩ h1
    have g2 := hd_inj ⟨a.toNat % 16, by omega⟩ ⟨b.toNat % 16, by omega⟩ h2
    simp only [Fin.mk.injEq] at g1 g2
    have : a = b := UInt8.toNat_inj.1 (by omega)
    rw [this, hex_inj h3]
theorem streq' (a b : List UInt8) (ox oy : Operand) : aBin Tryd.prog .eql 9 ox oy (.string (str a)) (.string (str b)) = some (.bool (decide (a = b))) := aBin_streqL ox oy un9 a b
/-- what reading told, in one form -/
theorem told_shape {s : List UInt8} {H0 H' : AH} {v : Value} (h : ToldH s H0 H' v) : ∃ sv l O ok, v = .tuple #[sv, .bool ok] ∧ Row 5 true H' sv (l.map u8v) O ∧ (ok = true → s = hex l) ∧ (ok = false → l = [] ∧ ∀ l', s ≠ hex l') := by
  rcases h with ⟨l, sv, O, h1, rfl, h2, _⟩ | ⟨h1, rfl⟩
  · exact ⟨sv, l, O, true, rfl, h2, fun _ => h1, fun h => by cases h⟩
  · exact ⟨_, [], none, false, rfl, Row.nil, (fun h => by cases h), fun _ => ⟨rfl, h1⟩⟩
theorem digitsBytes_run {sv : Value} {zs : List Int} {len : Nat} {O : Option Nat} {t : ByteArray} (hg : HasG gs H) (hn : nG ≤ H.next) (hrow : Row 5 false H sv (zs.map (Value.int .u8)) O) (hlen : zs.length = len) (hwf : ∀ n ∈ zs, (Lit.int .u8 n).wf = true) : CallR cx 3 #[sv, .string t] H (fun v _ => v = .bool true) := by
  rw [str_eta t]
  generalize t.data.toList = s
  obtain ⟨b, hb⟩ : ∃ b : List UInt8, zs.map (Value.int .u8) = b.map u8v := by
    refine ⟨zs.map fun n => UInt8.ofNat n.toNat, ?_⟩
    rw [List.map_map]
    refine List.map_congr_left fun n h => ?_
    have := hwf n h
    simp [Lit.wf, IntKind.min, IntKind.max, IntKind.signed, IntKind.bits] at this
    simp [u8v]; omega
  rw [hb] at hrow
  clear hb hwf hlen
  obtain ⟨ra, rfl, hra⟩ := hrow.isSlice
  simp only [List.length_map] at hrow ⊢
  refine wk3 (by simp) ?_
  unfold c3
  refine aw_cut (fun t => t.env 0 = .slice ra b.length b.length ∧ t.env 1 = .string (str s) ∧ t.ds = [] ∧ t.H = H) (by simp) ?_
  rintro ⟨env, H, ds⟩ ⟨e0, e1, eds, rfl⟩
  simp only at e0 e1 eds
  by_cases hbl : 200 < (b.length : Int)
  · simp [e0, e1, hbl]
    refine callV_R cba (alive_run hg) ?_
    rintro _ _ ⟨rfl, _⟩
    simp [eds]
  by_cases hsl : 200 < (s.length : Int)
  · simp [e0, e1, hbl, hsl]
    refine callV_R cba (alive_run hg) ?_
    rintro _ _ ⟨rfl, _⟩
    simp [eds]
  refine aw_cut (fun t => t.env 0 = .slice ra b.length b.length ∧ t.env 1 = .string (str s) ∧ t.ds = [] ∧ t.H = H) (by simp [e0, e1, eds, hbl, hsl]) ?_
  clear e0 e1 eds
  rintro ⟨env, H, ds⟩ ⟨e0, e1, eds, rfl⟩
  simp only at e0 e1 eds
  -- Hex
  refine aw_cut (fun t => t.env 0 = .slice ra b.length b.length ∧ t.env 1 = .string (str s) ∧ t.env 5 = .string (str (hex b)) ∧ t.ds = [] ∧ HasG gs t.H ∧ nG ≤ t.H.next ∧ Row 5 false t.H (.slice ra b.length b.length) (b.map u8v) O) ?_ ?_
  · simp [e0, e1]
    refine callV_R cb8 (hex_run hrow (by omega)) ?_
    rintro _ H1 ⟨rfl, hf⟩
    simp [e0, e1, eds]
    exact ⟨hg.fresh gs_lt hn hf, Nat.le_trans hn hf.1, hrow.keep hf (fun _ _ => id)⟩
  clear e0 e1 eds hrow hg hn
  rintro ⟨env, H, ds⟩ ⟨e0, e1, e5, eds, hg, hn, hrow⟩
  simp only at e0 e1 e5 eds hg hn hrow
  -- ReadHex of it
  refine aw_cut (fun t => t.env 0 = .slice ra b.length b.length ∧ t.env 1 = .string (str s) ∧ t.env 5 = .string (str (hex b)) ∧ t.env 7 = .bool true ∧ t.ds = [] ∧ HasG gs t.H ∧ nG ≤ t.H.next ∧ Row 5 false t.H (.slice ra b.length b.length) (b.map u8v) O ∧ ∃ Ox, Row 5 true t.H (t.env 6) (b.map u8v) Ox) ?_ ?_
  · simp [e0, e1, e5]
    refine callV_R cb9 (readHex_run (by rw [hex_len]; omega)) ?_
    rintro v H1 ⟨hf, hv⟩
    rcases hv with ⟨l, sv, Ox, h1, rfl, h2, _⟩ | ⟨h1, _⟩
    · obtain rfl := hex_inj h1
      simp [e0, e1, e5, eds]
      exact ⟨hg.fresh gs_lt hn hf, Nat.le_trans hn hf.1, hrow.keep hf (fun _ _ => id), Ox, h2⟩
    · exact absurd rfl (h1 b)
  clear e0 e1 e5 eds hrow hg hn
  rintro ⟨env, H, ds⟩ ⟨e0, e1, e5, e7, eds, hg, hn, hrow, Ox, hx⟩
  simp only at e0 e1 e5 e7 eds hg hn hrow hx
  generalize e6 : env 6 = xv at hx
  -- ReadHex of the text
  refine aw_cut (fun t => t.env 0 = .slice ra b.length b.length ∧ t.env 1 = .string (str s) ∧ t.env 5 = .string (str (hex b)) ∧ t.env 6 = xv ∧ t.env 7 = .bool true ∧ t.ds = [] ∧ HasG gs t.H ∧ nG ≤ t.H.next ∧ Row 5 false t.H (.slice ra b.length b.length) (b.map u8v) O ∧ Row 5 true t.H xv (b.map u8v) Ox ∧
    ∃ y Oy ok, t.env 9 = .bool ok ∧ Row 5 true t.H (t.env 8) (y.map u8v) Oy ∧ (ok = true → s = hex y) ∧ (ok = false → y = [] ∧ ∀ l', s ≠ hex l')) ?_ ?_
  · simp [e0, e1, e5, e6, e7]
    refine callV_R cb9 (readHex_run (s := s) (by omega)) ?_
    rintro v H1 ⟨hf, hv⟩
    obtain ⟨sv, y, Oy, ok, rfl, h1, h2, h3⟩ := told_shape hv
    simp [e0, e1, e5, e6, e7, eds]
    exact ⟨hg.fresh gs_lt hn hf, Nat.le_trans hn hf.1, hrow.keep hf (fun _ _ => id), hx.keep hf (fun _ _ => id), y, ⟨Oy, h1⟩, h2, h3⟩
  clear e0 e1 e5 e6 e7 eds hrow hg hn hx
  rintro ⟨env, H, ds⟩ ⟨e0, e1, e5, e6, e7, eds, hg, hn, hrow, hx, y, Oy, ok, e9, hy, hy1, hy2⟩
  simp only at e0 e1 e5 e6 e7 eds hg hn hrow hx e9 hy
  generalize e8 : env 8 = yv at hy
  refine aw_cut (fun t => t.env 0 = .slice ra b.length b.length ∧ t.env 1 = .string (str s) ∧ t.env 5 = .string (str (hex b)) ∧ t.env 6 = xv ∧ t.env 7 = .bool true ∧ t.env 8 = yv ∧ t.env 9 = .bool ok ∧ t.ds = [] ∧ HasG gs t.H ∧ nG ≤ t.H.next ∧ Row 5 false t.H (.slice ra b.length b.length) (b.map u8v) O ∧ Row 5 true t.H xv (b.map u8v) Ox ∧ Row 5 true t.H yv (y.map u8v) Oy ∧
    t.env 11 = .bool ok ∧ ∃ Oz, Row 5 true t.H (t.env 10) (y.map u8v) Oz) ?_ ?_
  · simp [e0, e1, e5, e6, e7, e8, e9]
    refine callV_R cb10 (rreadHex_run (s := s) (by omega)) ?_
    rintro v H1 ⟨hf, hv⟩
    obtain ⟨sv, z, Oz, ok', rfl, h1, h2, h3⟩ := told_shape hv
    have hok : ok' = ok := by
      cases ok <;> cases ok' <;> try rfl
      · exact absurd (h2 rfl) ((hy2 rfl).2 z)
      · exact absurd (hy1 rfl) ((h3 rfl).2 y)
    subst hok
    have hyz : z = y := by
      cases ok' with
      | true => exact hex_inj ((h2 rfl).symm.trans (hy1 rfl))
      | false => rw [(h3 rfl).1, (hy2 rfl).1]
    subst hyz
    simp [e0, e1, e5, e6, e7, e8, e9, eds]
    exact ⟨hg.fresh gs_lt hn hf, Nat.le_trans hn hf.1, hrow.keep hf (fun _ _ => id), hx.keep hf (fun _ _ => id), hy.keep hf (fun _ _ => id), Oz, h1⟩
  clear e0 e1 e5 e6 e7 e8 e9 eds hrow hg hn hx hy
  rintro ⟨env, H, ds⟩ ⟨e0, e1, e5, e6, e7, e8, e9, eds, hg, hn, hrow, hx, hy, e11, Oz, hz⟩
  simp only at e0 e1 e5 e6 e7 e8 e9 e11 eds hg hn hrow hx hy hz
  generalize e10 : env 10 = zv at hz
  simp [e0, e5]
  refine callV_R cb11 (rhex_run hrow (by omega)) ?_
  rintro _ H1 ⟨rfl, hf⟩
  have c1 := conv_row (hx.keep hf (fun _ _ => id))
  have c2 := conv_row (hrow.keep hf (fun _ _ => id))
  have c3' := conv_row (hy.keep hf (fun _ _ => id))
  have c4' := conv_row (hz.keep hf (fun _ _ => id))
  have hg1 := hg.fresh gs_lt hn hf
  have hn1 := Nat.le_trans hn hf.1
  cases ok with
  | false =>
    simp [e0, e1, e5, e6, e7, e8, e9, e10, e11, streq', c1, c2, c3', c4']
    refine callV_R cba (alive_run hg1) ?_
    rintro _ _ ⟨rfl, _⟩
    simp [eds]
  | true =>
    have hs := hy1 rfl
    simp [e0, e1, e5, e6, e7, e8, e9, e10, e11, streq', c1, c2, c3', c4']
    refine callV_R cb8 (hex_run (hy.keep hf (fun _ _ => id)) (by have := hex_len y; rw [← hs] at this; omega)) ?_
    rintro v H2 ⟨hv, hf2⟩
    rw [← hs] at hv
    subst hv
    simp [e1, streq']
    refine callV_R cba (alive_run (hg1.fresh gs_lt hn1 hf2)) ?_
    rintro _ _ ⟨rfl, _⟩
    simp [eds]
end Go.Proofs.YtkcpcgdipmgeeaaDoor.C

/- Bytes told as text by the document's functions, and read back; over the small heap. Own text of this session. -/
import Derived.Test.YtlbgincmndakmaaDoorHex
set_option linter.unusedVariables false
set_option linter.unusedSimpArgs false
set_option maxRecDepth 4000
set_option maxHeartbeats 4000000
namespace Go.Proofs.YtlbgincmndakmaaDoor.C
open Go Go.RowKit Go.Proofs.YtlbgincmndakmaaDoorA Go.Proofs.YtlbgincmndakmaaDoor.Plain
variable {H : AH}
@[simp ↓] theorem still_convert {nt : Nat} (d : Option Tmp) (t1 t2 : TypeId) (hb : isStrB t1 t2 = false) (x : Operand) (ty : TypeId) (gd : Option (Tmp × Bool)) (env : Env) (v : Value) (H2 : AH) : StillA cx nt ⟨d, .convert t1 t2 x, ty, gd⟩ env v H2 ↔ (yieldedA env nt gd = true → chk (aConv Tryd.prog t1 t2 (aeval env x) H2) = some v) := by
  have e : aop cx.P (.convert t1 t2 x) ty (aeval env) H2 = (chk (aConv Tryd.prog t1 t2 (aeval env x) H2)).map fun v => (v, H2) := by
    simp only [aop, hb]
    rfl
  simp only [StillA, e]
  cases chk (aConv Tryd.prog t1 t2 (aeval env x) H2) <;> simp
/-- ref.digit -/
theorem digit_run {n : Nat} (h : n < 16) : CallR cx 55 #[i64 n] H (fun v H' => v = u8v (hd n) ∧ H' = H) := by
  refine wk55 (by simp) ?_
  by_cases h10 : (n : Int) < 10
  · have hw : IntKind.u8.wrap (IntKind.i64.wrap (48 + (n : Int))) = (((hd n).toNat : Nat) : Int) := by
      rw [wrap_small (by omega), wrap8_small (by omega)]
      have : n < 10 := by omega
      simp [hd, this]; omega
    simp [c55, h10, hw]
  · have hw : IntKind.u8.wrap (IntKind.i64.wrap (87 + (n : Int))) = (((hd n).toNat : Nat) : Int) := by
      rw [wrap_small (by omega), wrap8_small (by omega)]
      have : ¬ n < 10 := by omega
      simp [hd, this]; omega
    simp [c55, h10, hw]
/-- ref.Hex -/
theorem rhex_run {w : Bool} {sv : Value} {l : List UInt8} {O : Option Nat} (h : Row 5 w H sv (l.map u8v) O) (hl : l.length < 100000000) : CallR cx 33 #[sv] H (fun v H' => v = .string (str (hex l)) ∧ Fresh H H') := by
  obtain ⟨ra, rfl, hra⟩ := h.isSlice
  simp only [List.length_map] at h
  refine wk33 (by simp) ?_
  simp only [List.length_map]
  simp [c33]
  refine aw_loop_to l.length (fun k s => s.env 0 = .slice ra l.length l.length ∧ s.env 4 = i64 k ∧ s.ds = [] ∧ Fresh H s.H ∧ ∃ O', Row 5 true s.H (s.env 3) ((hex (l.take k)).map u8v) O' ∧ ∀ x, O' = some x → H.next ≤ x) ?_ ?_ ?_
  · rintro k ⟨env, H1, ds⟩ hk ⟨e0, e4, eds, hf, O', hrow, hO⟩
    simp only at e0 e4 eds hf hrow
    generalize e3 : env 3 = ov at hrow
    have hkN : (k : Int) < l.length := by omega
    have h0k : (0 : Int) ≤ k := by omega
    have hw : IntKind.i64.wrap ((k : Int) + 1) = (k : Int) + 1 := wrap_small (by omega)
    obtain ⟨a, o, cs, rfl, hcs, hcx, hOa⟩ := h.cell (i := k) (x := u8v l[k]) (by rw [List.getElem?_map, List.getElem?_eq_getElem hk]; rfl)
    have hlow : a < H.next := by subst hOa; exact h.low
    have hcs1 : H1.get a = some (.cells cs 5 w 1) := by rw [hf.get hlow, hcs]
    have hb := UInt8.toNat_lt l[k]
    have hwb : IntKind.i64.wrap ((l[k].toNat : Nat) : Int) = ((l[k].toNat : Nat) : Int) := wrap_small (by omega)
    have hq : (((l[k].toNat : Nat) : Int)).tdiv 16 = ((l[k].toNat / 16 : Nat) : Int) := by rw [Int.tdiv_eq_ediv_of_nonneg (by omega)]; push_cast; rfl
    have hr : (((l[k].toNat : Nat) : Int)).tmod 16 = ((l[k].toNat % 16 : Nat) : Int) := by rw [Int.tmod_eq_emod_of_nonneg (by omega)]; push_cast; rfl
    have hqw : IntKind.i64.wrap ((l[k].toNat / 16 : Nat) : Int) = ((l[k].toNat / 16 : Nat) : Int) := wrap_small (by omega)
    have hb2 := build2 (u8v (hd (l[k].toNat / 16))) (u8v (hd (l[k].toNat % 16))) rfl rfl H1
    have hlen : (hex (l.take k)).length < 1000000000 := by rw [hex_len]; simp; omega
    obtain ⟨sr, H2, O2, ha, hrow2, hO2, hn2, hk2⟩ := append2 hrow hlen (hd (l[k].toNat / 16)) (hd (l[k].toNat % 16))
    have htk : hex (l.take (k + 1)) = hex (l.take k) ++ [hd (l[k].toNat / 16), hd (l[k].toNat % 16)] := by
      rw [List.take_add_one, List.getElem?_eq_getElem hk]
      show (l.take k ++ [l[k]]).flatMap _ = _
      rw [List.flatMap_append]
      rfl
    simp [e0, e4, e3, hkN, ix24 _ _ _ _ _ _ h0k hkN, hcs1, hcx, hwb, aBin_quo, hq, hqw, -Int.natCast_ediv, -Int.natCast_emod]
    refine callV_R cb55 (digit_run (n := l[k].toNat / 16) (by omega)) ?_
    rintro _ H1 ⟨rfl, rfl⟩
    simp [e0, e4, e3, hkN, ix24 _ _ _ _ _ _ h0k hkN, hcs1, hcx, hwb, aBin_rem, hr, -Int.natCast_ediv, -Int.natCast_emod]
    refine callV_R cb55 (digit_run (n := l[k].toNat % 16) (by omega)) ?_
    rintro _ H1 ⟨rfl, rfl⟩
    simp [e0, e4, e3, hcs1, hcx, hwb, hb2, ha, hw, eds, -Int.natCast_ediv, -Int.natCast_emod]
    refine ⟨?_, O2, by rw [htk]; exact hrow2, ?_⟩
    · exact ⟨Nat.le_trans hf.1 hn2, fun x hx _ => by rw [hk2 x (by have := hf.1; omega) (fun e => by have := hO x e; omega), hf.get hx]⟩
    · intro x e
      rcases hO2 x e with h' | h'
      · exact hO x h'
      · exact Nat.le_trans hf.1 h'
  · rintro ⟨env, H1, ds⟩ ⟨e0, e4, eds, hf, O', hrow, hO⟩
    simp only at e0 e4 eds hf hrow
    rw [List.take_length] at hrow
    have hc := conv_row hrow
    simp [e0, e4, hc, eds, hf]
  · simp
    exact ⟨Fresh.refl, none, Row.nil, fun x e => by cases e⟩
end Go.Proofs.YtlbgincmndakmaaDoor.C

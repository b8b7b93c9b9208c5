/- Bytes read back of their text, over the small heap. Own text of this session. -/
import Derived.Test.YtlbgincmndakmaaDoorHex2
set_option linter.unusedVariables false
set_option linter.unusedSimpArgs false
set_option maxRecDepth 4000
set_option maxHeartbeats 4000000
namespace Go.Proofs.YtlbgincmndakmaaDoor.C
open Go Go.RowKit Go.Proofs.YtlbgincmndakmaaDoorA Go.Proofs.YtlbgincmndakmaaDoor.Plain
variable {H : AH}
/-- what half a byte a digit is -/
def dv (c : UInt8) : Option Nat := if 48 ≤ c.toNat ∧ c.toNat ≤ 57 then some (c.toNat - 48) else if 97 ≤ c.toNat ∧ c.toNat ≤ 102 then some (c.toNat - 87) else none
theorem dv_hd : ∀ n : Fin 16, dv (hd n.val) = some n.val := by decide
theorem hd_dv {c : UInt8} {n : Nat} (h : dv c = some n) : n < 16 ∧ hd n = c := by
  unfold dv at h
  split at h
  · cases h
    refine ⟨by omega, UInt8.toNat_inj.1 ?_⟩
    have : c.toNat - 48 < 10 := by omega
    simp [hd, this]; omega
  · split at h
    · cases h
      refine ⟨by omega, UInt8.toNat_inj.1 ?_⟩
      have : ¬ c.toNat - 87 < 10 := by omega
      simp [hd, this]; omega
    · cases h
def dvI (c : Nat) : Int := if 48 ≤ c ∧ c ≤ 57 then (c : Int) - 48 else if 97 ≤ c ∧ c ≤ 102 then (c : Int) - 87 else -1
theorem ext_all : ((List.range 256).all fun n => match aExt Tryd.prog 84 #[.string ⟨#[48, 49, 50, 51, 52, 53, 54, 55, 56, 57, 97, 98, 99, 100, 101, 102]⟩, .int .u8 (n : Int)] with | some (.int .i64 m) => m == dvI n | _ => false) = true := by kernel_rfl
theorem ext_at (c : UInt8) : aExt Tryd.prog 84 #[.string ⟨#[48, 49, 50, 51, 52, 53, 54, 55, 56, 57, 97, 98, 99, 100, 101, 102]⟩, u8v c] = some (i64 (dvI c.toNat)) := by
  have h := List.all_eq_true.1 ext_all c.toNat (List.mem_range.2 (by have := UInt8.toNat_lt c; omega))
  split at h
  · rename_i m hm
    rw [beq_iff_eq] at h
    rw [hm, h]
  · cases h
theorem indexByte_run (c : UInt8) : CallR cx 67 #[.string ⟨#[48, 49, 50, 51, 52, 53, 54, 55, 56, 57, 97, 98, 99, 100, 101, 102]⟩, u8v c] H (fun v H' => v = i64 (dvI c.toNat) ∧ H' = H) := by
  refine wk67 (by simp) ?_
  simp [c67]
  refine callV_R (f := 75) cb75 (R := fun v H' => v = i64 (dvI c.toNat) ∧ H' = H) ?_ ?_
  · refine wk75 (by simp) ?_
    simp [c75]
    refine callV_ext (ext_at c) ?_
    simp
  rintro _ _ ⟨rfl, rfl⟩
  simp
theorem hex_app (l : List UInt8) (b : UInt8) : hex (l ++ [b]) = hex l ++ [hd (b.toNat / 16), hd (b.toNat % 16)] := by
  show (l ++ [b]).flatMap _ = _
  rw [List.flatMap_append]
  rfl
theorem hex_at : ∀ (l : List UInt8) (j : Nat) (h : j < l.length), (hex l)[2 * j]? = some (hd (l[j].toNat / 16)) ∧ (hex l)[2 * j + 1]? = some (hd (l[j].toNat % 16))
  | [], j, h => by simp at h
  | b :: l, 0, _ => ⟨rfl, rfl⟩
  | b :: l, j + 1, h => by
    have e : hex (b :: l) = hd (b.toNat / 16) :: hd (b.toNat % 16) :: hex l := rfl
    have ih := hex_at l j (by simpa using h)
    rw [e, show 2 * (j + 1) = (2 * j + 1) + 1 by omega, show 2 * j + 1 + 1 + 1 = (2 * j + 2) + 1 by omega]
    simpa using ih
/-- what reading tells -/
def ToldH (s : List UInt8) (H H' : AH) (v : Value) : Prop :=
  (∃ l sv O, s = hex l ∧ v = .tuple #[sv, .bool true] ∧ Row 5 true H' sv (l.map u8v) O ∧ ∀ x, O = some x → H.next ≤ x) ∨ ((∀ l, s ≠ hex l) ∧ v = .tuple #[.slice none 0 0, .bool false])
theorem or16 : ∀ h l : Fin 16, bits .or .i64 ((h.val : Int) * 16) (l.val : Int) = ((16 * h.val + l.val : Nat) : Int) := by decide
theorem dvI_some {c : UInt8} {n : Nat} (h : dv c = some n) : dvI c.toNat = n := by
  unfold dv at h; unfold dvI
  split at h
  · rename_i h1; cases h; rw [if_pos h1]; omega
  · rename_i h1
    split at h
    · rename_i h2; cases h; rw [if_neg h1, if_pos h2]; omega
    · cases h
theorem dvI_none {c : UInt8} (h : dv c = none) : dvI c.toNat = -1 := by
  unfold dv at h; unfold dvI
  split at h
  · cases h
  · rename_i h1
    split at h
    · cases h
    · rename_i h2; rw [if_neg h1, if_neg h2]
/-- digits.ReadHex -/
theorem readHex_run {s : List UInt8} (hs : s.length < 100000000) : CallR cx 54 #[.string (str s)] H (fun v H' => Fresh H H' ∧ ToldH s H H' v) := by
  refine wk54 (by simp) ?_
  have hr : ((s.length : Nat) : Int).tmod 2 = ((s.length % 2 : Nat) : Int) := by rw [Int.tmod_eq_emod_of_nonneg (by omega)]; push_cast; rfl
  by_cases hodd : s.length % 2 = 0
  case neg =>
    have h1 : s.length % 2 = 1 := by omega
    simp [c54, aBin_rem, hr, h1, Fresh.refl, -Int.natCast_emod]
    refine .inr ⟨fun l e => ?_, rfl⟩
    have := hex_len l
    rw [← e] at this
    omega
  have hq : ((s.length : Nat) : Int).tdiv 2 = ((s.length / 2 : Nat) : Int) := by rw [Int.tdiv_eq_ediv_of_nonneg (by omega)]; push_cast; rfl
  have hqw : IntKind.i64.wrap ((s.length / 2 : Nat) : Int) = ((s.length / 2 : Nat) : Int) := wrap_small (by omega)
  have hmk := mk24 (s.length / 2) (by omega) H
  simp [c54, aBin_rem, aBin_quo, hr, hodd, hq, hqw, hmk, -Int.natCast_emod, -Int.natCast_ediv]
  have hrow0 : Row 5 true ⟨H.next + 1, upd H.get H.next (.cells [] 5 true 1)⟩ (.slice (some ⟨H.next, 0, none⟩) 0 0) (([] : List UInt8).map u8v) (some H.next) := ⟨0, [], rfl, by simp, rfl, by simp, by simp⟩
  refine aw_loop_to (s.length / 2) (fun k t => t.env 0 = .string (str s) ∧ t.env 5 = i64 ((2 * k : Nat) : Int) ∧ t.ds = [] ∧ Fresh H t.H ∧ ∃ l O, Row 5 true t.H (t.env 4) (l.map u8v) O ∧ (∀ x, O = some x → H.next ≤ x) ∧ l.length = k ∧ hex l = s.take (2 * k)) ?_ ?_ ?_
  · rintro k ⟨env, H1, ds⟩ hk ⟨e0, e5, eds, hf, l, O, hrow, hO, hll, hhex⟩
    simp only at e0 e5 eds hf hrow
    generalize e4 : env 4 = ov at hrow
    have h1 : 2 * k < s.length := by omega
    have h2 : 2 * k + 1 < s.length := by omega
    have h1i : ((2 * k : Nat) : Int) < (s.length : Nat) := by omega
    have hw1 : IntKind.i64.wrap (((2 * k : Nat) : Int) + 1) = ((2 * k + 1 : Nat) : Int) := by rw [wrap_small (by omega)]; push_cast; rfl
    have hw2 : IntKind.i64.wrap (((2 * k : Nat) : Int) + 2) = ((2 * (k + 1) : Nat) : Int) := by rw [wrap_small (by omega)]; push_cast; omega
    have hi1 := idx s (2 * k) h1
    have hi2 := idx s (2 * k + 1) h2
    have hbad : (dv s[2 * k] = none ∨ dv s[2 * k + 1] = none) → ∀ l, s ≠ hex l := by
      intro hb l' e
      have hlen := hex_len l'
      rw [← e] at hlen
      obtain ⟨g1, g2⟩ := hex_at l' k (by omega)
      rw [← e, List.getElem?_eq_getElem h1] at g1
      rw [← e, List.getElem?_eq_getElem h2] at g2
      have g1 := Option.some.inj g1
      have g2 := Option.some.inj g2
      have hb8 := UInt8.toNat_lt l'[k]
      have d1 := dv_hd ⟨l'[k].toNat / 16, by omega⟩
      have d2 := dv_hd ⟨l'[k].toNat % 16, by omega⟩
      simp only at d1 d2
      rw [← g1] at d1
      rw [← g2] at d2
      rcases hb with hb | hb
      · rw [d1] at hb; cases hb
      · rw [d2] at hb; cases hb
    simp [e0, e5, h1, hi1, -Int.natCast_mul, -Int.natCast_add]
    refine callV_R cb67 (indexByte_run _) ?_
    rintro _ H1 ⟨rfl, rfl⟩
    simp [e0, e5, hw1, hi2, -Int.natCast_mul, -Int.natCast_add]
    refine callV_R cb67 (indexByte_run _) ?_
    rintro _ H1 ⟨rfl, rfl⟩
    cases hx : dv s[2 * k] with
    | none =>
      have hxi := dvI_none hx
      simp [e0, e5, hxi, eds, hf]
      exact .inr ⟨hbad (.inl hx), rfl⟩
    | some x =>
      have hxi := dvI_some hx
      obtain ⟨hx16, hxh⟩ := hd_dv hx
      have hx0 : ¬ (x : Int) < 0 := by omega
      cases hy : dv s[2 * k + 1] with
      | none =>
        have hyi := dvI_none hy
        simp [e0, e5, hxi, hyi, hx0, eds, hf]
        exact .inr ⟨hbad (.inr hy), rfl⟩
      | some y =>
        have hyi := dvI_some hy
        obtain ⟨hy16, hyh⟩ := hd_dv hy
        have hy0 : ¬ (y : Int) < 0 := by omega
        have hsl := fun ox oy => aBin_shl (P := Tryd.prog) 3 ox oy .i64 .u64 (x : Int) 4 (by omega)
        have hsw : IntKind.i64.wrap ((x : Int) * 2 ^ min (Int.toNat 4) (IntKind.bits .i64)) = (x : Int) * 16 := by
          show IntKind.i64.wrap ((x : Int) * 16) = _
          exact wrap_small (by omega)
        simp only [hsw] at hsl
        have hor := or16 ⟨x, hx16⟩ ⟨y, hy16⟩
        simp only at hor
        obtain ⟨bb, hbb⟩ : ∃ b : UInt8, b.toNat = 16 * x + y := ⟨UInt8.ofNat (16 * x + y), by simp; omega⟩
        have hb : IntKind.u8.wrap ((16 * x + y : Nat) : Int) = ((bb.toNat : Nat) : Int) := by
          rw [wrap8_small (by omega), hbb]
        obtain ⟨H2, hap, hnx, hget, hrow2, hkp⟩ := row_append el24 hrow (by simp; omega) (v := u8v bb) rfl
        have hOlow : ∀ z, O = some z → z < H1.next := fun z e => by subst e; exact hrow.low
        simp only [List.length_map] at hap
        simp [e0, e4, e5, hxi, hyi, hx0, hy0, hsl, hor, hb, hw2, hap, eds, -Int.natCast_mul, -Int.natCast_add]
        refine ⟨⟨by have := hf.1; omega, fun z hz _ => by rw [hkp z (by have := hf.1; omega) (fun e => by have := hO z e; omega), hf.get hz]⟩, l ++ [bb], some (H1.next + 1), ?_, ?_, by simp [hll], ?_⟩
        · simpa using hrow2
        · intro z e; cases e; have := hf.1; omega
        · have ht : s.take (2 * (k + 1)) = s.take (2 * k) ++ [s[2 * k], s[2 * k + 1]] := by
            rw [show 2 * (k + 1) = 2 * k + 1 + 1 by omega, List.take_add_one, List.getElem?_eq_getElem h2, List.take_add_one, List.getElem?_eq_getElem h1, List.append_assoc]
            rfl
          rw [hex_app, hhex, hbb, show (16 * x + y) / 16 = x by omega, show (16 * x + y) % 16 = y by omega, hxh, hyh, ht]
  · rintro ⟨env, H1, ds⟩ ⟨e0, e5, eds, hf, l, O, hrow, hO, hll, hhex⟩
    simp only at e0 e5 eds hf hrow
    have h2 : 2 * (s.length / 2) = s.length := by omega
    rw [h2] at e5 hhex
    rw [List.take_length] at hhex
    simp [e0, e5, eds, hf]
    exact .inl ⟨l, _, O, hhex.symm, rfl, hrow, hO⟩
  · simp
    refine ⟨Fresh.ofNew, [], some H.next, hrow0, by simp, rfl, rfl⟩
end Go.Proofs.YtlbgincmndakmaaDoor.C

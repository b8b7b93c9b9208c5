/- Bytes read back of their text by the document's function, over the small heap. Own text of this session. -/
import Derived.Test.YtlbgincmndakmaaDoorHex3
set_option linter.unusedVariables false
set_option linter.unusedSimpArgs false
set_option maxRecDepth 4000
set_option maxHeartbeats 4000000
namespace Go.Proofs.YtlbgincmndakmaaDoor.C
open Go Go.RowKit Go.Proofs.YtlbgincmndakmaaDoorA Go.Proofs.YtlbgincmndakmaaDoor.Plain
variable {H : AH}
theorem strne (a b : List UInt8) (ox oy : Operand) : aBin Tryd.prog .neq 9 ox oy (.string (str a)) (.string (str b)) = some (.bool (decide (a ≠ b))) := aBin_strneL ox oy un9 a b
/-- how far the search for a byte came -/
def Found (pr : List UInt8) (k : Nat) : Prop := k ≤ 256 ∧ (∀ j, j < k → hex [UInt8.ofNat j] ≠ pr) ∧ (k < 256 → hex [UInt8.ofNat k] = pr)
theorem rreadHex_run {s : List UInt8} (hs : s.length < 100000000) : CallR cx 59 #[.string (str s)] H (fun v H' => Fresh H H' ∧ ToldH s H H' v) := by
  refine wk59 (by simp) ?_
  have hr : ((s.length : Nat) : Int).tmod 2 = ((s.length % 2 : Nat) : Int) := by rw [Int.tmod_eq_emod_of_nonneg (by omega)]; push_cast; rfl
  by_cases hodd : s.length % 2 = 0
  case neg =>
    have h1 : s.length % 2 = 1 := by omega
    simp [c59, aBin_rem, hr, h1, Fresh.refl, -Int.natCast_emod]
    refine .inr ⟨fun l e => ?_, rfl⟩
    have := hex_len l
    rw [← e] at this
    omega
  simp [c59, aBin_rem, hr, hodd, -Int.natCast_emod]
  refine aw_loop_to (s.length / 2) (fun k t => t.env 0 = .string (str s) ∧ t.env 5 = i64 ((2 * k : Nat) : Int) ∧ t.ds = [] ∧ Fresh H t.H ∧ ∃ l O, Row 5 true t.H (t.env 4) (l.map u8v) O ∧ (∀ x, O = some x → H.next ≤ x) ∧ l.length = k ∧ hex l = s.take (2 * k)) ?_ ?_ ?_
  · rintro k ⟨env, H1, ds⟩ hk ⟨e0, e5, eds, hf, l, O, hrow, hO, hll, hhex⟩
    simp only at e0 e5 eds hf hrow
    generalize e4 : env 4 = ov at hrow
    have h1 : 2 * k < s.length := by omega
    have h2 : 2 * k + 1 < s.length := by omega
    have hw2 : IntKind.i64.wrap (((2 * k : Nat) : Int) + 2) = ((2 * k + 2 : Nat) : Int) := by rw [wrap_small (by omega)]; push_cast; rfl
    have hsl : ∀ H : AH, aSlice Tryd.prog 9 (.string (str s)) (some (i64 ((2 * k : Nat) : Int))) (some (i64 ((2 * k + 2 : Nat) : Int))) H = some (.string (str [s[2 * k], s[2 * k + 1]])) := by
      intro H
      have h0a : (0 : Int) ≤ ((2 * k : Nat) : Int) := by omega
      have h0b : (0 : Int) ≤ ((2 * k + 2 : Nat) : Int) := by omega
      rw [aSlice_str un9 s (lo := some (i64 ((2 * k : Nat) : Int))) (hi := some (i64 ((2 * k + 2 : Nat) : Int))) (a := 2 * k) (b := 2 * k + 2) (by simp only [bnd]; rw [if_pos ⟨h0b, by omega⟩]; rfl) (by simp only [bnd]; rw [if_pos ⟨h0a, by omega⟩]; rfl) (by omega) (by omega)]
      have : (s.take (2 * k + 2)).drop (2 * k) = [s[2 * k], s[2 * k + 1]] := by
        rw [show 2 * k + 2 = 2 * k + 1 + 1 by omega, List.take_add_one, List.getElem?_eq_getElem h2, List.take_add_one, List.getElem?_eq_getElem h1, List.append_assoc, List.drop_append_of_le_length (by simp; omega)]
        simp
      rw [this]
    refine aw_cut (fun t => t.env 0 = .string (str s) ∧ t.env 4 = ov ∧ t.env 5 = i64 ((2 * k : Nat) : Int) ∧ t.ds = [] ∧ t.H = H1) (by simp [e0, e4, e5, eds, h1, -Int.natCast_mul]) ?_
    clear e0 e4 e5 eds
    rintro ⟨env, H1, ds⟩ ⟨e0, e4, e5, eds, rfl⟩
    simp only at e0 e4 e5 eds
    refine aw_cut (fun t => t.env 0 = .string (str s) ∧ t.env 5 = i64 ((2 * k : Nat) : Int) ∧ t.ds = [] ∧ Fresh H t.H ∧ ∃ l O, Row 5 true t.H (t.env 4) (l.map u8v) O ∧ (∀ x, O = some x → H.next ≤ x) ∧ l.length = k + 1 ∧ hex l = s.take (2 * (k + 1))) ?_ ?_
    · rw [aw_block]
      refine aw_cut (fun t => t.env 0 = .string (str s) ∧ t.env 4 = ov ∧ t.env 5 = i64 ((2 * k : Nat) : Int) ∧ t.env 6 = i64 0 ∧ t.ds = [] ∧ t.H = H1) (by simp [e0, e4, e5, eds]) ?_
      clear e0 e4 e5 eds
      rintro ⟨env, H1, ds⟩ ⟨e0, e4, e5, e6, eds, rfl⟩
      simp only at e0 e4 e5 e6 eds
      refine aw_cut (fun t => t.env 0 = .string (str s) ∧ t.env 4 = ov ∧ t.env 5 = i64 ((2 * k : Nat) : Int) ∧ t.ds = [] ∧ Fresh H1 t.H ∧ ∃ j, t.env 6 = i64 (j : Nat) ∧ Found [s[2 * k], s[2 * k + 1]] j) ?_ ?_
      · rw [aw_block]
        refine aw_loop_to 256 (fun j t => t.env 0 = .string (str s) ∧ t.env 4 = ov ∧ t.env 5 = i64 ((2 * k : Nat) : Int) ∧ t.ds = [] ∧ Fresh H1 t.H ∧ t.env 6 = i64 (j : Nat) ∧ ∀ i, i < j → hex [UInt8.ofNat i] ≠ [s[2 * k], s[2 * k + 1]]) ?_ ?_ ?_
        · clear e0 e4 e5 e6 eds
          rintro j ⟨env, H2, ds⟩ hj ⟨e0, e4, e5, eds, hf2, e6, hno⟩
          simp only at e0 e4 e5 eds hf2 e6
          have hj' : (j : Int) < 256 := by omega
          obtain ⟨b, hb⟩ : ∃ b : UInt8, b.toNat = j := ⟨UInt8.ofNat j, by simp; omega⟩
          have hbo : UInt8.ofNat j = b := UInt8.toNat_inj.1 (by simp; omega)
          have hwb : IntKind.u8.wrap (j : Int) = ((b.toNat : Nat) : Int) := by rw [wrap8_small (by omega), hb]
          have hwj : IntKind.i64.wrap ((j : Int) + 1) = ((j + 1 : Nat) : Int) := by rw [wrap_small (by omega)]; push_cast; rfl
          have hrowb : Row 5 true ⟨H2.next + 1, upd H2.get H2.next (.cells [u8v b] 5 true 1)⟩ (.slice (some ⟨H2.next, 0, none⟩) 1 1) ([b].map u8v) (some H2.next) := ⟨0, [u8v b], rfl, by simp, rfl, by simp, by simp⟩
          simp [e0, e5, e6, hj', hwb, -Int.natCast_mul, -Int.natCast_add]
          refine callV_R cb33 (rhex_run hrowb (by simp)) ?_
          rintro _ H3 ⟨rfl, hf3⟩
          have hf23 : Fresh H1 H3 := hf2.trans (Fresh.ofNew.trans hf3)
          by_cases heq : hex [b] = [s[2 * k], s[2 * k + 1]]
          · simp [e0, e4, e5, e6, hw2, hsl, strne, heq, eds, hf23, -Int.natCast_mul, -Int.natCast_add]
            refine ⟨j, rfl, by omega, hno, fun _ => by rw [hbo]; exact heq⟩
          · simp [e0, e4, e5, e6, hw2, hsl, strne, heq, eds, hf23, hwj, -Int.natCast_mul, -Int.natCast_add]
            intro i hi
            by_cases hij : i = j
            · subst hij; rw [hbo]; exact heq
            · exact hno i (by omega)
        · clear e0 e4 e5 e6 eds
          rintro ⟨env, H2, ds⟩ ⟨e0, e4, e5, eds, hf2, e6, hno⟩
          simp only at e0 e4 e5 eds hf2 e6
          simp [e0, e4, e5, e6, eds, hf2, Go.undef, -Int.natCast_mul, -Int.natCast_add]
          exact ⟨256, rfl, Nat.le_refl _, hno, fun h => absurd h (by omega)⟩
        · simp [e0, e4, e5, e6, eds, Fresh.refl]
      · clear e0 e4 e5 e6 eds
        rintro ⟨env, H2, ds⟩ ⟨e0, e4, e5, eds, hf2, j, e6, hj, hno, hyes⟩
        simp only at e0 e4 e5 eds hf2 e6
        by_cases h256 : j = 256
        · have hji : (j : Int) = 256 := by omega
          simp [e6, hji, h256, eds, hf.trans hf2]
          refine .inr ⟨fun l' e => ?_, rfl⟩
          have hlen := hex_len l'
          rw [← e] at hlen
          obtain ⟨g1, g2⟩ := hex_at l' k (by omega)
          rw [← e, List.getElem?_eq_getElem h1] at g1
          rw [← e, List.getElem?_eq_getElem h2] at g2
          refine hno l'[k].toNat (by have := UInt8.toNat_lt l'[k]; omega) ?_
          rw [Option.some.inj g1, Option.some.inj g2, UInt8.ofNat_toNat]
          rfl
        · have hji : ¬ (j : Int) = 256 := by omega
          have hpair := hyes (by omega)
          obtain ⟨bb, hbb⟩ : ∃ b : UInt8, b = UInt8.ofNat j := ⟨_, rfl⟩
          have hbn : bb.toNat = j := by rw [hbb]; simp; omega
          rw [← hbb] at hpair
          have hwb : IntKind.u8.wrap (j : Int) = ((bb.toNat : Nat) : Int) := by rw [wrap8_small (by omega), hbn]
          have hrow1 : Row 5 true H2 ov (l.map u8v) O := hrow.keep hf2 (fun _ _ => id)
          obtain ⟨H3, hap, hnx, hget, hrow2, hkp⟩ := row_append el24 hrow1 (by simp; omega) (v := u8v bb) rfl
          simp only [List.length_map] at hap
          simp [e0, e4, e5, e6, hji, hwb, hap, eds, -Int.natCast_mul, -Int.natCast_add]
          have hf12 := hf.trans hf2
          refine ⟨⟨by have := hf12.1; omega, fun z hz _ => by rw [hkp z (by have := hf12.1; omega) (fun e => by have := hO z e; omega), hf12.get hz]⟩, l ++ [bb], some (H2.next + 1), ?_, ?_, by simp [hll], ?_⟩
          · simpa using hrow2
          · intro z e; cases e; have := hf12.1; omega
          · have ht : s.take (2 * (k + 1)) = s.take (2 * k) ++ [s[2 * k], s[2 * k + 1]] := by
              rw [show 2 * (k + 1) = 2 * k + 1 + 1 by omega, List.take_add_one, List.getElem?_eq_getElem h2, List.take_add_one, List.getElem?_eq_getElem h1, List.append_assoc]
              rfl
            rw [hex_app, hhex, ht, ← hpair]
            rfl
    · clear e0 e4 e5 eds
      rintro ⟨env, H2, ds⟩ ⟨e0, e5, eds, hf2, hx⟩
      simp only at e0 e5 eds hf2 hx
      simp [e0, e5, eds, hf2, hw2]
      exact ⟨by rw [wrap_small (by omega)]; omega, hx⟩
  · rintro ⟨env, H1, ds⟩ ⟨e0, e5, eds, hf, l, O, hrow, hO, hll, hhex⟩
    simp only at e0 e5 eds hf hrow
    have h2 : 2 * (s.length / 2) = s.length := by omega
    rw [h2] at e5 hhex
    rw [List.take_length] at hhex
    simp [e0, e5, eds, hf]
    exact .inl ⟨l, _, O, hhex.symm, rfl, hrow, hO⟩
  · simp
    exact ⟨Fresh.refl, [], none, Row.nil, (fun x e => by cases e), rfl, rfl⟩
end Go.Proofs.YtlbgincmndakmaaDoor.C

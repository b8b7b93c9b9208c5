/- A set of small numbers, a bit each, over the small heap: Has, Put, Drop, New. Own text of this session. -/
import Derived.Test.YtikkokolmipppaaC
import Derived.Laws.BitsAllLaws
set_option linter.unusedVariables false
set_option linter.unusedSimpArgs false
set_option maxRecDepth 4000
set_option maxHeartbeats 4000000
namespace Go.Proofs.Ytikkokolmipppaa.C
open Go Go.RowKit Go.Proofs.YtikkokolmipppaaA
variable {H : AH}
theorem w64 {n : Int} (h : -9000000000000000000 ≤ n ∧ n ≤ 9000000000000000000) : IntKind.i64.wrap n = n := by simp [IntKind.wrap, IntKind.bits, IntKind.signed]; omega
theorem wU {n : Nat} (h : n < 18446744073709551616) : IntKind.u64.wrap (n : Int) = (n : Int) := by simp [IntKind.wrap, IntKind.bits, IntKind.signed]; omega
abbrev u64 (n : Int) : Value := .int .u64 n
/-- a number's word and place -/
theorem and63 (i : Nat) (h : i < 9000000000000000000) : bits .and .i64 (i : Int) 63 = ((i % 64 : Nat) : Int) := by
  show IntKind.i64.wrap ((BitVec.ofInt 64 (i : Int) &&& BitVec.ofInt 64 ((63 : Nat) : Int)).toNat : Int) = _
  rw [BitVec.toNat_and, BitVec.ofInt_natCast, BitVec.ofInt_natCast, BitVec.toNat_ofNat, BitVec.toNat_ofNat, Nat.mod_eq_of_lt (by omega), Nat.mod_eq_of_lt (by omega)]
  have : i &&& 63 = i % 64 := Nat.and_two_pow_sub_one_eq_mod i 6
  rw [this, w64 (by omega)]
theorem shr6 (i : Nat) (ox oy : Operand) : aBin Try.prog .shr 3 ox oy (i64 i) (.int .u64 6) = some (i64 ((i / 64 : Nat) : Int)) := by
  rw [aBin_shr (P := Try.prog) 3 ox oy .i64 .u64 (i : Int) 6 (by decide)]
  simp [IntKind.bits]
theorem shrW (x k : Nat) (hk : k < 64) (ox oy : Operand) : aBin Try.prog .shr 28 ox oy (u64 (x : Int)) (.int .u64 (k : Int)) = some (u64 ((x / 2 ^ k : Nat) : Int)) := by
  rw [aBin_shr (P := Try.prog) 28 ox oy .u64 .u64 (x : Int) k (by omega)]
  have : min (k : Int).toNat (IntKind.bits .u64) = k := by simp [IntKind.bits]; omega
  rw [this]
  simp
theorem shlW (k : Nat) (hk : k < 64) (ox oy : Operand) : aBin Try.prog .shl 28 ox oy (u64 1) (.int .u64 (k : Int)) = some (u64 ((2 ^ k : Nat) : Int)) := by
  rw [aBin_shl (P := Try.prog) 28 ox oy .u64 .u64 1 k (by omega)]
  have : min (k : Int).toNat (IntKind.bits .u64) = k := by simp [IntKind.bits]; omega
  rw [this]
  have h : 2 ^ k < 18446744073709551616 := Nat.lt_of_lt_of_le (Nat.pow_lt_pow_right (by decide) hk) (by decide)
  have e : (1 : Int) * 2 ^ k = ((2 ^ k : Nat) : Int) := by simp
  rw [e, wU h]
theorem and1 (x : Nat) (h : x < 18446744073709551616) : bits .and .u64 (x : Int) 1 = ((x % 2 : Nat) : Int) := by
  have := u64_and_nat x 1 h (by decide)
  rw [show ((1 : Nat) : Int) = 1 from rfl] at this
  rw [this, Nat.and_one_is_mod]
/-- is a number's bit set? -/
def bitAt (ws : List Nat) (i : Nat) : Bool := (ws.getD (i / 64) 0).testBit (i % 64)
abbrev wcells (ws : List Nat) : List Value := ws.map fun (n : Nat) => u64 (n : Int)
structure IsSet (H : AH) (S W w : Nat) (ws : List Nat) : Prop where
  hS : H.get S = some (.cells [i64 w, .slice (some ⟨W, 0, none⟩) ws.length ws.length] 45 true 0)
  hW : H.get W = some (.cells (wcells ws) 28 true 1)
  len : ws.length = (w + 63) / 64
  small : ∀ x ∈ ws, x < 18446744073709551616
  wide : w ≤ 65536
  lS : S < H.next
  lW : W < H.next
  ne : S ≠ W
theorem IsSet.keep {H H' : AH} {S W w : Nat} {ws : List Nat} {F : Nat → Prop} (h : IsSet H S W w ws) (hk : Keep F H H') (h1 : ¬ F S) (h2 : ¬ F W) : IsSet H' S W w ws :=
  ⟨by rw [hk.get h.lS h1]; exact h.hS, by rw [hk.get h.lW h2]; exact h.hW, h.len, h.small, h.wide, Nat.lt_of_lt_of_le h.lS hk.1, Nat.lt_of_lt_of_le h.lW hk.1, h.ne⟩
theorem IsSet.fresh {H H' : AH} {S W w : Nat} {ws : List Nat} (h : IsSet H S W w ws) (hk : Fresh H H') : IsSet H' S W w ws := h.keep hk (fun h => h) (fun h => h)
theorem wcell {ws : List Nat} {j : Nat} (h : j < ws.length) : (wcells ws)[j]? = some (u64 (ws.getD j 0 : Nat)) := by
  rw [List.getD_eq_getElem?_getD, List.getElem?_eq_getElem h]
  simp [wcells, h]
/-- Width -/
theorem width_run {S W w : Nat} {ws : List Nat} (h : IsSet H S W w ws) : CallR cx 24 #[ptr S] H (fun v H' => v = i64 w ∧ H' = H) := by
  refine wk24 (by simp) ?_
  have := h.hS
  simp [c24, this]
/-- Has, of a number below the width -/
theorem has_run {S W w : Nat} {ws : List Nat} (h : IsSet H S W w ws) {i : Nat} (hi : i < w) : CallR cx 26 #[ptr S, i64 i] H (fun v H' => v = .bool (bitAt ws i) ∧ H' = H) := by
  refine wk26 (by simp) ?_
  have h0 : (0 : Int) ≤ i := by omega
  have h1 : (i : Int) < w := by omega
  have hwd := h.wide
  have hlen := h.len
  have hj : i / 64 < ws.length := by omega
  have hjI : ((i / 64 : Nat) : Int) < ws.length := by omega
  have hS := h.hS
  have hW := h.hW
  have hc := wcell hj
  have hsm : ws.getD (i / 64) 0 < 18446744073709551616 := by
    rw [List.getD_eq_getElem?_getD, List.getElem?_eq_getElem hj]; exact h.small _ (List.getElem_mem _)
  have hbit : bitAt ws i = decide (ws.getD (i / 64) 0 / 2 ^ (i % 64) % 2 = 1) := by rw [bitAt, Nat.testBit_eq_decide_div_mod_eq]
  generalize ws.getD (i / 64) 0 = x at hc hsm hbit
  have hix := ix22 W 0 ws.length ws.length .i64 ((i / 64 : Nat) : Int) (by omega) hjI
  rw [Int.toNat_natCast] at hix
  have hsh := shrW x (i % 64) (by omega)
  have hlt : x / 2 ^ (i % 64) < 18446744073709551616 := Nat.lt_of_le_of_lt (Nat.div_le_self _ _) hsm
  have ha1 := and1 _ hlt
  have hm := and63 i (by omega)
  have hcv := wU (n := i % 64) (by omega)
  have hfin : decide (((x / 2 ^ (i % 64) % 2 : Nat) : Int) = 1) = bitAt ws i := by
    rw [hbit]
    by_cases e : x / 2 ^ (i % 64) % 2 = 1
    · simp [e]
    · have : x / 2 ^ (i % 64) % 2 = 0 := by omega
      simp [this]
  simp [c26, h0]
  refine callV_R cb24 (width_run h) ?_
  rintro _ _ ⟨rfl, rfl⟩
  simp [hi, h1, hS, shr6, hix, hW, hc, hm, hcv, hsh, ha1, hfin, -Int.natCast_ediv, -Int.natCast_emod]
theorem bit_set {ws : List Nat} {i x : Nat} (hi : i / 64 < ws.length) {b : Bool} (hx : ∀ k, k < 64 → x.testBit k = if k = i % 64 then b else (ws.getD (i / 64) 0).testBit k) (j : Nat) : bitAt (ws.set (i / 64) x) j = if j = i then b else bitAt ws j := by
  unfold bitAt
  by_cases e : j / 64 = i / 64
  · have e1 : (ws.set (i / 64) x).getD (j / 64) 0 = x := by
      rw [e, List.getD_eq_getElem?_getD, List.getElem?_set, if_pos rfl, if_pos hi]
      rfl
    rw [e1, hx _ (Nat.mod_lt _ (by decide)), e]
    by_cases e2 : j = i
    · subst e2; simp
    · have : ¬ j % 64 = i % 64 := by omega
      simp [e2, this]
  · have e1 : (ws.set (i / 64) x).getD (j / 64) 0 = ws.getD (j / 64) 0 := by
      rw [List.getD_eq_getElem?_getD, List.getElem?_set, if_neg (fun h => e h.symm), ← List.getD_eq_getElem?_getD]
    have : ¬ j = i := fun h => e (by rw [h])
    rw [e1, if_neg this]
theorem set_small {ws : List Nat} {j x : Nat} (h : ∀ y ∈ ws, y < 18446744073709551616) (hx : x < 18446744073709551616) : ∀ y ∈ ws.set j x, y < 18446744073709551616 := by
  intro y hy
  rcases List.mem_or_eq_of_mem_set hy with h1 | rfl
  · exact h y h1
  · exact hx
theorem set_store {H : AH} {S W w : Nat} {ws : List Nat} (h : IsSet H S W w ws) {i x : Nat} (hi : i < w) (hx : x < 18446744073709551616) :
    aStore Try.prog 28 (.pointer (some ⟨W, i / 64, none⟩)) (u64 (x : Int)) H = some ⟨H.next, upd H.get W (.cells (wcells (ws.set (i / 64) x)) 28 true 1)⟩ ∧ IsSet ⟨H.next, upd H.get W (.cells (wcells (ws.set (i / 64) x)) 28 true 1)⟩ S W w (ws.set (i / 64) x) := by
  have hlen := h.len
  have hj : i / 64 < ws.length := by omega
  constructor
  · rw [st28 _ _ _ rfl]
    have := wr_of (v := u64 (x : Int)) h.hW (o := i / 64) (by simp; omega) rfl
    have e : (wcells ws).set (i / 64) (u64 (x : Int)) = wcells (ws.set (i / 64) x) := by simp [wcells, List.map_set]
    rw [e] at this
    exact this
  · refine ⟨?_, by simp, by rw [List.length_set]; exact hlen, set_small h.small hx, h.wide, h.lS, h.lW, h.ne⟩
    rw [List.length_set]
    simp [h.ne, h.hS]
/-- Put, of a number below the width -/
theorem put_run {S W w : Nat} {ws : List Nat} (h : IsSet H S W w ws) {i : Nat} (hi : i < w) : CallR cx 21 #[ptr S, i64 i] H (fun v H' => v = .bool (!bitAt ws i) ∧ Keep (fun l => l = W) H H' ∧ H'.next = H.next ∧ ∃ ws', IsSet H' S W w ws' ∧ ∀ j, bitAt ws' j = if j = i then true else bitAt ws j) := by
  refine wk21 (by simp) ?_
  have h0 : ¬ (i : Int) < 0 := by omega
  have h1 : ¬ (w : Int) ≤ i := by omega
  have h1' : ¬ w ≤ i := by omega
  have hwd := h.wide
  have hlen := h.len
  have hj : i / 64 < ws.length := by omega
  have hjI : ((i / 64 : Nat) : Int) < ws.length := by omega
  have hS := h.hS
  have hW := h.hW
  have hc := wcell hj
  have hsm : ws.getD (i / 64) 0 < 18446744073709551616 := by
    rw [List.getD_eq_getElem?_getD, List.getElem?_eq_getElem hj]; exact h.small _ (List.getElem_mem _)
  have hix := ix22 W 0 ws.length ws.length .i64 ((i / 64 : Nat) : Int) (by omega) hjI
  rw [Int.toNat_natCast] at hix
  have hm := and63 i (by omega)
  have hcv := wU (n := i % 64) (by omega)
  have hsl := shlW (i % 64) (by omega)
  have hp : 2 ^ (i % 64) < 18446744073709551616 := Nat.lt_of_lt_of_le (Nat.pow_lt_pow_right (by decide) (Nat.mod_lt _ (by decide) : i % 64 < 64)) (by decide)
  have hor := u64_or_nat _ _ hsm hp
  have hx : ∀ k, k < 64 → (ws.getD (i / 64) 0 ||| 2 ^ (i % 64)).testBit k = if k = i % 64 then true else (ws.getD (i / 64) 0).testBit k := by
    intro k hk
    rw [Nat.testBit_or, Nat.testBit_two_pow]
    by_cases e : k = i % 64
    · simp [e]
    · have : ¬ i % 64 = k := fun h => e h.symm
      simp [e, this]
  have hb := bit_set hj hx
  have hxs : ws.getD (i / 64) 0 ||| 2 ^ (i % 64) < 18446744073709551616 := Nat.or_lt_two_pow (n := 64) hsm hp
  obtain ⟨hst, hset⟩ := set_store h hi hxs
  generalize ws.getD (i / 64) 0 ||| 2 ^ (i % 64) = y at hor hb hst hset
  generalize wcells (ws.set (i / 64) y) = cs' at hst hset
  generalize ws.getD (i / 64) 0 = x at hc hor
  simp [c21, h0]
  refine callV_R cb24 (width_run h) ?_
  rintro _ _ ⟨rfl, rfl⟩
  simp [h1, h1']
  refine callV_R cb26 (has_run h hi) ?_
  rintro _ H1 ⟨rfl, hH⟩
  subst hH
  cases hbi : bitAt ws i with
  | true =>
    simp
    exact ⟨Keep.refl, ws, h, fun j => by by_cases e : j = i <;> simp [e, hbi]⟩
  | false =>
    simp [hS, shr6, hix, hW, hc, hm, hcv, hsl, hor, hst, -st28, -Int.natCast_ediv, -Int.natCast_emod, -Int.natCast_pow]
    exact ⟨⟨Nat.le_refl _, fun l _ hn => by simp [hn]⟩, _, hset, fun j => by simpa using hb j⟩
/-- Drop, of a number below the width -/
theorem drop_run {S W w : Nat} {ws : List Nat} (h : IsSet H S W w ws) {i : Nat} (hi : i < w) : CallR cx 20 #[ptr S, i64 i] H (fun v H' => v = .bool (bitAt ws i) ∧ Keep (fun l => l = W) H H' ∧ H'.next = H.next ∧ ∃ ws', IsSet H' S W w ws' ∧ ∀ j, bitAt ws' j = if j = i then false else bitAt ws j) := by
  refine wk20 (by simp) ?_
  have hwd := h.wide
  have hlen := h.len
  have hj : i / 64 < ws.length := by omega
  have hjI : ((i / 64 : Nat) : Int) < ws.length := by omega
  have hS := h.hS
  have hW := h.hW
  have hc := wcell hj
  have hsm : ws.getD (i / 64) 0 < 18446744073709551616 := by
    rw [List.getD_eq_getElem?_getD, List.getElem?_eq_getElem hj]; exact h.small _ (List.getElem_mem _)
  have hix := ix22 W 0 ws.length ws.length .i64 ((i / 64 : Nat) : Int) (by omega) hjI
  rw [Int.toNat_natCast] at hix
  have hm := and63 i (by omega)
  have hcv := wU (n := i % 64) (by omega)
  have hsl := shlW (i % 64) (by omega)
  have hp : 2 ^ (i % 64) < 18446744073709551616 := Nat.lt_of_lt_of_le (Nat.pow_lt_pow_right (by decide) (Nat.mod_lt _ (by decide) : i % 64 < 64)) (by decide)
  have han := u64_andNot_nat _ _ hsm hp
  have hx : ∀ k, k < 64 → (ws.getD (i / 64) 0 &&& (18446744073709551615 - 2 ^ (i % 64))).testBit k = if k = i % 64 then false else (ws.getD (i / 64) 0).testBit k := by
    intro k hk
    have e1 : 18446744073709551615 - 2 ^ (i % 64) = 2 ^ 64 - (2 ^ (i % 64) + 1) := by omega
    rw [Nat.testBit_and, e1, Nat.testBit_two_pow_sub_succ hp, Nat.testBit_two_pow]
    by_cases e : k = i % 64
    · simp [e]
    · have : ¬ i % 64 = k := fun h => e h.symm
      simp [e, this, hk]
  have hb := bit_set hj hx
  have hxs : ws.getD (i / 64) 0 &&& (18446744073709551615 - 2 ^ (i % 64)) < 18446744073709551616 := Nat.lt_of_le_of_lt Nat.and_le_left hsm
  obtain ⟨hst, hset⟩ := set_store h hi hxs
  generalize ws.getD (i / 64) 0 &&& (18446744073709551615 - 2 ^ (i % 64)) = y at han hb hst hset
  generalize wcells (ws.set (i / 64) y) = cs' at hst hset
  generalize ws.getD (i / 64) 0 = x at hc han
  simp [c20]
  refine callV_R cb26 (has_run h hi) ?_
  rintro _ H1 ⟨rfl, hH⟩
  subst hH
  cases hbi : bitAt ws i with
  | false =>
    simp
    exact ⟨Keep.refl, ws, h, fun j => by by_cases e : j = i <;> simp [e, hbi]⟩
  | true =>
    simp [hS, shr6, hix, hW, hc, hm, hcv, hsl, han, hst, -st28, -Int.natCast_ediv, -Int.natCast_emod, -Int.natCast_pow]
    exact ⟨⟨Nat.le_refl _, fun l _ hn => by simp [hn]⟩, _, hset, fun j => by simpa using hb j⟩
end Go.Proofs.Ytikkokolmipppaa.C

/- The queue's laws over the small heap: QueueTexts. Own text of this session. -/
import Derived.Test.YtfbepkamckpofaaQS
import Derived.Test.YtfbepkamckpofaaA15
set_option linter.unusedVariables false
set_option linter.unusedSimpArgs false
set_option maxRecDepth 4000
set_option maxHeartbeats 4000000
namespace Go.Proofs.Ytfbepkamckpofaa.C
open Go Go.RowKit Go.Proofs.YtfbepkamckpofaaA

/-- the queue has the last ones of what was pushed -/
def TxI (n0 : Nat) (H0 H : AH) (q : Nat) (m : Nat) (xs : List ByteArray) : Prop :=
  ∃ r total f N, S.IsQ H q r m ((xs.drop (xs.length - m)).map Value.string) total f N ∧ (∀ l, r = some l → n0 ≤ l) ∧ n0 ≤ q ∧ Keep (fun l => n0 ≤ l) H0 H
theorem TxI.push {n0 : Nat} {H0 H : AH} {q m : Nat} {xs : List ByteArray} (h : TxI n0 H0 H q m xs) (hn : n0 ≤ H0.next) (hm : 0 < m) (x : ByteArray) :
    CallR cx 10 #[ptr q, .string x] H (fun v H' => TxI n0 H0 H' q m (xs ++ [x]) ∧ ((xs.length < m ∧ v = .tuple #[.string ⟨#[]⟩, .bool false]) ∨ (m ≤ xs.length ∧ ∃ y, xs[xs.length - m]? = some y ∧ v = .tuple #[.string y, .bool true]))) := by
  obtain ⟨r, total, f, N, hq, hr, hq0, hk⟩ := h
  by_cases hlt : xs.length < m
  · refine (S.push_room hq (by simp; omega) (x := .string x) rfl).mono ?_
    rintro v H' ⟨rfl, r', f', N', hq', hk', hr'⟩
    refine ⟨⟨r', IntKind.u64.wrap (total + 1), f', N', ?_, ?_, hq0, hk.trans (hk'.high hq0 hr)⟩, .inl ⟨hlt, rfl⟩⟩
    · have e1 : xs.length - m = 0 := by omega
      have e2 : (xs ++ [x]).length - m = 0 := by simp; omega
      rw [e1] at hq'
      rw [e2]
      simpa using hq'
    · intro l e
      rcases hr' with h | ⟨l', h, h'⟩
      · exact hr l (h ▸ e)
      · rw [h] at e; cases e; have := hk.1; omega
  · have hd : xs.drop (xs.length - m) = xs[xs.length - m] :: xs.drop (xs.length - m + 1) := List.drop_eq_getElem_cons (by omega)
    rw [hd] at hq
    refine (S.push_full (y := .string xs[xs.length - m]) (xs := (xs.drop (xs.length - m + 1)).map Value.string) (by rw [List.map_cons] at hq; exact hq) (by simp; omega) (x := .string x) rfl).mono ?_
    rintro v H' ⟨rfl, f', hq', hk'⟩
    refine ⟨⟨r, IntKind.u64.wrap (total + 1), f', N, ?_, hr, hq0, hk.trans (hk'.high hq0 hr)⟩, .inr ⟨by omega, xs[xs.length - m], List.getElem?_eq_getElem _, rfl⟩⟩
    have e2 : (xs ++ [x]).length - m = xs.length - m + 1 := by simp; omega
    rw [e2, List.drop_append_of_le_length (by omega)]
    simpa using hq'
theorem u8b {n : Int} (h : (Lit.int .u8 n).wf = true) : 0 ≤ n ∧ n ≤ 255 := by
  simp [Lit.wf, IntKind.min, IntKind.max, IntKind.signed, IntKind.bits] at h
  omega
theorem queueTexts_run {H0 : AH} {sv : Value} {zs : List ByteArray} {O : Option Nat} {len : Nat} {a0 : Int} (hrow : Row 9 false H0 sv (zs.map Value.string) O) (hlen : zs.length = len) (hwf : ∀ s ∈ zs, s.size ≤ maxLen)
    (w0 : (Lit.int .u8 a0).wf = true) : CallR cx 3 #[.int .u8 a0, sv] H0 (fun v _ => v = .bool true) := by
  have b0 := u8b w0
  have hw0 : IntKind.i64.wrap a0 = a0 := wrap_small (by omega)
  have hw1 : IntKind.i64.wrap (1 + a0) = 1 + a0 := wrap_small (by omega)
  obtain ⟨ra, rfl, hra⟩ := hrow.isSlice
  simp only [List.length_map] at hrow
  refine wk3 (by simp) ?_
  simp [c3, hw0, hw1]
  refine callV_R cb8 (S.new_run (n := 1 + a0) (by omega)) ?_
  rintro _ _ ⟨rfl, rfl⟩
  obtain ⟨m, hm⟩ : ∃ m : Nat, (m : Int) = 1 + a0 := ⟨(1 + a0).toNat, by omega⟩
  have hm0 : 0 < m := by omega
  have hk0 : H0.next < (H0.new (.cells [i64 (1 + a0), .slice none 0 0, i64 0, i64 0, .int .u64 0] 54 true 0)).next := Nat.lt_succ_self _
  have hT0 : TxI H0.next H0 (H0.new (.cells [i64 (1 + a0), .slice none 0 0, i64 0, i64 0, .int .u64 0] 54 true 0)) H0.next m [] := by
    refine ⟨none, 0, 0, 0, ?_, fun l e => (by cases e), Nat.le_refl _, Fresh.keep (Fresh.ofNew)⟩
    rw [hm]
    refine ⟨by simp [S.ringV], by omega, by omega, by simp; omega, by simp, by simp; omega, by simp, ⟨rfl, rfl⟩, by simp⟩
  generalize H0.new (.cells [i64 (1 + a0), .slice none 0 0, i64 0, i64 0, .int .u64 0] 54 true 0) = H1 at *
  by_cases h50 : 50 < (zs.length : Int)
  · simp [h50]
    refine callV_R cb9 alive_run ?_
    rintro _ _ ⟨rfl, _⟩
    simp
  simp [h50]
  refine aw_loop_to zs.length (fun k s => s.env 0 = .int .u8 a0 ∧ s.env 1 = .slice ra zs.length zs.length ∧ s.env 5 = ptr H0.next ∧ s.env 32 = .slice ra zs.length zs.length ∧ s.env 33 = i64 zs.length ∧ s.env 34 = i64 k ∧ s.ds = [] ∧ TxI H0.next H0 s.H H0.next m (zs.take k)) ?_ ?_ ?_
  · rintro k ⟨env, H2, ds⟩ hk ⟨e0, e1, e5, e32, e33, e34, eds, hT⟩
    simp only at e0 e1 e5 e32 e33 e34 eds hT
    have hkN : (k : Int) < zs.length := by omega
    have h0k : (0 : Int) ≤ k := by omega
    have hw : IntKind.i64.wrap ((k : Int) + 1) = (k : Int) + 1 := wrap_small (by omega)
    obtain ⟨l, o, cs, hra', hcs, hcx, hO⟩ := hrow.cell (i := k) (x := .string zs[k]) (by simp)
    have hlow : l < H0.next := by subst hO; exact hrow.low
    obtain ⟨_, _, _, _, _, _, _, hk⟩ := id hT
    have hcs2 : H2.get l = some (.cells cs 9 false 1) := by rw [hk.get hlow (by omega), hcs]
    subst hra'
    have htk : zs.take (k + 1) = zs.take k ++ [zs[k]] := by rw [List.take_add_one, List.getElem?_eq_getElem (by omega)]; rfl
    have hlk : (zs.take k).length = k := by simp; omega
    have hwk : IntKind.i64.wrap (IntKind.i64.wrap ((k : Int) - 1) - a0) = (k : Int) - m := by rw [wrap_small (n := (k : Int) - 1) (by omega), wrap_small (by omega)]; omega
    simp [e0, e1, e5, e32, e33, e34, hkN, ix22 _ _ _ _ _ _ h0k hkN, hcs2, hcx]
    by_cases h100 : 100 < ((zs[k]).size : Int)
    · simp [h100]
      refine callV_R cb9 alive_run ?_
      rintro _ _ ⟨rfl, _⟩
      simp [eds]
    simp [h100, e5]
    refine callV_R cb10 (hT.push (Nat.le_refl _) hm0 zs[k]) ?_
    rintro _ H3 ⟨hT3, ⟨hlt, rfl⟩ | ⟨hge, yy, hyy, rfl⟩⟩
    · rw [hlk] at hlt
      have hneg : ¬ m ≤ k := by omega
      simp [e0, e1, e5, e32, e33, e34, hw, hw0, hwk, hneg, eds]
      rw [htk]
      exact hT3
    · rw [hlk] at hge hyy
      rw [List.getElem?_take_of_lt (by omega)] at hyy
      have hwk2 : IntKind.i64.wrap (IntKind.i64.wrap ((k : Int) - 1) - a0) = ((k - m : Nat) : Int) := by rw [hwk]; omega
      have h0 : (0 : Int) ≤ ((k - m : Nat) : Int) := by omega
      have h1 : ((k - m : Nat) : Int) < (zs.length : Nat) := by omega
      obtain ⟨l', o', cs', hra2, hcs', hcx', _⟩ := hrow.cell (i := k - m) (x := .string yy) (by simp [hyy])
      cases hra2
      rw [hcs] at hcs'
      cases hcs'
      have hcs3 : H3.get l = some (.cells cs 9 false 1) := by
        obtain ⟨_, _, _, _, _, _, _, hk3⟩ := id hT3
        rw [hk3.get hlow (by omega), hcs]
      simp [e0, e1, e5, e32, e33, e34, hw, hw0, hwk2, eds, ix22 _ _ _ _ _ _ h0 h1, hcs3, hcx']
      rw [htk]
      exact hT3
  · rintro ⟨env, H2, ds⟩ ⟨e0, e1, e5, e32, e33, e34, eds, hT⟩
    simp only at e0 e1 e5 e32 e33 e34 eds hT
    rw [List.take_length] at hT
    obtain ⟨r, total, f, N, hq, hr, hq0, hk⟩ := hT
    have hwk : IntKind.i64.wrap (IntKind.i64.wrap ((zs.length : Int) - 1) - a0) = (zs.length : Int) - m := by rw [wrap_small (n := (zs.length : Int) - 1) (by omega), wrap_small (by omega)]; omega
    have hmx : max 0 ((zs.length : Int) - m) = ((zs.length - m : Nat) : Int) := by omega
    simp [e0, e1, e5, e32, e33, e34]
    by_cases hz : zs.length = 0
    · refine callV_R cb11 (S.get_out hq (i := 0) (by simp; omega)) ?_
      rintro _ H2 ⟨rfl, rfl⟩
      have : ¬ 0 < zs.length := by omega
      simp [e0, e1, e5, hw0, hwk, hmx, this]
      refine callV_R cb9 alive_run ?_
      rintro _ _ ⟨rfl, _⟩
      simp [eds]
    · have hd : (zs.drop (zs.length - m)) = zs[zs.length - m] :: zs.drop (zs.length - m + 1) := List.drop_eq_getElem_cons (by omega)
      have hx : ((zs.drop (zs.length - m)).map Value.string)[0]? = some (.string zs[zs.length - m]) := by rw [hd]; rfl
      refine callV_R cb11 (S.get_run hq hx) ?_
      rintro _ H2 ⟨rfl, rfl⟩
      have h0 : (0 : Int) ≤ ((zs.length - m : Nat) : Int) := by omega
      have h1 : ((zs.length - m : Nat) : Int) < (zs.length : Nat) := by omega
      obtain ⟨l, o, cs, hra2, hcs', hcx', hO⟩ := hrow.cell (i := zs.length - m) (x := .string zs[zs.length - m]) (by rw [List.getElem?_map, List.getElem?_eq_getElem (by omega)]; rfl)
      subst hra2
      have hlow : l < H0.next := by subst hO; exact hrow.low
      have hcs3 : H2.get l = some (.cells cs 9 false 1) := by rw [hk.get hlow (by omega), hcs']
      have hpos : 0 < zs.length := by omega
      simp [e0, e1, e5, hw0, hwk, hmx, hpos, ix22 _ _ _ _ _ _ h0 h1, hcs3, hcx']
      refine callV_R cb9 alive_run ?_
      rintro _ _ ⟨rfl, _⟩
      simp [eds]
  · simp
    exact hT0
end Go.Proofs.Ytfbepkamckpofaa.C

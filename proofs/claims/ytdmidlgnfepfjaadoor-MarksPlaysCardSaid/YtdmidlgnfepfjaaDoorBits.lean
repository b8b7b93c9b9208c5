/- The numbers of a set, in rising order; the set bits of a word, told one by one. Own text of this session. -/
import Derived.Test.YtdmidlgnfepfjaaDoorLRanks
set_option linter.unusedVariables false
set_option linter.unusedSimpArgs false
set_option maxRecDepth 4000
set_option maxHeartbeats 4000000
namespace Go.Proofs.YtdmidlgnfepfjaaDoor.C
open Go Go.RowKit Go.Proofs.YtdmidlgnfepfjaaDoorA Go.Proofs.YtdmidlgnfepfjaaDoor.Ones
variable {H : AH}
/-- the set bits of a word -/
def bitsL (x : Nat) : Nat → List Nat
  | 0 => []
  | k + 1 => bitsL x k ++ (if x.testBit k then [k] else [])
theorem bitsL_len (x : Nat) : ∀ k, (bitsL x k).length = bitsN x k
  | 0 => rfl
  | k + 1 => by rw [bitsL, List.length_append, bitsL_len x k, bitsN]; split <;> rfl
theorem bitsL_at {x p : Nat} (hb : x.testBit p = true) : ∀ k, p < k → (bitsL x k)[bitsN x p]? = some p
  | 0, h => by omega
  | k + 1, h => by
    by_cases e : p = k
    · subst e
      rw [bitsL, hb, List.getElem?_append_right (by rw [bitsL_len]; exact Nat.le_refl _), bitsL_len]
      simp
    · have ih := bitsL_at hb k (by omega)
      have hl : bitsN x p < (bitsL x k).length := by
        rcases Nat.lt_or_ge (bitsN x p) (bitsL x k).length with h1 | h1
        · exact h1
        · rw [List.getElem?_eq_none h1] at ih; cases ih
      rw [bitsL, List.getElem?_append_left hl, ih]
/-- the numbers of a set below a number -/
def elemsB (ws : List Nat) : Nat → List Nat
  | 0 => []
  | k + 1 => elemsB ws k ++ (if bitAt ws k then [k] else [])
theorem elemsB_len (ws : List Nat) : ∀ k, (elemsB ws k).length = below ws k
  | 0 => rfl
  | k + 1 => by rw [elemsB, List.length_append, elemsB_len ws k, below]; split <;> rfl
theorem elemsB_at {ws : List Nat} {p : Nat} (hb : bitAt ws p = true) : ∀ k, p < k → (elemsB ws k)[below ws p]? = some p
  | 0, h => by omega
  | k + 1, h => by
    by_cases e : p = k
    · subst e
      rw [elemsB, hb, List.getElem?_append_right (by rw [elemsB_len]; exact Nat.le_refl _), elemsB_len]
      simp
    · have ih := elemsB_at hb k (by omega)
      have hl : below ws p < (elemsB ws k).length := by
        rcases Nat.lt_or_ge (below ws p) (elemsB ws k).length with h1 | h1
        · exact h1
        · rw [List.getElem?_eq_none h1] at ih; cases ih
      rw [elemsB, List.getElem?_append_left hl, ih]
theorem less_end {x y : Nat} (h : Less x (bitsN x 64) y) : y = 0 := by
  refine Nat.eq_of_testBit_eq fun j => ?_
  rw [Nat.zero_testBit]
  by_cases hj : j < 64
  · rw [h.2 j hj]
    cases hx : x.testBit j with
    | false => rfl
    | true =>
      have h5 := bitsN_mono x (show j + 1 ≤ 64 by omega)
      rw [bitsN, hx] at h5
      simp at h5
      have : ¬ bitsN x 64 ≤ bitsN x j := by omega
      simp [this]
  · have h1 : 2 ^ 64 ≤ 2 ^ j := Nat.pow_le_pow_right (by decide) (by omega)
    have h2 : (18446744073709551616 : Nat) = 2 ^ 64 := by decide
    have h3 := h.1
    rw [h2] at h3
    exact Nat.testBit_lt_two_pow (Nat.lt_of_lt_of_le h3 h1)
/-- ones -/
theorem ones0_run {x : Int} : CallR cx 28 #[u64 x] H (fun v H' => v = .func (.func 31) #[] #[ptr H.next] ∧ H' = ⟨H.next + 1, upd H.get H.next (.cells [u64 x] 50 true 0)⟩) := by
  refine wk28 (by simp) ?_
  simp [c28, AH.new]
/-- ones' function: the set bits of the box's word are told, lowest first -/
theorem ones1_run {H0 : AH} {O : Nat → Prop} {g : Value} {b x : Nat} {I : Nat → AH → (Nat → Prop) → Prop} {K : AH → (Nat → Prop) → Prop}
    (hc : Client cx g (fun k => #[i64 (((bitsL x 64)[k]?).getD 0 : Nat)]) (bitsN x 64) I K) (hx : x < 18446744073709551616) (hg : HasG gs H0) (hgn : nG ≤ H0.next) (hOg : ∀ l, l < nG → ¬ O l)
    (hbl : b < H0.next) (hbn : nG ≤ b) (hb : H0.get b = some (.cells [u64 x] 50 true 0)) (hOb : ¬ O b) (h0 : I 0 H0 O) :
    CallR cx 31 #[g, ptr b] H0 (fun v H' => v = .tuple #[] ∧ ∃ O', (∀ l, O' l → O l ∨ H0.next ≤ l) ∧ Keep (fun l => O l ∨ l = b) H0 H' ∧ (I (bitsN x 64) H' O' ∨ K H' O')) := by
  have hlow := hc.low h0
  refine wk31 (by simp) ?_
  simp [c31]
  refine aw_loop_to (bitsN x 64) (fun s t => t.env 0 = g ∧ t.env 1 = ptr b ∧ t.ds = [] ∧ (∃ z, Less x s z ∧ t.H.get b = some (.cells [u64 (z : Nat)] 50 true 0)) ∧ ∃ Ok, I s t.H Ok ∧ (∀ l, Ok l → O l ∨ H0.next ≤ l) ∧ Keep (fun l => O l ∨ l = b) H0 t.H) ?_ ?_ ?_
  · rintro s ⟨env, H1, ds⟩ hs ⟨e0, e1, eds, ⟨z, hz, hzb⟩, Ok, hik, hok, hkeep⟩
    simp only at e0 e1 eds hzb hik hkeep
    have hg1 : HasG gs H1 := fun y hy => by
      have hlt : y.1 < nG := of_decide_eq_true (List.all_eq_true.1 gs_lt y hy)
      rw [hkeep.get (by omega) (fun h => by rcases h with h | h; exact hOg _ hlt h; omega)]
      exact hg y hy
    have hzn := less_ne hz hs
    obtain ⟨l1, l2, l3⟩ := less_low hz hs
    have hzs := less_succ hz hs
    have htz := tz_run (H := H1) hzn hz.1 hg1
    have hat := bitsL_at l2 64 l1
    rw [l3] at hat
    generalize lowb z = t at l1 htz hat
    simp [e0, e1, hzb, hzn]
    refine callV_R cb25 htz ?_
    rintro _ H2 ⟨rfl, hH⟩
    subst hH
    simp [e0]
    have hst := hc.step hs hik
    simp only [hat, Option.getD_some] at hst
    obtain ⟨v, H3, hcall, O', hO', hk', hv⟩ := callV_of hst
    have hnb : ¬ Ok b := fun h => by
      rcases hok b h with h | h
      · exact hOb h
      · omega
    have hzb3 : H3.get b = some (.cells [u64 (z : Nat)] 50 true 0) := by rw [hk'.get (Nat.lt_of_lt_of_le hbl hkeep.1) hnb, hzb]
    have hok' : ∀ l, O' l → O l ∨ H0.next ≤ l := fun l hl => by
      rcases hO' l hl with h | h
      · exact hok l h
      · exact .inr (Nat.le_trans hkeep.1 h)
    have hkp : Keep (fun l => O l ∨ l = b) H0 H3 := ⟨Nat.le_trans hkeep.1 hk'.1, fun l hl hn => by
      rw [hk'.get (Nat.lt_of_lt_of_le hl hkeep.1) (fun h => by rcases hok l h with h | h; exact hn (.inl h); omega), hkeep.get hl hn]⟩
    refine callV_G hcall ?_
    rcases hv with ⟨rfl, hv⟩ | ⟨rfl, hv⟩
    · have hand := u64_and_nat z (z - 1) hz.1 (by have := hz.1; omega)
      obtain ⟨z1, hz1⟩ : ∃ z1, z1 = z - 1 := ⟨_, rfl⟩
      rw [← hz1] at hand hzs
      have hw1 : IntKind.u64.wrap ((z : Int) - 1) = (z1 : Int) := by rw [show (z : Int) - 1 = (z1 : Int) by omega, wU (by have := hz.1; omega)]
      simp [e0, e1, hzb3, hw1, hand, eds]
      have hnb' : ¬ O' b := fun h => by
        rcases hok' b h with h | h
        · exact hOb h
        · omega
      refine ⟨⟨_, hzs, rfl⟩, O', hc.stable hv (fun l hl => ?_) (Nat.le_refl _), hok', ⟨hkp.1, fun l hl hn => ?_⟩⟩
      · have : ¬ l = b := fun e => hnb' (e ▸ hl)
        simp [this]
      · have h1 : ¬ l = b := fun e => hn (.inr e)
        simp [h1]
        exact hkp.get hl hn
    · simp [eds]
      exact ⟨O', hok', hkp, .inr hv⟩
  · rintro ⟨env, H1, ds⟩ ⟨e0, e1, eds, ⟨z, hz, hzb⟩, Ok, hik, hok, hkeep⟩
    simp only at e0 e1 eds hzb hik hkeep
    have hz0 := less_end hz
    subst hz0
    simp [e0, e1, hzb, eds]
    exact ⟨Ok, hok, hkeep, .inl hik⟩
  · simp
    exact ⟨⟨x, less_zero hx, hb⟩, O, h0, fun l hl => .inl hl, Keep.refl⟩
end Go.Proofs.YtdmidlgnfepfjaaDoor.C

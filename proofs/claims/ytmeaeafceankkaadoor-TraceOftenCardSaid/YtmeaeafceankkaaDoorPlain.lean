/- Plain laws of decimal digits: what is told of a number is read back, and only that. Own text of this session; no program in sight. -/
import Derived.Test.YtmeaeafceankkaaDoorA18
set_option linter.unusedVariables false
set_option linter.unusedSimpArgs false
namespace Go.Proofs.YtmeaeafceankkaaDoor.Plain
/-- a digit -/
def dg (n : Nat) : UInt8 := UInt8.ofNat (48 + n)
theorem dg_nat {n : Nat} (h : n < 10) : (dg n).toNat = 48 + n := by
  simp [dg]; omega
/-- a number's digits -/
def dec (n : Nat) : List UInt8 := if h : n < 10 then [dg n] else dec (n / 10) ++ [dg (n % 10)]
termination_by n
decreasing_by omega
theorem dec_small {n : Nat} (h : n < 10) : dec n = [dg n] := by rw [dec]; simp [h]
theorem dec_big {n : Nat} (h : ¬ n < 10) : dec n = dec (n / 10) ++ [dg (n % 10)] := by rw [dec]; simp [h]
def isD (b : UInt8) : Prop := 48 ≤ b.toNat ∧ b.toNat ≤ 57
/-- what digits say -/
def val (l : List UInt8) : Nat := l.foldl (fun n b => n * 10 + (b.toNat - 48)) 0
theorem val_app (l : List UInt8) (b : UInt8) : val (l ++ [b]) = val l * 10 + (b.toNat - 48) := by simp [val]
theorem dec_ne (n : Nat) : dec n ≠ [] := by
  by_cases h : n < 10
  · rw [dec_small h]; simp
  · rw [dec_big h]; simp
theorem dec_isD (n : Nat) : ∀ b ∈ dec n, isD b := by
  induction n using Nat.strongRecOn with
  | _ n ih =>
    by_cases h : n < 10
    · rw [dec_small h]
      intro b hb
      rw [List.mem_singleton] at hb
      subst hb
      unfold isD
      rw [dg_nat h]; omega
    · rw [dec_big h]
      intro b hb
      rcases List.mem_append.1 hb with hb | hb
      · exact ih _ (by omega) b hb
      · rw [List.mem_singleton] at hb
        subst hb
        unfold isD
        rw [dg_nat (Nat.mod_lt _ (by omega))]; omega
theorem val_dec (n : Nat) : val (dec n) = n := by
  induction n using Nat.strongRecOn with
  | _ n ih =>
    by_cases h : n < 10
    · rw [dec_small h]
      simp [val, dg_nat h]
    · rw [dec_big h, val_app, ih _ (by omega), dg_nat (Nat.mod_lt _ (by omega))]
      omega
theorem dec_inj {m n : Nat} (h : dec m = dec n) : m = n := by rw [← val_dec m, h, val_dec]
theorem val_ge {l : List UInt8} : ∀ (m : List UInt8), val l ≤ val (l ++ m)
  | [] => by simp
  | b :: m => by
    have h1 := val_ge (l := l ++ [b]) m
    rw [List.append_assoc, List.singleton_append] at h1
    rw [val_app] at h1
    omega
theorem dec_len {k : Nat} : ∀ {n : Nat}, 0 < k → n < 10 ^ k → (dec n).length ≤ k := by
  induction k with
  | zero => intro n h; omega
  | succ k ih =>
    intro n _ hn
    by_cases h : n < 10
    · rw [dec_small h]; simp
    · rw [dec_big h, List.length_append, List.length_singleton]
      have hk : 0 < k := by
        rcases Nat.eq_zero_or_pos k with rfl | h'
        · simp at hn; omega
        · exact h'
      have := ih (n := n / 10) hk (by rw [Nat.pow_succ] at hn; omega)
      omega
theorem dec_head {n : Nat} (h : (dec n).head? = some 48) : (dec n).length = 1 := by
  induction n using Nat.strongRecOn with
  | _ n ih =>
    by_cases h1 : n < 10
    · rw [dec_small h1]; simp
    · rw [dec_big h1] at h
      have h2 : (dec (n / 10)).head? = some 48 := by
        have := dec_ne (n / 10)
        cases hd : dec (n / 10) with
        | nil => exact absurd hd this
        | cons x l => rw [hd] at h; simpa using h
      have h3 := ih _ (by omega) h2
      have h4 : n / 10 = 0 := by
        cases hd : dec (n / 10) with
        | nil => rw [hd] at h3; simp at h3
        | cons x l =>
          rw [hd] at h3 h2
          simp at h2 h3
          subst h2 h3
          have := val_dec (n / 10)
          rw [hd] at this
          simpa [val] using this.symm
      omega
theorem val_pos : ∀ {l : List UInt8} {b : UInt8}, isD b → b ≠ 48 → 1 ≤ val (b :: l) := by
  intro l b hb hn
  have h := val_ge (l := [b]) l
  have h1 : val [b] = b.toNat - 48 := by simp [val]
  have h2 : b.toNat ≠ 48 := fun e => hn (UInt8.toNat_inj.1 e)
  unfold isD at hb
  simp only [List.singleton_append] at h
  omega
/-- digits without a needless 0 ahead are a number's -/
theorem dec_val {l : List UInt8} (hne : l ≠ []) (hd : ∀ b ∈ l, isD b) (hz : l.head? = some 48 → l.length = 1) : dec (val l) = l := by
  obtain ⟨m, b, rfl⟩ : ∃ m b, l = m ++ [b] := ⟨l.dropLast, l.getLast hne, (List.dropLast_concat_getLast hne).symm⟩
  have hb : isD b := hd b (by simp)
  have hbn : dg (b.toNat - 48) = b := by
    unfold isD at hb
    apply UInt8.toNat_inj.1
    rw [dg_nat (by omega)]; omega
  rw [val_app]
  cases m with
  | nil =>
    unfold isD at hb
    simp only [val, List.foldl_nil]
    rw [dec_small (by omega)]
    simp only [Nat.zero_mul, Nat.zero_add, List.nil_append]
    rw [hbn]
  | cons x t =>
    have hx : x ≠ 48 := by
      rintro rfl
      have := hz (by simp)
      simp at this
    have h1 : 1 ≤ val (x :: t) := val_pos (hd x (by simp)) hx
    have ih := dec_val (l := x :: t) (by simp) (fun b hb => hd b (by simp at hb ⊢; rcases hb with h | h <;> simp [h])) (fun h => by simp at h; exact absurd h hx)
    unfold isD at hb
    rw [dec_big (by omega)]
    have e1 : (val (x :: t) * 10 + (b.toNat - 48)) / 10 = val (x :: t) := by omega
    have e2 : (val (x :: t) * 10 + (b.toNat - 48)) % 10 = b.toNat - 48 := by omega
    rw [e1, e2, ih, hbn]
termination_by l.length
decreasing_by all_goals simp_all
/-- a number below 2^64 whose text it is -/
def Is (l : List UInt8) (n : Nat) : Prop := n < 18446744073709551616 ∧ l = dec n
theorem Is.uniq {l : List UInt8} {m n : Nat} (h : Is l m) (h' : Is l n) : m = n := dec_inj (h.2.symm.trans h'.2)
theorem is_len {l : List UInt8} {n : Nat} (h : Is l n) : l.length ≤ 20 := by
  obtain ⟨h1, rfl⟩ := h
  exact dec_len (by omega) (by omega)
theorem is_val {l : List UInt8} {n : Nat} (h : Is l n) : val l = n := by obtain ⟨h1, rfl⟩ := h; exact val_dec n
end Go.Proofs.YtmeaeafceankkaaDoor.Plain

/- What a gauge tells: Hits, Mille, Streak, Total, and the document's. Own text of this session. -/
import Derived.Test.YtjeeokehnjnkjaaTold
import Derived.Test.YtjeeokehnjnkjaaCnt
set_option linter.unusedVariables false
set_option linter.unusedSimpArgs false
set_option maxRecDepth 4000
set_option maxHeartbeats 4000000
namespace Go.Proofs.Ytjeeokehnjnkjaa.C
open Go Go.RowKit Go.Proofs.YtjeeokehnjnkjaaA
variable {H : AH}
def one (b : Bool) : Nat := if b then 1 else 0
def hits : List Bool → Nat
  | [] => 0
  | b :: l => one b + hits l
theorem hits_app : ∀ a b : List Bool, hits (a ++ b) = hits a + hits b
  | [], b => by simp [hits]
  | x :: a, b => by rw [List.cons_append, hits, hits, hits_app a b]; omega
theorem hits_le : ∀ a : List Bool, hits a ≤ a.length
  | [] => Nat.le_refl 0
  | x :: a => by have := hits_le a; rw [hits, List.length_cons, one]; split <;> omega
def cntF (f : Nat → Bool) : Nat → Nat
  | 0 => 0
  | k + 1 => cntF f k + one (f k)
theorem below_cntF (ws : List Nat) : ∀ k, below ws k = cntF (bitAt ws) k
  | 0 => rfl
  | k + 1 => by rw [below, cntF, below_cntF ws k, one]
theorem cntF_congr {f g : Nat → Bool} (h : ∀ j, f j = g j) : ∀ k, cntF f k = cntF g k
  | 0 => rfl
  | k + 1 => by rw [cntF, cntF, cntF_congr h k, h]
theorem cntF_upd (f : Nat → Bool) (j : Nat) (b : Bool) : ∀ k, cntF (fun i => if i = j then b else f i) k + (if j < k then one (f j) else 0) = cntF f k + (if j < k then one b else 0)
  | 0 => rfl
  | k + 1 => by
    have ih := cntF_upd f j b k
    rw [cntF, cntF]
    by_cases h1 : j < k
    · have h2 : j < k + 1 := by omega
      have h3 : ¬ k = j := by omega
      rw [if_pos h1, if_pos h1] at ih
      rw [if_pos h2, if_pos h2, if_neg h3]
      omega
    · rw [if_neg h1, if_neg h1] at ih
      by_cases h3 : k = j
      · subst h3
        simp at ih ⊢
        omega
      · have h4 : ¬ j < k + 1 := by omega
        simp only [if_neg h4, if_neg h3]
        omega
theorem ringR_out {w j : Nat} : ∀ (r : List Bool), r.length ≤ j → j < w → ringR w r j = false
  | [], _, _ => rfl
  | b :: r, h, hj => by
    simp only [List.length_cons] at h
    have h1 : r.length % w = r.length := Nat.mod_eq_of_lt (by omega)
    rw [ringR, if_neg (by omega), ringR_out r (by omega) hj]
theorem ring_hits {w : Nat} (hw : 0 < w) : ∀ (n : Nat) (bs : List Bool), bs.length = n → cntF (ring w bs) w = hits (lastB bs w)
  | 0, bs, h => by
    have e : bs = [] := List.length_eq_zero_iff.1 h
    subst e
    have : ∀ k, cntF (ring w []) k = 0 := fun k => by
      induction k with
      | zero => rfl
      | succ k ih => rw [cntF, ih]; rfl
    rw [this]; simp [lastB, hits]
  | n + 1, bs, h => by
    have hne : bs ≠ [] := fun e => by rw [e] at h; cases h
    obtain ⟨ls, b, rfl⟩ : ∃ ls b, bs = ls ++ [b] := ⟨_, _, (List.dropLast_concat_getLast hne).symm⟩
    have hl : ls.length = n := by simpa using h
    have ih := ring_hits hw n ls hl
    have h1 : cntF (ring w (ls ++ [b])) w = cntF (fun i => if i = ls.length % w then b else ring w ls i) w := cntF_congr (fun j => ring_snoc w ls b j) w
    have hlt : ls.length % w < w := Nat.mod_lt _ hw
    have h2 := cntF_upd (ring w ls) (ls.length % w) b w
    rw [if_pos hlt, if_pos hlt] at h2
    rw [h1]
    by_cases hn : n < w
    · have h3 : ls.length % w = ls.length := Nat.mod_eq_of_lt (by omega)
      have h4 : ring w ls (ls.length % w) = false := by rw [ring]; exact ringR_out _ (by simp; omega) hlt
      have h5 : lastB (ls ++ [b]) w = ls ++ [b] := by rw [lastB, Nat.sub_eq_zero_of_le (by simp; omega)]; rfl
      have h6 : lastB ls w = ls := by rw [lastB, Nat.sub_eq_zero_of_le (by omega)]; rfl
      rw [h4] at h2
      rw [h5, hits_app]
      rw [h6] at ih
      simp only [hits, one] at h2 ⊢
      simp at h2
      omega
    · have hmod : (ls.length - w) % w = ls.length % w := (Nat.mod_eq_sub_mod (by omega)).symm
      have h4 := ring_at hw (bs := ls) (t := ls.length - w) (by omega) (by omega)
      rw [hmod] at h4
      have h5 : lastB (ls ++ [b]) w = ls.drop (ls.length - w + 1) ++ [b] := by
        rw [lastB, List.length_append, List.length_singleton, show ls.length + 1 - w = ls.length - w + 1 by omega, List.drop_append_of_le_length (by omega)]
      have h6 : lastB ls w = ls.getD (ls.length - w) false :: ls.drop (ls.length - w + 1) := by
        rw [lastB, List.getD_eq_getElem?_getD, List.getElem?_eq_getElem (by omega)]
        exact List.drop_eq_getElem_cons (by omega)
      rw [h6, hits] at ih
      rw [h4] at h2
      rw [h5, hits_app]
      simp only [hits]
      omega
/-- Hits -/
theorem hits_run {g S W w : Nat} {bs : List Bool} (h : IsG H g S W w bs) : CallR cx 9 #[ptr g] H (fun v H' => v = i64 ((hits (lastB bs w) : Nat) : Int) ∧ H' = H) := by
  obtain ⟨ws, hs, hb⟩ := h.set
  have hg := h.hg
  have hc := count_run hs
  rw [below_cntF, cntF_congr hb, ring_hits h.pos _ bs rfl] at hc
  generalize ((bs.length % w : Nat) : Int) = a at hg
  refine wk9 (by simp) ?_
  simp [c9, hg]
  refine callV_R cb22 hc ?_
  rintro _ _ ⟨rfl, rfl⟩
  simp
def mille (l : List Bool) : Nat := hits l * 1000 / l.length
theorem quoN (a b : Nat) (hb : 0 < b) (ha : a < 1000000000000) (ox oy : Operand) : aBin Try.prog .quo 3 ox oy (i64 (a : Int)) (i64 (b : Int)) = some (i64 ((a / b : Nat) : Int)) := by
  rw [aBin_quo (P := Try.prog) 3 ox oy .i64 (a : Int) b (by omega)]
  have : Int.tdiv (a : Int) (b : Int) = ((a / b : Nat) : Int) := rfl
  have h2 := Nat.div_le_self a b
  rw [this]
  generalize a / b = z at h2
  rw [w64 (by omega)]
/-- Mille -/
theorem mille_run {g S W w : Nat} {bs : List Bool} (h : IsG H g S W w bs) : CallR cx 10 #[ptr g] H (fun v H' => v = i64 ((mille (lastB bs w) : Nat) : Int) ∧ H' = H) := by
  have hl := lastB_len bs w
  have hf := h.few
  have hh := hits_le (lastB bs w)
  have hlen := glen_run h
  have hhit := hits_run h
  refine wk10 (by simp) ?_
  simp [c10]
  refine callV_R cb8 hlen ?_
  rintro _ H1 ⟨rfl, hH⟩
  subst hH
  unfold mille
  rw [← hl] at hlen ⊢
  generalize lastB bs w = l at *
  by_cases h0 : l.length = 0
  · have h0I : (l.length : Int) = 0 := by omega
    simp [h0, h0I]
  · have h0I : ¬ (l.length : Int) = 0 := by omega
    obtain ⟨p, hp⟩ : ∃ p, p = hits l * 1000 := ⟨_, rfl⟩
    have hw : IntKind.i64.wrap (1000 * (hits l : Int)) = (p : Int) := by rw [w64 (by omega)]; omega
    have hq := quoN p l.length (by omega) (by omega)
    rw [← hp]
    generalize p / l.length = z at hq
    have hne : ¬ l = [] := fun e => h0 (by rw [e]; rfl)
    simp [h0, h0I, hne]
    refine callV_R cb9 hhit ?_
    rintro _ H2 ⟨rfl, hH⟩
    subst hH
    simp [hw]
    refine callV_R cb8 hlen ?_
    rintro _ H3 ⟨rfl, hH⟩
    subst hH
    simp [hq]
/-- Total -/
theorem total_run {g S W w : Nat} {bs : List Bool} (h : IsG H g S W w bs) : CallR cx 17 #[ptr g] H (fun v H' => v = u64 ((bs.length : Nat) : Int) ∧ H' = H) := by
  have hg := h.hg
  generalize ((bs.length % w : Nat) : Int) = a at hg
  refine wk17 (by simp) ?_
  simp [c17, hg]
/-- ref.Hits -/
theorem rhits_run {wr : Bool} {sv : Value} {l : List Bool} {O : Option Nat} (h : Row 4 wr H sv (bcells l) O) (hl : l.length < 1000000) : CallR cx 14 #[sv] H (fun v H' => v = i64 ((hits l : Nat) : Int) ∧ H' = H) := by
  obtain ⟨ra, rfl, _⟩ := h.isSlice
  simp only [List.length_map] at h ⊢
  refine wk14 (by simp) ?_
  simp [c14]
  refine aw_loop_to l.length (fun k t => t.env 0 = .slice ra l.length l.length ∧ t.env 3 = i64 ((hits (l.take k) : Nat) : Int) ∧ t.env 4 = i64 (k : Nat) ∧ t.ds = [] ∧ t.H = H) ?_ ?_ ?_
  · rintro k ⟨env, H1, ds⟩ hk ⟨e0, e3, e4, eds, hH⟩
    simp only at e0 e3 e4 eds hH
    subst hH
    have hkN : (k : Int) < l.length := by omega
    have hw := w64 (n := (k : Int) + 1) (by omega)
    obtain ⟨la, oa, ca, rfl, g1, g2, _⟩ := h.cell (i := k) (x := .bool l[k]) (by simp [hk])
    have hix := ix22 la oa l.length l.length .i64 (k : Int) (by omega) hkN
    rw [Int.toNat_natCast] at hix
    have hh := hits_le (l.take k)
    have htk : l.take (k + 1) = l.take k ++ [l[k]] := by rw [List.take_add_one, List.getElem?_eq_getElem hk]; rfl
    have hsn : hits (l.take (k + 1)) = hits (l.take k) + one l[k] := by rw [htk, hits_app]; simp [hits]
    have hlt : (l.take k).length ≤ k := by simp; omega
    generalize l[k] = x at g2 hsn
    generalize hB1 : hits (l.take (k + 1)) = B1 at hsn
    generalize hits (l.take k) = B at e3 hsn hh
    cases x with
    | true =>
      have hw2 : IntKind.i64.wrap ((B : Int) + 1) = (B1 : Int) := by rw [w64 (by omega)]; simp [one] at hsn; omega
      simp [e0, e3, e4, hk, hkN, hix, g1, g2, hw, hw2, hB1, eds]
    | false =>
      have hw2 : B = B1 := by simp [one] at hsn; omega
      simp [e0, e3, e4, hk, hkN, hix, g1, g2, hw, hw2, hB1, eds]
  · rintro ⟨env, H1, ds⟩ ⟨e0, e3, e4, eds, hH⟩
    simp only at e0 e3 e4 eds hH
    rw [List.take_length] at e3
    simp [e0, e3, e4, eds, hH]
  · simp [hits]
/-- ref.Mille -/
theorem rmille_run {wr : Bool} {sv : Value} {l : List Bool} {O : Option Nat} (h : Row 4 wr H sv (bcells l) O) (hl : l.length < 1000000) : CallR cx 15 #[sv] H (fun v H' => v = i64 ((mille l : Nat) : Int) ∧ H' = H) := by
  have hr := rhits_run h hl
  obtain ⟨ra, rfl, _⟩ := h.isSlice
  simp only [List.length_map] at h hr ⊢
  refine wk15 (by simp) ?_
  unfold mille
  have hh := hits_le l
  by_cases h0 : l.length = 0
  · have h0I : (l.length : Int) = 0 := by omega
    simp [c15, h0, h0I]
  · have h0I : ¬ (l.length : Int) = 0 := by omega
    have hne : ¬ l = [] := fun e => h0 (by rw [e]; rfl)
    obtain ⟨p, hp⟩ : ∃ p, p = hits l * 1000 := ⟨_, rfl⟩
    have hw : IntKind.i64.wrap ((hits l : Int) * 1000) = (p : Int) := by rw [w64 (by omega)]; omega
    have hq := quoN p l.length (by omega) (by omega)
    rw [← hp]
    generalize p / l.length = z at hq
    simp [c15, h0, h0I, hne]
    refine callV_R cb14 hr ?_
    rintro _ H2 ⟨rfl, hH⟩
    subst hH
    simp [hw, hq]
/-- as many as there are at the end -/
def lead : List Bool → Nat
  | [] => 0
  | b :: r => if b then lead r + 1 else 0
def strk (l : List Bool) : Nat := lead l.reverse
theorem lead_le : ∀ l : List Bool, lead l ≤ l.length
  | [] => Nat.le_refl 0
  | b :: l => by have := lead_le l; rw [lead, List.length_cons]; split <;> omega
theorem strk_le (l : List Bool) : strk l ≤ l.length := by have := lead_le l.reverse; rw [List.length_reverse] at this; exact this
theorem strk_snoc (l : List Bool) (b : Bool) : strk (l ++ [b]) = if b then strk l + 1 else 0 := by simp [strk, lead]
theorem lead_all : ∀ (l : List Bool) (k : Nat), (∀ j, j < k → l[j]? = some true) → (l[k]? = some false ∨ k = l.length) → lead l = k
  | [], k, h, h2 => by
    rcases h2 with h2 | h2
    · simp at h2
    · rw [h2]; rfl
  | b :: l, 0, h, h2 => by
    rcases h2 with h2 | h2
    · simp at h2; subst h2; rfl
    · simp at h2
  | b :: l, k + 1, h, h2 => by
    have h3 := h 0 (by omega)
    simp at h3
    subst h3
    have := lead_all l k (fun j hj => by have := h (j + 1) (by omega); simpa using this) (by rcases h2 with h2 | h2; exact .inl (by simpa using h2); exact .inr (by simpa using h2))
    rw [lead, this]; rfl
/-- ref.Streak -/
theorem rstreak_run {wr : Bool} {sv : Value} {l : List Bool} {O : Option Nat} (h : Row 4 wr H sv (bcells l) O) (hl : l.length < 1000000) : CallR cx 16 #[sv] H (fun v H' => v = i64 ((strk l : Nat) : Int) ∧ H' = H) := by
  obtain ⟨ra, rfl, _⟩ := h.isSlice
  simp only [List.length_map] at h ⊢
  refine wk16 (by simp) ?_
  simp [c16]
  refine aw_loop_to l.length (fun k t => t.env 0 = .slice ra l.length l.length ∧ t.env 3 = i64 ((strk (l.take k) : Nat) : Int) ∧ t.env 4 = i64 (k : Nat) ∧ t.ds = [] ∧ t.H = H) ?_ ?_ ?_
  · rintro k ⟨env, H1, ds⟩ hk ⟨e0, e3, e4, eds, hH⟩
    simp only at e0 e3 e4 eds hH
    subst hH
    have hkN : (k : Int) < l.length := by omega
    have hw := w64 (n := (k : Int) + 1) (by omega)
    obtain ⟨la, oa, ca, rfl, g1, g2, _⟩ := h.cell (i := k) (x := .bool l[k]) (by simp [hk])
    have hix := ix22 la oa l.length l.length .i64 (k : Int) (by omega) hkN
    rw [Int.toNat_natCast] at hix
    have hh := strk_le (l.take k)
    have htk : l.take (k + 1) = l.take k ++ [l[k]] := by rw [List.take_add_one, List.getElem?_eq_getElem hk]; rfl
    have hsn : strk (l.take (k + 1)) = if l[k] then strk (l.take k) + 1 else 0 := by rw [htk, strk_snoc]
    have hlt : (l.take k).length ≤ k := by simp; omega
    generalize l[k] = x at g2 hsn
    generalize hB1 : strk (l.take (k + 1)) = B1 at hsn
    generalize strk (l.take k) = B at e3 hsn hh
    cases x with
    | true =>
      have hw2 : IntKind.i64.wrap ((B : Int) + 1) = (B1 : Int) := by rw [w64 (by omega)]; simp at hsn; omega
      simp [e0, e3, e4, hk, hkN, hix, g1, g2, hw, hw2, hB1, eds]
    | false =>
      have hw2 : B1 = 0 := by simpa using hsn
      subst hw2
      simp [e0, e3, e4, hk, hkN, hix, g1, g2, hw, hB1, eds]
  · rintro ⟨env, H1, ds⟩ ⟨e0, e3, e4, eds, hH⟩
    simp only at e0 e3 e4 eds hH
    rw [List.take_length] at e3
    simp [e0, e3, e4, eds, hH]
  · simp [strk, lead]
end Go.Proofs.Ytjeeokehnjnkjaa.C

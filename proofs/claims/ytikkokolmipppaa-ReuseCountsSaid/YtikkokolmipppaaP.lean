/- Last, next, distance, recency and the histogram: the plain law. Own text of this session. -/
import Derived.Test.YtikkokolmipppaaC
set_option linter.unusedVariables false
set_option linter.unusedSimpArgs false
namespace Go.Proofs.Ytikkokolmipppaa.Plain
/-- how many unlike ones -/
def nd : List Nat → Nat
  | [] => 0
  | x :: l => nd l + if x ∈ l then 0 else 1
theorem nd_snoc (x : Nat) : ∀ l, nd (l ++ [x]) = nd l + if x ∈ l then 0 else 1
  | [] => by simp [nd]
  | y :: l => by
    rw [List.cons_append, nd, nd, nd_snoc x l]
    by_cases e : x = y
    · subst e
      by_cases h : x ∈ l <;> simp [h]
    · have e' : ¬ y = x := fun h => e h.symm
      by_cases h1 : y ∈ l <;> by_cases h2 : x ∈ l <;> simp [h1, h2, e, e']
theorem nd_reverse : ∀ l, nd (List.reverse l) = nd l
  | [] => rfl
  | x :: l => by
    rw [List.reverse_cons, nd_snoc, nd_reverse l, nd]
    simp
theorem nd_le : ∀ l, nd l ≤ l.length
  | [] => Nat.le_refl 0
  | x :: l => by
    have := nd_le l
    rw [nd, List.length_cons]
    split <;> omega
/-- each key once -/
def unl (xs : List Nat) : List Nat := xs.foldl (fun o x => if x ∈ o then o else o ++ [x]) []
theorem unl_snoc (xs : List Nat) (x : Nat) : unl (xs ++ [x]) = if x ∈ unl xs then unl xs else unl xs ++ [x] := by
  unfold unl
  rw [List.foldl_append]
  rfl
theorem unl_mem : ∀ (n : Nat) (xs : List Nat), xs.length = n → ∀ y, y ∈ unl xs ↔ y ∈ xs
  | 0, xs, h, y => by
    have : xs = [] := List.length_eq_zero_iff.1 h
    subst this
    simp [unl]
  | n + 1, xs, h, y => by
    obtain ⟨zs, x, rfl⟩ : ∃ zs x, xs = zs ++ [x] := by
      refine ⟨xs.dropLast, xs.getLast (by intro e; rw [e] at h; cases h), (List.dropLast_concat_getLast _).symm⟩
    have ih := unl_mem n zs (by simpa using h)
    rw [unl_snoc]
    by_cases hx : x ∈ unl zs
    · rw [if_pos hx, ih]
      have := (ih x).1 hx
      simp
      rintro rfl
      exact this
    · rw [if_neg hx]
      simp [ih]
theorem mem_unl (xs : List Nat) (y : Nat) : y ∈ unl xs ↔ y ∈ xs := unl_mem _ xs rfl y
theorem unl_len : ∀ (n : Nat) (xs : List Nat), xs.length = n → (unl xs).length = nd xs
  | 0, xs, h => by
    have : xs = [] := List.length_eq_zero_iff.1 h
    subst this
    simp [unl, nd]
  | n + 1, xs, h => by
    obtain ⟨zs, x, rfl⟩ : ∃ zs x, xs = zs ++ [x] := by
      refine ⟨xs.dropLast, xs.getLast (by intro e; rw [e] at h; cases h), (List.dropLast_concat_getLast _).symm⟩
    have ih := unl_len n zs (by simpa using h)
    rw [unl_snoc, nd_snoc, ← ih]
    by_cases hx : x ∈ zs
    · rw [if_pos ((mem_unl zs x).2 hx), if_pos hx]; rfl
    · rw [if_neg (fun h => hx ((mem_unl zs x).1 h)), if_neg hx]; simp
theorem unl_length (xs : List Nat) : (unl xs).length = nd xs := unl_len _ xs rfl
theorem unl_take (xs : List Nat) {k : Nat} (hk : k < xs.length) : unl (xs.take (k + 1)) = if xs[k] ∈ xs.take k then unl (xs.take k) else unl (xs.take k) ++ [xs[k]] := by
  rw [List.take_add_one, List.getElem?_eq_getElem hk]
  show unl (xs.take k ++ [xs[k]]) = _
  rw [unl_snoc]
  simp only [mem_unl]
/-- the greatest place below k with a key -/
def lastB (xs : List Nat) (y : Nat) : Nat → Option Nat
  | 0 => none
  | k + 1 => if xs[k]? = some y then some k else lastB xs y k
theorem lastB_spec (xs : List Nat) (y : Nat) : ∀ i, match lastB xs y i with
    | some k => k < i ∧ xs[k]? = some y ∧ ∀ j, k < j → j < i → xs[j]? ≠ some y
    | none => ∀ j, j < i → xs[j]? ≠ some y
  | 0 => by simp [lastB]
  | i + 1 => by
    have ih := lastB_spec xs y i
    unfold lastB
    by_cases h : xs[i]? = some y
    · rw [if_pos h]
      exact ⟨Nat.lt_succ_self i, h, fun j h1 h2 => by omega⟩
    · rw [if_neg h]
      cases hl : lastB xs y i with
      | none =>
        rw [hl] at ih
        intro j hj
        by_cases e : j = i
        · rw [e]; exact h
        · exact ih j (by omega)
      | some k =>
        rw [hl] at ih
        refine ⟨by have := ih.1; omega, ih.2.1, fun j h1 h2 => ?_⟩
        by_cases e : j = i
        · rw [e]; exact h
        · exact ih.2.2 j h1 (by omega)
theorem lastB_some {xs : List Nat} {y i k : Nat} : lastB xs y i = some k ↔ k < i ∧ xs[k]? = some y ∧ ∀ j, k < j → j < i → xs[j]? ≠ some y := by
  have h := lastB_spec xs y i
  constructor
  · intro e
    rw [e] at h
    exact h
  · rintro ⟨h1, h2, h3⟩
    cases hl : lastB xs y i with
    | none => rw [hl] at h; exact absurd h2 (h k h1)
    | some k' =>
      rw [hl] at h
      obtain ⟨g1, g2, g3⟩ := h
      rcases Nat.lt_trichotomy k k' with e | e | e
      · exact absurd g2 (h3 k' e g1)
      · rw [e]
      · exact absurd h2 (g3 k e h1)
theorem lastB_none {xs : List Nat} {y i : Nat} : lastB xs y i = none ↔ ∀ j, j < i → xs[j]? ≠ some y := by
  have h := lastB_spec xs y i
  constructor
  · intro e
    rw [e] at h
    exact h
  · intro hn
    cases hl : lastB xs y i with
    | none => rfl
    | some k =>
      rw [hl] at h
      exact absurd h.2.1 (hn k h.1)
def ov : Option Nat → Int
  | none => -1
  | some k => (k : Nat)
/-- a place's last one -/
def lst (xs : List Nat) (i : Nat) : Option Nat := lastB xs (xs.getD i 0) i
theorem lst_lt {xs : List Nat} {i k : Nat} (h : lst xs i = some k) : k < i := (lastB_some.1 h).1
theorem getD_of {xs : List Nat} {i : Nat} (h : i < xs.length) : xs[i]? = some (xs.getD i 0) := by
  rw [List.getD_eq_getElem?_getD, List.getElem?_eq_getElem h]; rfl
/-- a key's recency at a place -/
def recI (xs : List Nat) (m y : Nat) : Int := match lastB xs y m with
  | none => -1
  | some k => ((nd ((xs.take m).drop (k + 1)) : Nat) : Int)
def dist (xs : List Nat) (i : Nat) : Int := recI xs i (xs.getD i 0)
theorem recI_ge (xs : List Nat) (m y : Nat) : -1 ≤ recI xs m y := by unfold recI; split <;> omega
theorem recI_le (xs : List Nat) (m y : Nat) : recI xs m y ≤ m := by
  unfold recI
  split
  · omega
  · rename_i k hk
    have := nd_le ((xs.take m).drop (k + 1))
    rw [List.length_drop, List.length_take] at this
    omega
/-- the live ones among the first i are the last ones of their keys -/
def live (xs : List Nat) (i j : Nat) : Bool := decide (j < i ∧ xs.getD j 0 ∉ (xs.take i).drop (j + 1))
theorem mem_part {xs : List Nat} {i a y : Nat} (hi : i ≤ xs.length) : y ∈ (xs.take i).drop a ↔ ∃ j, a ≤ j ∧ j < i ∧ xs[j]? = some y := by
  rw [List.mem_iff_getElem?]
  constructor
  · rintro ⟨n, hn⟩
    rw [List.getElem?_drop, List.getElem?_take] at hn
    split at hn
    · exact ⟨a + n, by omega, by omega, hn⟩
    · cases hn
  · rintro ⟨j, h1, h2, h3⟩
    refine ⟨j - a, ?_⟩
    rw [List.getElem?_drop, List.getElem?_take, show a + (j - a) = j by omega, if_pos h2]
    exact h3
theorem live_lst {xs : List Nat} {i k : Nat} (hi : i < xs.length) (h : lst xs i = some k) : live xs i k = true := by
  obtain ⟨h1, h2, h3⟩ := lastB_some.1 h
  have : xs.getD k 0 = xs.getD i 0 := by
    rw [List.getD_eq_getElem?_getD, h2]; rfl
  simp only [live, decide_eq_true_eq]
  refine ⟨h1, ?_⟩
  rw [mem_part (by omega), this]
  rintro ⟨j, g1, g2, g3⟩
  exact h3 j (by omega) g2 g3
/-- one step on -/
theorem live_step {xs : List Nat} {i : Nat} (hi : i < xs.length) (j : Nat) : live xs (i + 1) j = if j = i then true else if lst xs i = some j then false else live xs i j := by
  have gi := getD_of hi
  by_cases e : j = i
  · subst e
    rw [if_pos rfl]
    simp only [live, decide_eq_true_eq]
    refine ⟨by omega, ?_⟩
    rw [mem_part (by omega)]
    rintro ⟨k, g1, g2, g3⟩
    omega
  · rw [if_neg e]
    by_cases hl : lst xs i = some j
    · rw [if_pos hl]
      obtain ⟨h1, h2, h3⟩ := lastB_some.1 hl
      have : xs.getD j 0 = xs.getD i 0 := by rw [List.getD_eq_getElem?_getD, h2]; rfl
      simp only [live, decide_eq_false_iff_not]
      rintro ⟨_, hm⟩
      refine hm ?_
      rw [mem_part (by omega), this]
      exact ⟨i, by omega, by omega, gi⟩
    · rw [if_neg hl]
      unfold live
      rw [Bool.eq_iff_iff]
      simp only [decide_eq_true_eq]
      rw [mem_part (by omega), mem_part (by omega)]
      constructor
      · rintro ⟨h1, h2⟩
        exact ⟨by omega, fun ⟨k, g1, g2, g3⟩ => h2 ⟨k, g1, by omega, g3⟩⟩
      · rintro ⟨h1, h2⟩
        refine ⟨by omega, fun ⟨k, g1, g2, g3⟩ => ?_⟩
        by_cases ek : k = i
        · subst ek
          refine hl (lastB_some.2 ⟨h1, ?_, ?_⟩)
          · rw [getD_of (by omega : j < xs.length), ← g3, gi]
          · intro m m1 m2 m3
            exact h2 ⟨m, by omega, m2, by rw [m3, ← gi, g3]⟩
        · exact h2 ⟨k, g1, by omega, g3⟩
/-- how many are live from a place on -/
theorem below_live (f : Nat → Bool) (below : Nat → Nat) (hb : ∀ k, below (k + 1) = below k + if f k then 1 else 0) {xs : List Nat} {i : Nat} (hi : i ≤ xs.length) (hf : ∀ j, j < i → f j = live xs i j) :
    ∀ n a, a + n = i → below i = below a + nd ((xs.take i).drop a)
  | 0, a, h => by
    obtain rfl : a = i := by omega
    rw [List.drop_eq_nil_of_le (by simp; omega)]
    rfl
  | n + 1, a, h => by
    have ih := below_live f below hb hi hf n (a + 1) (by omega)
    rw [ih, hb, hf a (by omega)]
    have hd : (xs.take i).drop a = xs.getD a 0 :: (xs.take i).drop (a + 1) := by
      rw [List.drop_eq_getElem_cons (by simp; omega)]
      congr 1
      rw [List.getElem_take, List.getD_eq_getElem?_getD, List.getElem?_eq_getElem (by omega)]
      rfl
    rw [hd, nd]
    by_cases hm : xs.getD a 0 ∈ (xs.take i).drop (a + 1)
    · have : live xs i a = false := by simp only [live, decide_eq_false_iff_not]; exact fun h => h.2 hm
      rw [this, if_pos hm]
      simp
    · have : live xs i a = true := by simp only [live, decide_eq_true_eq]; exact ⟨by omega, hm⟩
      rw [this, if_neg hm]
      simp
      omega
/-- the distance, as the live ones tell it -/
theorem dist_live (f : Nat → Bool) (below : Nat → Nat) (hb : ∀ k, below (k + 1) = below k + if f k then 1 else 0) {xs : List Nat} {i k : Nat} (hi : i < xs.length) (hf : ∀ j, j < i → f j = live xs i j) (hk : lst xs i = some k) :
    dist xs i = (below i : Int) - (below k : Int) - 1 := by
  have hlt := lst_lt hk
  have h1 := below_live f below hb (Nat.le_of_lt hi) hf (i - k) k (by omega)
  have h2 := below_live f below hb (Nat.le_of_lt hi) hf (i - (k + 1)) (k + 1) (by omega)
  have h3 := hb k
  rw [hf k hlt, live_lst hi hk] at h3
  have e : dist xs i = ((nd ((xs.take i).drop (k + 1)) : Nat) : Int) := by
    unfold dist recI
    have : lastB xs (xs.getD i 0) i = some k := hk
    rw [this]
  rw [e]
  simp only [if_true] at h3
  omega
/-! the next one -/
def IsNext (xs : List Nat) (i n : Nat) : Prop := i < n ∧ n ≤ xs.length ∧ (∀ j, i < j → j < n → xs[j]? ≠ xs[i]?) ∧ (n < xs.length → xs[n]? = xs[i]?)
theorem isNext_uniq {xs : List Nat} {i n n' : Nat} (h : IsNext xs i n) (h' : IsNext xs i n') : n = n' := by
  obtain ⟨a1, a2, a3, a4⟩ := h
  obtain ⟨b1, b2, b3, b4⟩ := h'
  rcases Nat.lt_trichotomy n n' with e | e | e
  · exact absurd (a4 (by omega)) (b3 n a1 e)
  · exact e
  · exact absurd (b4 (by omega)) (a3 n' b1 e)
/-- the place behind the first ones that has this one as its last -/
def nxtK (xs : List Nat) (i : Nat) : Nat → Nat
  | 0 => xs.length
  | k + 1 => if lst xs k = some i then k else nxtK xs i k
theorem nxtK_spec (xs : List Nat) (i : Nat) : ∀ k, k ≤ xs.length → (nxtK xs i k = xs.length ∧ ∀ j, j < k → lst xs j ≠ some i) ∨ (nxtK xs i k < k ∧ lst xs (nxtK xs i k) = some i)
  | 0, _ => .inl ⟨rfl, fun j h => by omega⟩
  | k + 1, h => by
    unfold nxtK
    by_cases hl : lst xs k = some i
    · rw [if_pos hl]
      exact .inr ⟨by omega, hl⟩
    · rw [if_neg hl]
      rcases nxtK_spec xs i k (by omega) with h1 | h1
      · refine .inl ⟨h1.1, fun j hj => ?_⟩
        by_cases e : j = k
        · rw [e]; exact hl
        · exact h1.2 j (by omega)
      · exact .inr ⟨by omega, h1.2⟩
def nxt (xs : List Nat) (i : Nat) : Nat := nxtK xs i xs.length
theorem nxt_isNext {xs : List Nat} {i : Nat} (hi : i < xs.length) : IsNext xs i (nxt xs i) := by
  have hs := nxtK_spec xs i xs.length (Nat.le_refl _)
  change (nxt xs i = xs.length ∧ _) ∨ (nxt xs i < xs.length ∧ lst xs (nxt xs i) = some i) at hs
  rcases hs with ⟨h1, h2⟩ | ⟨h1, h2⟩
  · rw [h1]
    refine ⟨hi, Nat.le_refl _, ?_, fun h => by omega⟩
    intro j hj1
    induction j using Nat.strongRecOn with
    | _ j ih =>
      intro hj2 he
      refine h2 j hj2 (lastB_some.2 ⟨hj1, ?_, ?_⟩)
      · rw [← he, getD_of hj2]
      · intro m m1 m2 m3
        exact ih m m2 m1 (by omega) (by rw [m3, ← getD_of hj2, he])
  · obtain ⟨g1, g2, g3⟩ := lastB_some.1 h2
    have hn := getD_of h1
    refine ⟨g1, Nat.le_of_lt h1, ?_, fun _ => by rw [hn, g2]⟩
    intro j a1 a2 a3
    exact g3 j a1 a2 (by rw [a3, g2])
theorem nxt_lst {xs : List Nat} {i : Nat} (hi : i < xs.length) (hn : nxt xs i < xs.length) : lst xs (nxt xs i) = some i := by
  have hs := nxtK_spec xs i xs.length (Nat.le_refl _)
  rcases hs with ⟨h1, _⟩ | ⟨_, h2⟩
  · exact absurd h1 (by unfold nxt at hn; omega)
  · exact h2
/-! lists that are filled in -/
def fillL {α : Type} (z : α) (f : Nat → α) (n k : Nat) : List α := (List.range n).map fun i => if i < k then f i else z
theorem fillL_length {α : Type} (z : α) (f : Nat → α) (n k : Nat) : (fillL z f n k).length = n := by simp [fillL]
theorem fillL_zero {α : Type} (z : α) (f : Nat → α) (n : Nat) : fillL z f n 0 = List.replicate n z := by
  refine List.ext_getElem (by simp [fillL]) ?_
  intro i h1 h2
  simp [fillL]
theorem fillL_step {α : Type} (z : α) (f : Nat → α) (n k : Nat) (v : α) (h : v = f k) : (fillL z f n k).set k v = fillL z f n (k + 1) := by
  refine List.ext_getElem (by simp [fillL]) ?_
  intro i h1 h2
  rw [List.getElem_set]
  simp only [fillL, List.getElem_map, List.getElem_range]
  by_cases e : k = i
  · subst e; simp [h]
  · rw [if_neg e]
    by_cases h3 : i < k
    · rw [if_pos h3, if_pos (by omega)]
    · rw [if_neg h3, if_neg (by omega)]
theorem fillL_full {α : Type} (z : α) (f : Nat → α) (n : Nat) : fillL z f n n = (List.range n).map f := by
  refine List.ext_getElem (by simp [fillL]) ?_
  intro i h1 h2
  have h3 : i < n := by simpa [fillL] using h1
  simp only [fillL, List.getElem_map, List.getElem_range]
  rw [if_pos h3]
def lastL (xs : List Nat) : List Int := (List.range xs.length).map fun i => ov (lst xs i)
def nextL (xs : List Nat) : List Int := (List.range xs.length).map fun i => ((nxt xs i : Nat) : Int)
def distL (xs : List Nat) : List Int := (List.range xs.length).map (dist xs)
def nextK (xs : List Nat) (k : Nat) : List Int := (List.range xs.length).map fun i => ((nxtK xs i k : Nat) : Int)
@[simp] theorem lastL_length (xs : List Nat) : (lastL xs).length = xs.length := by simp [lastL]
@[simp] theorem nextL_length (xs : List Nat) : (nextL xs).length = xs.length := by simp [nextL]
@[simp] theorem distL_length (xs : List Nat) : (distL xs).length = xs.length := by simp [distL]
theorem nextK_zero (xs : List Nat) : nextK xs 0 = List.replicate xs.length ((xs.length : Nat) : Int) := by
  refine List.ext_getElem (by simp [nextK]) ?_
  intro i h1 h2
  simp [nextK, nxtK]
theorem nextK_none {xs : List Nat} {k : Nat} (h : lst xs k = none) : nextK xs (k + 1) = nextK xs k := by
  unfold nextK
  refine List.map_congr_left fun i _ => ?_
  rw [nxtK, h, if_neg (fun e => by cases e)]
theorem nextK_some {xs : List Nat} {k w : Nat} (h : lst xs k = some w) : (nextK xs k).set w ((k : Nat) : Int) = nextK xs (k + 1) := by
  refine List.ext_getElem (by simp [nextK]) ?_
  intro i h1 h2
  rw [List.getElem_set]
  simp only [nextK, List.getElem_map, List.getElem_range, nxtK, h]
  by_cases e : w = i
  · subst e; simp
  · rw [if_neg e, if_neg (fun h => e (Option.some.inj h))]
theorem ov_none {o : Option Nat} : ov o = -1 ↔ o = none := by
  cases o with
  | none => simp [ov]
  | some k => simp [ov]
end Go.Proofs.Ytikkokolmipppaa.Plain

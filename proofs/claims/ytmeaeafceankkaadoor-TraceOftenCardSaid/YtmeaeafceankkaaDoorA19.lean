/-
  A SMALL HEAP FOR A LARGE ONE (part 19: strings.Join and strings.Split, by the shelf's contracts). Own text of this session.
-/
import Derived.Test.YtmeaeafceankkaaDoorA18
import Derived.Shelf.Strings.OnBuilder
import Derived.Shelf.Strings.SplitCore
import Derived.Shelf.Strings.Search3
import Derived.Shelf.Strings.Count
import Derived.Lib.SplitLaws
set_option linter.unusedVariables false
set_option linter.unusedSimpArgs false
namespace Go.Proofs.YtmeaeafceankkaaDoorA
open Go Go.RowKit Go.Shelf

/-! ### 1. The plain law -/
/-- a text parted at each c -/
def splitL (c : UInt8) : List UInt8 → List (List UInt8)
  | [] => [[]]
  | b :: l => if b = c then [] :: splitL c l else match splitL c l with
    | [] => [[b]]
    | x :: xs => (b :: x) :: xs
theorem splitL_ne (c : UInt8) : ∀ l, splitL c l ≠ []
  | [] => by simp [splitL]
  | b :: l => by
    unfold splitL
    split
    · simp
    · split <;> simp
theorem index_one_nil (c : UInt8) : Lib.index [] [c] = -1 := by rfl
theorem index_one_cons (b c : UInt8) (l : List UInt8) : Lib.index (b :: l) [c] = if b = c then 0 else if Lib.index l [c] = -1 then -1 else Lib.index l [c] + 1 := by
  simp only [Lib.index_one, Lib.indexByte, beq_iff_eq]
theorem splitK_eq (c : UInt8) : ∀ l : List UInt8, Lib.splitK [c] 0 (Lib.count l [c]) l = splitL c l
  | [] => by rfl
  | b :: l => by
    have ih := splitK_eq c l
    by_cases h : b = c
    · subst h
      rw [Lib.count_cons_eq, Nat.add_comm, Lib.splitK, index_one_cons]
      simp [splitL, ih]
    · rw [Lib.count_cons_ne b c l h]
      unfold splitL
      rw [if_neg h, ← ih]
      cases hk : Lib.count l [c] with
      | zero => rfl
      | succ k =>
        have hi := index_one_cons b c l
        rw [if_neg h] at hi
        unfold Lib.splitK
        rw [hi]
        by_cases h1 : Lib.index l [c] = -1
        · simp [h1]
        · have h0 : -1 ≤ Lib.index l [c] := by
            rcases Lib.index_spec l [c] with h | ⟨i, h, _⟩ <;> omega
          have e : (Lib.index l [c] + 1).toNat = (Lib.index l [c]).toNat + 1 := by omega
          have h2 : ¬ Lib.index l [c] + 1 = -1 := by omega
          simp [h1, h2, e]

theorem splitB_str (c : UInt8) (l : List UInt8) : Lib.splitB ⟨#[c]⟩ 0 (Lib.countB (str l) ⟨#[c]⟩) (str l) = (splitL c l).map str := by
  have h := Lib.splitB_data ⟨#[c]⟩ 0 (Lib.countB (str l) ⟨#[c]⟩) (str l)
  have e : Lib.countB (str l) ⟨#[c]⟩ = Lib.count l [c] := rfl
  rw [e] at h ⊢
  have h2 : (Lib.splitB ⟨#[c]⟩ 0 (Lib.count l [c]) (str l)).map (·.data.toList) = splitL c l := by rw [h]; exact splitK_eq c l
  rw [← h2, List.map_map]
  refine (List.map_id' _).symm.trans (List.map_congr_left fun s _ => ?_)
  exact str_eta s
theorem splitL_len (c : UInt8) (l : List UInt8) : (splitL c l).length = Lib.count l [c] + 1 := by
  have h := Lib.splitB_all ⟨#[c]⟩ (Nat.le_refl _) 0 _ (str l) rfl
  rw [splitB_str, List.length_map] at h
  exact h

theorem splitL_snoc0 (c : UInt8) : ∀ t : List UInt8, ∃ d w, splitL c t = d ++ [w] ∧ ∀ b, splitL c (t ++ [b]) = if b = c then d ++ [w] ++ [[]] else d ++ [w ++ [b]]
  | [] => ⟨[], [], rfl, fun b => by by_cases h : b = c <;> simp [splitL, h]⟩
  | x :: t => by
    obtain ⟨d, w, h1, h2⟩ := splitL_snoc0 c t
    by_cases hx : x = c
    · refine ⟨[] :: d, w, by simp [splitL, hx, h1], fun b => ?_⟩
      by_cases hb : b = c <;> simp [splitL, hx, h2, hb]
    · cases d with
      | nil =>
        refine ⟨[], x :: w, by simp [splitL, hx, h1], fun b => ?_⟩
        by_cases hb : b = c <;> simp [splitL, hx, h2, hb]
      | cons e d =>
        refine ⟨(x :: e) :: d, w, by simp [splitL, hx, h1], fun b => ?_⟩
        by_cases hb : b = c <;> simp [splitL, hx, h2, hb]
theorem splitL_snoc {c : UInt8} {t w : List UInt8} {d : List (List UInt8)} (h : splitL c t = d ++ [w]) (b : UInt8) : splitL c (t ++ [b]) = if b = c then d ++ [w] ++ [[]] else d ++ [w ++ [b]] := by
  obtain ⟨d', w', h1, h2⟩ := splitL_snoc0 c t
  rw [h1] at h
  obtain ⟨rfl, e⟩ := List.append_inj' h rfl
  cases e
  exact h2 b
theorem join_cons2 (x y : List UInt8) (r : List (List UInt8)) (sep : List UInt8) : Lib.join (x :: y :: r) sep = x ++ (sep ++ Lib.join (y :: r) sep) := by
  rw [Lib.join_cons, Lib.join_cons]
  simp [Lib.joinTail]
theorem join_splitL (c : UInt8) : ∀ l, Lib.join (splitL c l) [c] = l
  | [] => by simp [splitL, Lib.join_one]
  | b :: l => by
    have ih := join_splitL c l
    unfold splitL
    cases hs : splitL c l with
    | nil => exact absurd hs (splitL_ne c l)
    | cons x xs =>
      rw [hs] at ih
      by_cases hb : b = c
      · simp only [hb, if_true]
        rw [join_cons2, ih]
        rfl
      · simp only [hb, if_false]
        rw [Lib.join_cons] at ih ⊢
        rw [List.cons_append, ih]
theorem splitL_app (c : UInt8) : ∀ (x m : List UInt8), c ∉ x → splitL c (x ++ c :: m) = x :: splitL c m
  | [], m, _ => by simp [splitL]
  | b :: x, m, h => by
    have hb : ¬ b = c := fun e => h (by simp [e])
    have ih := splitL_app c x m (fun e => h (by simp [e]))
    simp [splitL, hb, ih]
theorem splitL_plain {c : UInt8} : ∀ {x : List UInt8}, c ∉ x → splitL c x = [x]
  | [], _ => rfl
  | b :: x, h => by
    have hb : ¬ b = c := fun e => h (by simp [e])
    have ih := splitL_plain (c := c) (x := x) (fun e => h (by simp [e]))
    simp [splitL, hb, ih]
theorem splitL_join {c : UInt8} : ∀ {xs : List (List UInt8)}, xs ≠ [] → (∀ x ∈ xs, c ∉ x) → splitL c (Lib.join xs [c]) = xs
  | [], h, _ => absurd rfl h
  | [x], _, h => by rw [Lib.join_one]; exact splitL_plain (h x (by simp))
  | x :: y :: r, _, h => by
    rw [join_cons2, List.singleton_append, splitL_app c x _ (h x (by simp)), splitL_join (by simp) (fun z hz => h z (by simp [hz]))]

theorem splitL_one {c : UInt8} {l : List UInt8} : (splitL c l).length = 1 ↔ c ∉ l := by
  rw [splitL_len, Lib.count_one]
  constructor
  · intro h; exact List.count_eq_zero.1 (by omega)
  · intro h; rw [List.count_eq_zero.2 h]
theorem splitL_short (c : UInt8) : ∀ (l : List UInt8), ∀ x ∈ splitL c l, x.length ≤ l.length
  | [], x, h => by simp [splitL] at h; simp [h]
  | b :: l, x, h => by
    have ih := splitL_short c l
    unfold splitL at h
    split at h
    · rcases List.mem_cons.1 h with rfl | h
      · simp
      · have := ih x h; simp; omega
    · split at h
      · rename_i hs; exact absurd hs (splitL_ne c l)
      · rename_i y ys hs
        rw [hs] at ih
        rcases List.mem_cons.1 h with rfl | h
        · have := ih y (by simp); simp; omega
        · have := ih x (by simp [h]); simp; omega
theorem splitL_le (c : UInt8) (l : List UInt8) : (splitL c l).length ≤ l.length + 1 := by
  rw [splitL_len, Lib.count_one]
  have := List.count_le_length (a := c) (l := l)
  omega

/-! ### 2. strings.Join -/
def strs (l : List (List UInt8)) : List Value := l.map fun x => Value.string (str x)
@[simp] theorem strs_length (l : List (List UInt8)) : (strs l).length = l.length := by simp [strs]
theorem vr_string {ρ : LMap} {s : ByteArray} {v : Value} (h : VR ρ (.string s) v) : v = .string s := by cases h; rfl
theorem vra2 {ρ : LMap} {a b : Value} {xs : Array Value} (h : VRA ρ #[a, b] xs) : ∃ a' b', xs = #[a', b'] ∧ VR ρ a a' ∧ VR ρ b b' := by
  obtain ⟨h1, h2⟩ := h
  have hs : xs.size = 2 := h1.symm
  refine ⟨xs[0], xs[1], ?_, ?_, ?_⟩
  · exact Array.ext (by simp [hs]) fun i h1 h2 => by
      simp at h2
      match i, h2 with
      | 0, _ => rfl
      | 1, _ => rfl
  · have := h2 0 (by simp)
    simpa [Array.getD, hs] using this
  · have := h2 1 (by simp)
    simpa [Array.getD, hs] using this
theorem vra4 {ρ : LMap} {a b c d : Value} {xs : Array Value} (h : VRA ρ #[a, b, c, d] xs) : ∃ a' b' c' d', xs = #[a', b', c', d'] ∧ VR ρ a a' ∧ VR ρ b b' ∧ VR ρ c c' ∧ VR ρ d d' := by
  obtain ⟨h1, h2⟩ := h
  have hs : xs.size = 4 := h1.symm
  refine ⟨xs[0], xs[1], xs[2], xs[3], ?_, ?_, ?_, ?_, ?_⟩
  · exact Array.ext (by simp [hs]) fun i h1 h2 => by
      simp at h2
      match i, h2 with
      | 0, _ => rfl
      | 1, _ => rfl
      | 2, _ => rfl
      | 3, _ => rfl
  · have := h2 0 (by simp)
    simpa [Array.getD, hs] using this
  · have := h2 1 (by simp)
    simpa [Array.getD, hs] using this
  · have := h2 2 (by simp)
    simpa [Array.getD, hs] using this
  · have := h2 3 (by simp)
    simpa [Array.getD, hs] using this
def joinOrc (f0 : FuncId) (T : TypeId) : FuncId → Array Value → AH → Value → AH → Prop := fun f args H v H' =>
  f = f0 ∧ H' = H ∧ ∃ sv own xs sep O, args = #[sv, .string (str sep)] ∧ Row T own H sv (strs xs) O ∧ xs.length ≤ 140737488355328 ∧ (Lib.join xs sep).length ≤ 140737488355328 ∧ v = .string (str (Lib.join xs sep))
theorem joinOrc_ok {P : Program} {R : Ren} (L : Lays.n156 P R) (X : Builder.Extra P R) {T : TypeId} {G : Nat → Bool} {orc : FuncId → Array Value → AH → Value → AH → Prop} :
    ∀ f args H v H', joinOrc (R.f 156) T f args H v H' → JOk ⟨P, G, orc⟩ (.call f args H v H') := by
  rintro f args H' v H ⟨rfl, rfl, sv, own, xs, sep, O, rfl, hrow, hN, hlen, rfl⟩ ρ B args' w hG ha hE
  obtain ⟨a', b', rfl, h1, h2⟩ := vra2 ha
  obtain rfl := vr_string h2
  have done : ∀ {e : Ending} {w' : World}, e = .returned (.string (str (Lib.join xs sep))) → Below w.heap.size w w' → CallPost ρ B (.string (str (Lib.join xs sep))) H w e w' := by
    rintro e w' rfl hb
    exact ⟨_, ρ, rfl, LMap.le_refl _, .string _, hE.below hb, hb.mono hE.size⟩
  by_cases h0 : xs = []
  · subst h0
    have hnone : ∃ a c, a' = .slice a 0 c := by
      obtain ⟨a, rfl, _⟩ := hrow.isSlice
      cases h1 <;> exact ⟨_, _, rfl⟩
    obtain ⟨a, c, rfl⟩ := hnone
    exact (Any.strings_Join_none L X a c (str sep) w).mono fun e w' ⟨he, hw⟩ => done he (by rw [hw]; exact Below.refl _ _)
  · cases O with
    | none => exact absurd (by simpa [strs] using hrow.2) h0
    | some l =>
      obtain ⟨o, cs, rfl, hget, hcs, hle, hlt⟩ := hrow
      have hpos : 0 < xs.length := List.length_pos_iff.2 h0
      rw [strs_length] at h1 hcs hle
      obtain ⟨p, hp, C, T', z, g1, g2, g3, g4, g5, _⟩ := hE.blk l _ hget
      have hsl : ∃ c, a' = .slice (some ⟨p.blk, p.base + o, none⟩) xs.length c ∧ xs.length ≤ c := by
        generalize hk : xs.length = k at h1
        cases h1 with
        | slice _ _ _ c q hq hc hb =>
          rw [hp] at hq
          cases hq
          exact ⟨c, rfl, hc⟩
        | emptySlice => omega
      obtain ⟨c, rfl, hc⟩ := hsl
      have hblk : p.blk < w.heap.size := (Array.getElem?_eq_some_iff.1 g1).1
      have hcell : ∀ (j : Nat) (x : ByteArray), (xs.map str)[j]? = some x → w.cell? ⟨p.blk, p.base + o + j, none⟩ = some (.string x) := by
        intro j x hj
        rw [List.getElem?_map] at hj
        obtain ⟨y, hy, rfl⟩ := Option.map_eq_some_iff.1 hj
        have hjl : j < xs.length := by
          rcases Nat.lt_or_ge j xs.length with h | h
          · exact h
          · rw [List.getElem?_eq_none h] at hy; cases hy
        have hv : cs[o + j]? = some (.string (str y)) := by
          have e := row_at (vs := strs xs) (by rw [strs_length]; exact hcs) (i := j) (by simpa using hjl)
          rw [e]
          simp [strs, hy]
        obtain ⟨v', g6, g7⟩ := g5 _ _ hv
        rw [vr_string g7] at g6
        rw [← Nat.add_assoc] at g6
        simp [World.cell?, g1, g6]
      have hj := Any.strings_Join L X p.blk (p.base + o) c (xs.map str) (str sep) w hcell hblk (by simpa using hN) (by simpa using hc) (by simpa [List.map_map, Function.comp_def] using hlen)
      have e1 : (xs.map str).map (·.data.toList) = xs := by simp [List.map_map, Function.comp_def]
      rw [e1, List.length_map] at hj
      exact hj.mono fun e w' ⟨he, hw⟩ => done he hw

/-! ### 3. strings.genSplit at one byte -/
def splitOrc (f0 : FuncId) (T : TypeId) : FuncId → Array Value → AH → Value → AH → Prop := fun f args H v H' =>
  f = f0 ∧ ∃ l c, args = #[.string (str l), .string (str [c]), i64 0, i64 (-1)] ∧ l.length < 4294967281 ∧ v = sl H.next 0 (splitL c l).length ∧ H' = H.new (.cells (strs (splitL c l)) T true 1)
theorem splitOrc_ok {P : Program} {R : Ren} (L : Lays.n221 P R) (hi9 : (P.info? (R.t 9)).map (fun i => (i.zero, i.size, i.bytes)) = some (some (.string ByteArray.empty), 1, 16)) {G : Nat → Bool} {orc : FuncId → Array Value → AH → Value → AH → Prop} :
    ∀ f args H v H', splitOrc (R.f 221) (R.t 9) f args H v H' → JOk ⟨P, G, orc⟩ (.call f args H v H') := by
  rintro f args H v H' ⟨rfl, l, c, rfl, hl, rfl, rfl⟩ ρ B args' w hG ha hE
  obtain ⟨a', b', c', d', rfl, h1, h2, h3, h4⟩ := vra4 ha
  obtain rfl := vr_string h1
  obtain rfl := vr_string h2
  obtain rfl : c' = i64 0 := by cases h3; rfl
  obtain rfl : d' = i64 (-1) := by cases h4; rfl
  have e0 : str [c] = ⟨#[c]⟩ := rfl
  have hcnt : Lib.countB (str l) ⟨#[c]⟩ = Lib.count l [c] := rfl
  have hle : Lib.count l [c] ≤ l.length := by rw [Lib.count_one]; exact List.count_le_length
  have hs := Any.strings_genSplit_core (P := P) (ρ := R) L hi9 (str l) ⟨#[c]⟩ 0 (-1) (Lib.count l [c] + 1) w (by simpa using hl) (Nat.le_refl _) (Nat.zero_le _)
    (fun x C _ => (Any.strings_Index_one { L with } x c _).mono fun e w' ⟨he, hw⟩ => ⟨by rw [he]; show _ = Ending.returned (Value.int .i64 (Lib.index x.data.toList [c])); rw [Lib.index_one], hw⟩)
    ((Any.strings_Count_one { L with } (str l) c w).mono fun e w' ⟨he, hw⟩ => ⟨by rw [he, hcnt, Lib.count_one]; rfl, hw⟩)
    (by decide) (by decide) (by rw [if_pos (by decide), hcnt, str_size]; omega)
  rw [Nat.add_sub_cancel, ← hcnt, splitB_str, List.length_map, hcnt, ← splitL_len] at hs
  have e2 : Lib.cellsOf ((splitL c l).map str) (splitL c l).length = (strs (splitL c l)).toArray := by
    have := Lib.cellsOf_full ((splitL c l).map str)
    rw [List.length_map] at this
    rw [this, List.map_map]
    rfl
  rw [e2] at hs
  refine hs.mono ?_
  rintro e w' ⟨rfl, rfl⟩
  have hn : ρ H.next = none := hE.fresh _ (Nat.le_refl _)
  refine ⟨_, ρ.put H.next ⟨w.heap.size, 0, (splitL c l).length, 1⟩, rfl, LMap.le_put hn, ?_, ?_, (Below.refl _ _).alloc hE.size _⟩
  · have := VR.slice (ρ := ρ.put H.next ⟨w.heap.size, 0, (splitL c l).length, 1⟩) H.next 0 (splitL c l).length (splitL c l).length _ (LMap.put_same _ _ _) (Nat.le_refl _) (by simp)
    simpa using this
  · refine hE.alloc _ _ _ rfl ⟨(strs (splitL c l)).toArray, R.t 9, (0, 0), ?_, by simp, by simp, rfl, ?_, fun _ => ⟨hE.size, .inl rfl⟩⟩
    · show (w.heap.push _)[w.heap.size]? = _
      simp
    · intro i v hv
      refine ⟨v, by simpa using hv, ?_⟩
      obtain ⟨y, hy, rfl⟩ := List.mem_map.1 (List.mem_of_getElem? hv)
      exact .string _
end Go.Proofs.YtmeaeafceankkaaDoorA

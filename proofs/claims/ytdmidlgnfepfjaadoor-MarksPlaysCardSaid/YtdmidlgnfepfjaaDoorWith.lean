/- The document's lists: With, Without; and a set's numbers when one is put in or dropped. Own text of this session. -/
import Derived.Test.YtdmidlgnfepfjaaDoorTold
set_option linter.unusedVariables false
set_option linter.unusedSimpArgs false
set_option maxRecDepth 4000
set_option maxHeartbeats 4000000
namespace Go.Proofs.YtdmidlgnfepfjaaDoor.C
open Go Go.RowKit Go.Proofs.YtdmidlgnfepfjaaDoorA Go.Proofs.YtdmidlgnfepfjaaDoor.Ones
variable {H : AH}
/-- how many at the beginning are below a number -/
def ltN (i : Nat) : List Nat → Nat
  | [] => 0
  | a :: l => if a < i then ltN i l + 1 else 0
theorem ltN_le (i : Nat) : ∀ l : List Nat, ltN i l ≤ l.length
  | [] => Nat.le_refl 0
  | a :: l => by have := ltN_le i l; rw [ltN, List.length_cons]; split <;> omega
theorem ltN_at (i : Nat) : ∀ (l : List Nat) (k : Nat), k < ltN i l → ∃ h : k < l.length, l[k] < i
  | [], k, h => by simp [ltN] at h
  | a :: l, k, h => by
    rw [ltN] at h
    split at h
    · rename_i h1
      cases k with
      | zero => exact ⟨by simp, h1⟩
      | succ k =>
        obtain ⟨h2, h3⟩ := ltN_at i l k (by omega)
        exact ⟨by simp; omega, by simpa using h3⟩
    · omega
theorem ltN_end (i : Nat) : ∀ (l : List Nat) (h : ltN i l < l.length), ¬ l[ltN i l] < i
  | [], h => by simp at h
  | a :: l, h => by
    by_cases h1 : a < i
    · have e : ltN i (a :: l) = ltN i l + 1 := by rw [ltN, if_pos h1]
      have h2 : ltN i l < l.length := by rw [e] at h; simpa using h
      have := ltN_end i l h2
      simpa [e] using this
    · have e : ltN i (a :: l) = 0 := by rw [ltN, if_neg h1]
      simpa [e] using h1
theorem ltN_app (i : Nat) : ∀ (A B : List Nat), (∀ a ∈ A, a < i) → (∀ b ∈ B, ¬ b < i) → ltN i (A ++ B) = A.length
  | [], [], _, _ => rfl
  | [], b :: B, _, h => by rw [List.nil_append, ltN, if_neg (h b List.mem_cons_self)]; rfl
  | a :: A, B, h1, h2 => by
    rw [List.cons_append, ltN, if_pos (h1 a List.mem_cons_self), ltN_app i A B (fun x hx => h1 x (List.mem_cons_of_mem _ hx)) h2]
    rfl
def withL (l : List Nat) (i : Nat) : List Nat := l.take (ltN i l) ++ i :: (l.drop (ltN i l)).filter (fun x => decide (x ≠ i))
/-- the numbers below a number that a test holds of -/
def elemsF (f : Nat → Bool) : Nat → List Nat
  | 0 => []
  | k + 1 => elemsF f k ++ (if f k then [k] else [])
theorem elemsB_F (ws : List Nat) : ∀ k, elemsB ws k = elemsF (bitAt ws) k
  | 0 => rfl
  | k + 1 => by rw [elemsB, elemsF, elemsB_F ws k]
theorem elemsF_congr {f g : Nat → Bool} : ∀ k, (∀ j, j < k → f j = g j) → elemsF f k = elemsF g k
  | 0, _ => rfl
  | k + 1, h => by rw [elemsF, elemsF, elemsF_congr k (fun j hj => h j (by omega)), h k (by omega)]
theorem elemsF_lt (f : Nat → Bool) : ∀ k, ∀ x ∈ elemsF f k, x < k
  | 0, x, h => by simp [elemsF] at h
  | k + 1, x, h => by
    rw [elemsF, List.mem_append] at h
    rcases h with h | h
    · have := elemsF_lt f k x h; omega
    · split at h
      · simp at h; omega
      · simp at h
def elemsR (f : Nat → Bool) (a : Nat) : Nat → List Nat
  | 0 => []
  | d + 1 => elemsR f a d ++ (if f (a + d) then [a + d] else [])
theorem elemsF_split (f : Nat → Bool) (a : Nat) : ∀ d, elemsF f (a + d) = elemsF f a ++ elemsR f a d
  | 0 => by simp [elemsR]
  | d + 1 => by rw [← Nat.add_assoc, elemsF, elemsF_split f a d, elemsR, List.append_assoc]
theorem elemsR_ge (f : Nat → Bool) (a : Nat) : ∀ d, ∀ x ∈ elemsR f a d, a ≤ x
  | 0, x, h => by simp [elemsR] at h
  | d + 1, x, h => by
    rw [elemsR, List.mem_append] at h
    rcases h with h | h
    · exact elemsR_ge f a d x h
    · split at h
      · simp at h; omega
      · simp at h
theorem elemsR_congr {f g : Nat → Bool} {a : Nat} (h : ∀ j, a ≤ j → f j = g j) : ∀ d, elemsR f a d = elemsR g a d
  | 0 => rfl
  | d + 1 => by rw [elemsR, elemsR, elemsR_congr h d, h (a + d) (by omega)]
theorem filter_ne {l : List Nat} {i : Nat} (h : ∀ x ∈ l, x ≠ i) : l.filter (fun x => decide (x ≠ i)) = l := List.filter_eq_self.2 (fun x hx => by simp [h x hx])
theorem with_elems (f : Nat → Bool) {i N : Nat} (hi : i < N) : withL (elemsF f N) i = elemsF (fun j => if j = i then true else f j) N := by
  obtain ⟨d, rfl⟩ : ∃ d, N = i + 1 + d := ⟨N - (i + 1), by omega⟩
  have h1 := elemsF_split f (i + 1) d
  have h2 := elemsF_split (fun j => if j = i then true else f j) (i + 1) d
  have h3 : elemsR (fun j => if j = i then true else f j) (i + 1) d = elemsR f (i + 1) d := elemsR_congr (fun j hj => by simp [show ¬ j = i by omega]) d
  have h4 : elemsF (fun j => if j = i then true else f j) i = elemsF f i := elemsF_congr i (fun j hj => by simp [show ¬ j = i by omega])
  have hC := elemsR_ge f (i + 1) d
  have hA := elemsF_lt f i
  rw [h2, h3, elemsF, h4, h1, elemsF]
  generalize elemsR f (i + 1) d = C at hC
  generalize elemsF f i = A at hA
  have hB : ∀ b ∈ (if f i then [i] else []) ++ C, ¬ b < i := by
    intro b hb
    rw [List.mem_append] at hb
    rcases hb with hb | hb
    · split at hb
      · simp at hb; omega
      · simp at hb
    · have := hC b hb; omega
  have hl := ltN_app i A _ hA hB
  rw [List.append_assoc]
  have hf : ((if f i then [i] else []) ++ C).filter (fun x => decide (x ≠ i)) = C := by
    rw [List.filter_append, filter_ne (l := C) (fun x hx => by have := hC x hx; omega)]
    split <;> simp
  unfold withL
  rw [hl, List.take_left, List.drop_left, hf]
  simp
theorem without_elems (f : Nat → Bool) (i : Nat) : ∀ N, (elemsF f N).filter (fun x => decide (x ≠ i)) = elemsF (fun j => if j = i then false else f j) N
  | 0 => rfl
  | N + 1 => by
    rw [elemsF, elemsF, List.filter_append, without_elems f i N]
    congr 1
    by_cases h : N = i
    · simp only [h, if_true]
      split <;> simp
    · simp only [h, if_false]
      split
      · simp [h]
      · rfl
theorem icells_snoc (l : List Nat) (x : Nat) : icells (l ++ [x]) = icells l ++ [i64 (x : Nat)] := by simp [icells]
theorem ic_cell {l : List Nat} {k : Nat} (hk : k < l.length) : (icells l)[k]? = some (i64 (l[k] : Nat)) := by simp [icells, hk]
/-- ref.With -/
theorem with_run {wr : Bool} {sv : Value} {l : List Nat} {O : Option Nat} (h : Row 3 wr H sv (icells l) O) (hl : l.length < 1000000) {i : Nat} (hi : i < 1000000) : CallR cx 13 #[sv, i64 i] H (fun v H' => Fresh H H' ∧ ∃ O', Row 3 true H' v (icells (withL l i)) O' ∧ ∀ x, O' = some x → H.next ≤ x) := by
  obtain ⟨ra, rfl, _⟩ := h.isSlice
  simp only [List.length_map] at h ⊢
  obtain ⟨t, ht⟩ : ∃ t, t = ltN i l := ⟨_, rfl⟩
  have htl : t ≤ l.length := by rw [ht]; exact ltN_le i l
  refine wk13 (by simp) ?_
  unfold c13
  refine aw_cut (fun s => s.env 0 = .slice ra l.length l.length ∧ s.env 1 = i64 i ∧ s.ds = [] ∧ s.H = H) (by simp) ?_
  rintro ⟨env, H', ds⟩ ⟨e0, e1, eds, hH⟩
  simp only at e0 e1 eds hH
  subst hH
  refine aw_cut (fun s => s.env 0 = .slice ra l.length l.length ∧ s.env 1 = i64 i ∧ s.env 5 = .slice none 0 0 ∧ s.ds = [] ∧ s.H = H') (by simp [e0, e1, eds]) ?_
  clear e0 e1 eds
  rintro ⟨env, H, ds⟩ ⟨e0, e1, e5, eds, hH⟩
  simp only at e0 e1 e5 eds hH
  subst hH
  refine aw_cut (fun s => s.env 0 = .slice ra l.length l.length ∧ s.env 1 = i64 i ∧ s.env 5 = .slice none 0 0 ∧ s.env 6 = i64 0 ∧ s.ds = [] ∧ s.H = H) (by simp [e0, e1, e5, eds]) ?_
  clear e0 e1 e5 eds
  rintro ⟨env, H1, ds⟩ ⟨e0, e1, e5, e6, eds, hH⟩
  simp only at e0 e1 e5 e6 eds hH
  subst hH
  -- one more in the row
  have app : ∀ {H2 : AH} {ov : Value} {xs : List Nat} {O' : Option Nat} (x : Nat), Row 3 true H2 ov (icells xs) O' → Fresh H1 H2 → (∀ y, O' = some y → H1.next ≤ y) → xs.length ≤ 2000000 →
      ∃ H3, aAppend Tryd.prog 34 34 ov (.slice (some ⟨H2.next, 0, none⟩) 1 1) ⟨H2.next + 1, upd H2.get H2.next (.cells [i64 (x : Nat)] 3 true 1)⟩ = some (sl (H2.next + 1) 0 (xs.length + 1), H3) ∧ Fresh H1 H3 ∧ Row 3 true H3 (sl (H2.next + 1) 0 (xs.length + 1)) (icells (xs ++ [x])) (some (H2.next + 1)) ∧ H1.next ≤ H2.next + 1 := by
    intro H2 ov xs O' x hr hf hO hx
    have hel : (icells xs).length = xs.length := by simp
    obtain ⟨H3, hap, hnx, hget, hrow3, hkp⟩ := row_append el34 hr (by rw [hel]; omega) (v := i64 (x : Nat)) rfl
    rw [hel] at hap hrow3
    rw [← icells_snoc] at hrow3
    exact ⟨H3, hap, ⟨by have := hf.1; omega, fun z hz _ => by rw [hkp z (by have := hf.1; omega) (fun e => by have := hO z e; omega), hf.get hz]⟩, hrow3, by have := hf.1; omega⟩
  refine aw_cut (fun s => s.env 0 = .slice ra l.length l.length ∧ s.env 1 = i64 i ∧ s.env 6 = i64 (t : Nat) ∧ s.ds = [] ∧ Fresh H1 s.H ∧ ∃ O', Row 3 true s.H (s.env 5) (icells (l.take t)) O' ∧ ∀ x, O' = some x → H1.next ≤ x) ?_ ?_
  · simp
    refine aw_loop_to t (fun k s => s.env 0 = .slice ra l.length l.length ∧ s.env 1 = i64 i ∧ s.env 6 = i64 (k : Nat) ∧ s.ds = [] ∧ Fresh H1 s.H ∧ ∃ O', Row 3 true s.H (s.env 5) (icells (l.take k)) O' ∧ ∀ x, O' = some x → H1.next ≤ x) ?_ ?_ ?_
    · clear e0 e1 e5 e6 eds
      rintro k ⟨env, H2, ds⟩ hk ⟨e0, e1, e6, eds, hf, O', hrow, hO⟩
      simp only at e0 e1 e6 eds hf hrow
      generalize e5 : env 5 = ov at hrow
      have hw := w64 (n := (k : Int) + 1) (by omega)
      obtain ⟨hkl, hki⟩ := ltN_at i l k (by omega)
      have hklI : (k : Int) < l.length := by omega
      have htk : l.take (k + 1) = l.take k ++ [l[k]] := by rw [List.take_add_one, List.getElem?_eq_getElem hkl]; rfl
      obtain ⟨la, oa, ca, hra, g1, g2, _⟩ := (h.keep hf (fun _ _ => id)).cell (ic_cell hkl)
      have hix := ix34 la oa l.length l.length .i64 (k : Int) (by omega) hklI
      rw [Int.toNat_natCast] at hix
      generalize l[k] = x at hki htk g2
      have hkiI : (x : Int) < i := by omega
      obtain ⟨H3, a1, a2, a3, a4⟩ := app x hrow hf hO (by simp; omega)
      have hlk : (l.take k).length = k := by simp; omega
      rw [hlk] at a1 a3
      rw [← htk] at a3
      simp [e0, e1, e5, e6, hkl, hklI, hra, hix, g1, g2, hki, hkiI, a1, hw, eds]
      exact ⟨a2, _, by simpa [icells] using a3, fun y e => by cases e; exact a4⟩
    · clear e0 e1 e5 e6 eds
      rintro ⟨env, H2, ds⟩ ⟨e0, e1, e6, eds, hf, O', hrow, hO⟩
      simp only at e0 e1 e6 eds hf hrow
      by_cases hkl : t < l.length
      · have hend := ltN_end i l (by omega)
        have hklI : (t : Int) < l.length := by omega
        have hc := ic_cell hkl
        simp only [← ht] at hend
        obtain ⟨la, oa, ca, hra, g1, g2, _⟩ := (h.keep hf (fun _ _ => id)).cell hc
        have hix := ix34 la oa l.length l.length .i64 (t : Int) (by omega) hklI
        rw [Int.toNat_natCast] at hix
        generalize l[t] = x at hend g2
        have hendI : ¬ (x : Int) < i := by omega
        have hle : i ≤ x := by omega
        simp [e0, e1, e6, hkl, hklI, hra, hix, g1, g2, hend, hendI, hle, eds]
        exact ⟨hf, O', by simpa [icells] using hrow, hO⟩
      · have hklI : ¬ (t : Int) < l.length := by omega
        have hle : l.length ≤ t := by omega
        simp [e0, e1, e6, hkl, hklI, hle, eds]
        exact ⟨hf, O', by simpa [icells] using hrow, hO⟩
    · simp [e0, e1, e5, e6, eds, Fresh.refl]
      exact ⟨none, Row.nil, by simp⟩
  clear e0 e1 e5 e6 eds
  rintro ⟨env, H2, ds⟩ ⟨e0, e1, e6, eds, hf2, O2, hrow2, hO2⟩
  simp only at e0 e1 e6 eds hf2 hrow2
  generalize e5 : env 5 = ov at hrow2
  have hlt : (l.take t).length = t := by simp; omega
  refine aw_cut (fun s => s.env 0 = .slice ra l.length l.length ∧ s.env 1 = i64 i ∧ s.env 6 = i64 (t : Nat) ∧ s.ds = [] ∧ Fresh H1 s.H ∧ ∃ O', Row 3 true s.H (s.env 5) (icells (l.take t ++ [i])) O' ∧ ∀ x, O' = some x → H1.next ≤ x) ?_ ?_
  · obtain ⟨H3, a1, a2, a3, a4⟩ := app i hrow2 hf2 hO2 (by omega)
    rw [hlt] at a1 a3
    simp [e0, e1, e5, e6, a1, eds]
    exact ⟨a2, _, by simpa [icells] using a3, fun y e => by cases e; exact a4⟩
  clear e0 e1 e5 e6 eds hf2 hrow2 hO2
  rintro ⟨env, H3, ds⟩ ⟨e0, e1, e6, eds, hf3, O3, hrow3, hO3⟩
  simp only at e0 e1 e6 eds hf3 hrow3
  refine aw_cut (fun s => s.ds = [] ∧ Fresh H1 s.H ∧ ∃ O', Row 3 true s.H (s.env 5) (icells (withL l i)) O' ∧ ∀ x, O' = some x → H1.next ≤ x) ?_ ?_
  · simp
    refine aw_loop_to (l.length - t) (fun m s => s.env 0 = .slice ra l.length l.length ∧ s.env 1 = i64 i ∧ s.env 6 = i64 ((t + m : Nat) : Int) ∧ s.ds = [] ∧ Fresh H1 s.H ∧ ∃ O', Row 3 true s.H (s.env 5) (icells (l.take t ++ i :: ((l.drop t).take m).filter (fun x => decide (x ≠ i)))) O' ∧ ∀ x, O' = some x → H1.next ≤ x) ?_ ?_ ?_
    · clear e0 e1 e6 eds
      rintro m ⟨env, H2, ds⟩ hm ⟨e0, e1, e6, eds, hf, O', hrow, hO⟩
      simp only at e0 e1 e6 eds hf hrow
      generalize e5 : env 5 = ov at hrow
      obtain ⟨k, hk⟩ : ∃ k, k = t + m := ⟨_, rfl⟩
      have hkl : k < l.length := by omega
      rw [← hk] at e6
      have hw : IntKind.i64.wrap ((k : Int) + 1) = ((t + (m + 1) : Nat) : Int) := by rw [w64 (by omega)]; omega
      have hklI : (k : Int) < l.length := by omega
      have htk : (l.drop t).take (m + 1) = (l.drop t).take m ++ [l[k]] := by
        rw [List.take_add_one, List.getElem?_drop, ← hk, List.getElem?_eq_getElem hkl]; rfl
      obtain ⟨la, oa, ca, hra, g1, g2, _⟩ := (h.keep hf (fun _ _ => id)).cell (ic_cell hkl)
      have hix := ix34 la oa l.length l.length .i64 (k : Int) (by omega) hklI
      rw [Int.toNat_natCast] at hix
      generalize l[k] = x at htk g2
      have hlen : (l.take t ++ i :: ((l.drop t).take m).filter (fun x => decide (x ≠ i))).length ≤ 2000000 := by
        have := List.length_filter_le (fun x => decide (x ≠ i)) ((l.drop t).take m)
        simp at this ⊢
        omega
      rw [htk, List.filter_append]
      by_cases hxi : x = i
      · subst hxi
        simp [e0, e1, e5, e6, hkl, hklI, hra, hix, g1, g2, hw, eds, -Int.natCast_add]
        exact ⟨hf, O', by simpa using hrow, hO⟩
      · have hxI : ¬ (x : Int) = i := by omega
        obtain ⟨H3, a1, a2, a3, a4⟩ := app x hrow hf hO hlen
        have he : l.take t ++ i :: (((l.drop t).take m).filter (fun x => decide (x ≠ i)) ++ [x].filter (fun x => decide (x ≠ i))) = (l.take t ++ i :: ((l.drop t).take m).filter (fun x => decide (x ≠ i))) ++ [x] := by simp [hxi]
        rw [he]
        generalize l.take t ++ i :: ((l.drop t).take m).filter (fun x => decide (x ≠ i)) = ys at a1 a3
        simp [e0, e1, e5, e6, hkl, hklI, hra, hix, g1, g2, hxi, hxI, a1, hw, eds, -Int.natCast_add, -List.map_append]
        exact ⟨a2, _, a3, fun y e => by cases e; exact a4⟩
    · clear e0 e1 e6 eds
      rintro ⟨env, H2, ds⟩ ⟨e0, e1, e6, eds, hf, O', hrow, hO⟩
      simp only at e0 e1 e6 eds hf hrow
      rw [show t + (l.length - t) = l.length by omega] at e6
      rw [List.take_of_length_le (l := l.drop t) (by simp)] at hrow
      simp [e0, e6, eds]
      refine ⟨hf, O', ?_, hO⟩
      rw [withL, ← ht]
      exact hrow
    · simp [e0, e1, e6, eds]
      exact ⟨hf3, O3, by simpa [icells] using hrow3, hO3⟩
  clear e0 e1 e6 eds
  rintro ⟨env, H4, ds⟩ ⟨eds, hf4, O4, hrow4, hO4⟩
  simp only at eds hf4 hrow4
  simp [eds, hf4]
  exact ⟨O4, hrow4, hO4⟩
end Go.Proofs.YtdmidlgnfepfjaaDoor.C

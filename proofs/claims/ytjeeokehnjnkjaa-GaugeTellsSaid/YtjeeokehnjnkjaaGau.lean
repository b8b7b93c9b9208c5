/- A gauge over the small heap: New, Note, Len, back, All. Own text of this session. -/
import Derived.Test.YtjeeokehnjnkjaaSet
set_option linter.unusedVariables false
set_option linter.unusedSimpArgs false
set_option maxRecDepth 4000
set_option maxHeartbeats 4000000
namespace Go.Proofs.Ytjeeokehnjnkjaa.C
open Go Go.RowKit Go.Proofs.YtjeeokehnjnkjaaA
variable {H : AH}
/-- what stands at a place of a ring, the newest one first -/
def ringR (w : Nat) : List Bool → Nat → Bool
  | [], _ => false
  | b :: r, j => if r.length % w = j then b else ringR w r j
def ring (w : Nat) (bs : List Bool) (j : Nat) : Bool := ringR w bs.reverse j
theorem ring_snoc (w : Nat) (bs : List Bool) (b : Bool) (j : Nat) : ring w (bs ++ [b]) j = if j = bs.length % w then b else ring w bs j := by
  simp only [ring, List.reverse_append, List.reverse_cons, List.reverse_nil, List.nil_append, List.singleton_append, ringR, List.length_reverse]
  by_cases h : bs.length % w = j
  · rw [if_pos h, if_pos h.symm]
  · rw [if_neg h, if_neg (fun e => h e.symm)]
theorem ringR_at {w : Nat} (hw : 0 < w) : ∀ (r : List Bool) (t : Nat), t < r.length → r.length ≤ t + w → ringR w r (t % w) = r.reverse.getD t false
  | [], t, h, _ => by simp at h
  | b :: r, t, h, h2 => by
    rw [List.reverse_cons]
    simp only [List.length_cons] at h h2
    by_cases e : t = r.length
    · subst e
      simp [ringR]
    · have h3 : ¬ r.length % w = t % w := by
        intro h4
        have a1 := Nat.div_add_mod r.length w
        have a2 := Nat.div_add_mod t w
        have a3 : w * (r.length / w) = w * (t / w) + (r.length - t) := by omega
        have a4 : r.length / w > t / w := by
          rcases Nat.lt_or_ge (t / w) (r.length / w) with h5 | h5
          · exact h5
          · have := Nat.mul_le_mul_left w h5
            omega
        have a5 : w * (t / w + 1) ≤ w * (r.length / w) := Nat.mul_le_mul_left w a4
        rw [Nat.mul_add] at a5
        omega
      rw [ringR, if_neg h3, ringR_at hw r t (by omega) (by omega)]
      simp [List.getElem?_append_left (show t < r.reverse.length by simp; omega)]
theorem ring_at {w : Nat} (hw : 0 < w) {bs : List Bool} {t : Nat} (h : t < bs.length) (h2 : bs.length ≤ t + w) : ring w bs (t % w) = bs.getD t false := by
  have := ringR_at hw bs.reverse t (by simpa using h) (by simpa using h2)
  simpa [ring] using this
/-- where back looks -/
theorem back_at {w n i : Nat} (hw : 0 < w) (hi : i < n) (hiw : i < w) : (n % w + 2 * w - 1 - i) % w = (n - 1 - i) % w := by
  have a1 := Nat.div_add_mod n w
  have h1 : (n % w + 2 * w - 1 - i) + w * (n / w) = (n - 1 - i) + w * 2 := by omega
  have h2 := congrArg (· % w) h1
  simpa [Nat.add_mul_mod_self_left] using h2
/-- a gauge that was told of these askings -/
structure IsG (H : AH) (g S W w : Nat) (bs : List Bool) : Prop where
  hg : H.get g = some (.cells [i64 w, ptr S, i64 ((bs.length % w : Nat) : Int), u64 ((bs.length : Nat) : Int)] 47 true 0)
  set : ∃ ws, IsSet H S W w ws ∧ ∀ j, bitAt ws j = ring w bs j
  pos : 0 < w
  lg : g < H.next
  n1 : g ≠ S
  n2 : g ≠ W
  few : bs.length < 1000000
def Ft (g S W : Nat) (l : Nat) : Prop := l = g ∨ l = S ∨ l = W
theorem IsG.keep {H H' : AH} {g S W w : Nat} {bs : List Bool} {F : Nat → Prop} (h : IsG H g S W w bs) (hk : Keep F H H') (hF : ∀ l, Ft g S W l → ¬ F l) : IsG H' g S W w bs := by
  obtain ⟨ws, h1, h2⟩ := h.set
  exact ⟨by rw [hk.get h.lg (hF g (.inl rfl))]; exact h.hg, ⟨ws, h1.keep hk (hF S (.inr (.inl rfl))) (hF W (.inr (.inr rfl))), h2⟩, h.pos, Nat.lt_of_lt_of_le h.lg hk.1, h.n1, h.n2, h.few⟩
theorem IsG.fresh {H H' : AH} {g S W w : Nat} {bs : List Bool} (h : IsG H g S W w bs) (hk : Fresh H H') : IsG H' g S W w bs := h.keep hk (fun _ _ h => h)
theorem IsG.low {g S W w : Nat} {bs : List Bool} (h : IsG H g S W w bs) : ∀ l, Ft g S W l → l < H.next := by
  obtain ⟨ws, h1, h2⟩ := h.set
  rintro l (rfl | rfl | rfl)
  · exact h.lg
  · exact h1.lS
  · exact h1.lW
theorem IsG.wide {g S W w : Nat} {bs : List Bool} (h : IsG H g S W w bs) : w ≤ 65536 := by obtain ⟨ws, h1, _⟩ := h.set; exact h1.wide
theorem remN (a w : Nat) (hw : 0 < w) (ox oy : Operand) : aBin Try.prog .rem 3 ox oy (i64 (a : Int)) (i64 (w : Int)) = some (i64 ((a % w : Nat) : Int)) := by
  rw [aBin_rem (P := Try.prog) 3 ox oy .i64 (a : Int) w (by omega)]
  rfl
theorem mk49 (n : Nat) (h : n ≤ 1000000) (H : AH) : aMakeSlice Try.prog 49 (.int .i64 n) (.int .i64 n) H = some (.slice (some ⟨H.next, 0, none⟩) n n, ⟨H.next + 1, upd H.get H.next (.cells (wcells (List.replicate n 0)) 32 true 1)⟩) := by
  have hi : Try.prog.info? 32 = some ((Try.prog.info? 32).getD default) := by kernel_rfl
  have hz : zeroOf Try.prog 32 = some [.int .u64 0] := by kernel_rfl
  have hs : ((Try.prog.info? 32).getD default).size = 1 := by kernel_rfl
  have hb : ((Try.prog.info? 32).getD default).bytes = 8 := by kernel_rfl
  simp only [aMakeSlice, un49, hz]
  rw [hi]
  simp only [hs, hb]
  rw [if_pos ⟨by omega, Int.le_refl _, by omega, by omega⟩]
  have : rowZeros [Value.int .u64 0] ((n : Int).toNat * 1) = wcells (List.replicate n 0) := by
    refine List.ext_getElem (by simp [rowZeros, wcells]) ?_
    intro i h1 h2
    simp [rowZeros, Nat.mod_one, wcells]
  rw [this]
  simp
  rfl
theorem upd_twice (f : Nat → Option ABlk) (a : Nat) (x y : ABlk) : upd (upd f a x) a y = upd f a y := by
  funext l
  by_cases h : l = a <;> simp [h]
/-- marks.New -/
theorem mnew_run {w : Nat} (hw : w ≤ 65536) : CallR cx 21 #[i64 w] H (fun v H' => v = .tuple #[ptr (H.next + 1), i64 0] ∧ Fresh H H' ∧ H'.next = H.next + 2 ∧ IsSet H' (H.next + 1) H.next w (List.replicate ((w + 63) / 64) 0)) := by
  refine wk21 (by simp) ?_
  have h0 : ¬ (w : Int) < 0 := by omega
  have h1 : ¬ 65536 < (w : Int) := by omega
  obtain ⟨x, hx⟩ : ∃ x, x = w + 63 := ⟨_, rfl⟩
  have hw1 : IntKind.i64.wrap ((w : Int) + 63) = (x : Int) := by rw [w64 (by omega)]; omega
  have hq : ∀ ox oy, aBin Try.prog .quo 3 ox oy (i64 (x : Int)) (i64 64) = some (i64 ((x / 64 : Nat) : Int)) := fun ox oy => by
    rw [aBin_quo (P := Try.prog) 3 ox oy .i64 (x : Int) 64 (by decide)]
    have : Int.tdiv (x : Int) 64 = ((x / 64 : Nat) : Int) := rfl
    rw [this, w64 (by omega)]
  have hn : x / 64 = (w + 63) / 64 := by rw [hx]
  obtain ⟨y, hy⟩ : ∃ y, y = x / 64 := ⟨_, rfl⟩
  rw [← hy] at hq hn
  have hmk := mk49 y (by omega) H
  simp [c21, h0, h1, hw1, hq, hmk, AH.new, -List.map_replicate, -List.reduceReplicate]
  refine ⟨⟨by simp; omega, fun l hl _ => by simp [show ¬ l = H.next + 1 by omega, show ¬ l = H.next by omega]⟩, ?_⟩
  rw [← hn]
  refine ⟨by simp, by simp [wcells], by simp [hn], fun z hz => ?_, hw, by simp, by simp; omega, by omega⟩
  rw [List.eq_of_mem_replicate hz]; decide
theorem bitAt_zero (n j : Nat) : bitAt (List.replicate n 0) j = false := by
  unfold bitAt
  have : (List.replicate n 0).getD (j / 64) 0 = 0 := by
    rw [List.getD_eq_getElem?_getD, List.getElem?_replicate]
    split <;> rfl
  rw [this]
  simp
/-- gauge.New -/
theorem gnew_run {w : Nat} (h0 : 0 < w) (hw : w ≤ 65536) : CallR cx 6 #[i64 w] H (fun v H' => v = .tuple #[ptr (H.next + 2), i64 0] ∧ Fresh H H' ∧ IsG H' (H.next + 2) (H.next + 1) H.next w []) := by
  refine wk6 (by simp) ?_
  have h1 : ¬ (w : Int) < 1 := by omega
  have h1' : ¬ w = 0 := by omega
  simp [c6, h1, h1']
  refine callV_R cb21 (mnew_run hw) ?_
  rintro _ H1 ⟨rfl, f1, hn, hs⟩
  simp [AH.new, hn]
  refine ⟨⟨by simp; omega, fun l hl _ => by simp [show ¬ l = H.next + 2 by omega]; exact f1.get hl⟩, ?_⟩
  have hf : Fresh H1 ⟨H.next + 2 + 1, upd H1.get (H.next + 2) (.cells [i64 w, ptr (H.next + 1), i64 0, .int .u64 0] 47 true 0)⟩ := ⟨by simp; omega, fun l hl _ => by simp [show ¬ l = H.next + 2 by omega]⟩
  refine ⟨by simp, ⟨_, hs.fresh hf, fun j => by rw [bitAt_zero]; rfl⟩, h0, by simp, by omega, by omega, by simp⟩
theorem gnew_bad {n : Int} (h : ¬ (1 ≤ n ∧ n ≤ 65536)) : CallR cx 6 #[i64 n] H (fun v H' => v = .tuple #[.pointer none, i64 1] ∧ H' = H) := by
  refine wk6 (by simp) ?_
  by_cases h1 : n < 1
  · simp [c6, h1]
  have h2 : 65536 < n := by omega
  simp [c6, h1]
  refine callV_R (f := 21) cb21 (R := fun v H' => v = .tuple #[.pointer none, i64 1] ∧ H' = H) ?_ ?_
  · refine wk21 (by simp) ?_
    have h0 : ¬ n < 0 := by omega
    simp [c21, h0, h2]
  rintro _ _ ⟨rfl, rfl⟩
  simp
/-- Note -/
theorem note_run {g S W w : Nat} {bs : List Bool} (h : IsG H g S W w bs) {b : Bool} (hfew : bs.length + 1 < 1000000) : CallR cx 12 #[ptr g, .bool b] H (fun v H' => v = .tuple #[] ∧ Keep (fun l => l = g ∨ l = W) H H' ∧ H'.next = H.next ∧ IsG H' g S W w (bs ++ [b])) := by
  refine wk12 (by simp) ?_
  have hp := h.pos
  have hwd := h.wide
  obtain ⟨ws, hset, hbits⟩ := h.set
  have hgc := h.hg
  obtain ⟨a, ha⟩ : ∃ a, a = bs.length % w := ⟨_, rfl⟩
  have haw : a < w := by rw [ha]; exact Nat.mod_lt _ hp
  rw [← ha] at hgc
  obtain ⟨a1, ha1⟩ : ∃ x, x = a + 1 := ⟨_, rfl⟩
  have hw1 : IntKind.i64.wrap ((a : Int) + 1) = (a1 : Int) := by rw [w64 (by omega)]; omega
  have hrem := remN a1 w hp
  have hmod : a1 % w = (bs ++ [b]).length % w := by rw [ha1, ha, List.length_append, List.length_singleton, Nat.mod_add_mod]
  obtain ⟨a2, ha2⟩ : ∃ x, x = a1 % w := ⟨_, rfl⟩
  rw [← ha2] at hrem hmod
  obtain ⟨n1, hn1⟩ : ∃ x, x = bs.length + 1 := ⟨_, rfl⟩
  have hw2 : IntKind.u64.wrap ((bs.length : Int) + 1) = (n1 : Int) := by rw [show ((bs.length : Int) + 1) = ((n1 : Nat) : Int) by omega, wU (by omega)]
  have hnl : (bs ++ [b]).length = n1 := by simp [hn1]
  -- what stands behind either step
  have fin : ∀ H1, Keep (fun l => l = W) H H1 → H1.next = H.next → (∃ ws', IsSet H1 S W w ws' ∧ ∀ j, bitAt ws' j = if j = a then b else bitAt ws j) →
      H1.get g = some (.cells [i64 w, ptr S, i64 (a : Int), u64 (bs.length : Int)] 47 true 0) ∧
      (Keep (fun l => l = g ∨ l = W) H ⟨H1.next, upd H1.get g (.cells [i64 w, ptr S, i64 (a2 : Int), u64 (n1 : Int)] 47 true 0)⟩ ∧ IsG ⟨H1.next, upd H1.get g (.cells [i64 w, ptr S, i64 (a2 : Int), u64 (n1 : Int)] 47 true 0)⟩ g S W w (bs ++ [b])) := by
    rintro H1 hk hn ⟨ws', hs', hb'⟩
    refine ⟨by rw [hk.get h.lg h.n2, hgc], ⟨Nat.le_of_eq hn.symm, fun l hl hne => ?_⟩, ?_⟩
    · have h1 : ¬ l = g := fun e => hne (.inl e)
      have h2 : ¬ l = W := fun e => hne (.inr e)
      simp [h1]
      exact hk.get hl h2
    · refine ⟨?_, ⟨ws', hs'.keep (F := fun l => l = g) ⟨Nat.le_refl _, fun l _ hne => by simp at hne; simp [hne]⟩ (fun e => h.n1 e.symm) (fun e => h.n2 e.symm), fun j => ?_⟩, hp, by have := h.lg; simp only; omega, h.n1, h.n2, by rw [hnl]; omega⟩
      · rw [hnl] at hmod ⊢
        rw [← hmod]
        simp
      · rw [hb', ring_snoc, ← ha, hbits]
  cases b with
  | true =>
    simp [c12, hgc]
    refine callV_R cb24 (put_run hset haw) ?_
    rintro _ H1 ⟨rfl, hk, hn, hex⟩
    obtain ⟨f1, f2, f3⟩ := fin H1 hk hn hex
    simp [f1, hw1, hrem, hw2, upd_twice]
    exact ⟨f2, hn, f3⟩
  | false =>
    simp [c12, hgc]
    refine callV_R cb25 (drop_run hset haw) ?_
    rintro _ H1 ⟨rfl, hk, hn, hex⟩
    obtain ⟨f1, f2, f3⟩ := fin H1 hk hn hex
    simp [f1, hw1, hrem, hw2, upd_twice]
    exact ⟨f2, hn, f3⟩
/-- Len -/
theorem glen_run {g S W w : Nat} {bs : List Bool} (h : IsG H g S W w bs) : CallR cx 8 #[ptr g] H (fun v H' => v = i64 ((min bs.length w : Nat) : Int) ∧ H' = H) := by
  refine wk8 (by simp) ?_
  have hg := h.hg
  have hf := h.few
  have hwd := h.wide
  have hu := wU (n := w) (by omega)
  have hl := w64 (n := (bs.length : Int)) (by omega)
  generalize ((bs.length % w : Nat) : Int) = a at hg
  by_cases h1 : bs.length < w
  · have e : min bs.length w = bs.length := by omega
    rw [e]
    simp [c8, hg, hu, h1, hl]
  · have e : min bs.length w = w := by omega
    rw [e]
    simp [c8, hg, hu, h1, hl]
/-- back -/
theorem back_run {g S W w : Nat} {bs : List Bool} (h : IsG H g S W w bs) {i : Nat} (hi : i < bs.length) (hiw : i < w) : CallR cx 27 #[ptr g, i64 i] H (fun v H' => v = .bool (bs.getD (bs.length - 1 - i) false) ∧ H' = H) := by
  refine wk27 (by simp) ?_
  have hg := h.hg
  have hp := h.pos
  have hwd := h.wide
  have hf := h.few
  obtain ⟨ws, hset, hbits⟩ := h.set
  have hba := back_at hp hi hiw
  have hra := ring_at hp (bs := bs) (t := bs.length - 1 - i) (by omega) (by omega)
  have hlt : bs.length % w < w := Nat.mod_lt _ hp
  generalize bs.length % w = a at hg hba hlt
  obtain ⟨x1, hx1⟩ : ∃ x, x = 2 * w := ⟨_, rfl⟩
  obtain ⟨x2, hx2⟩ : ∃ x, x = a + x1 := ⟨_, rfl⟩
  obtain ⟨x3, hx3⟩ : ∃ x, x = x2 - 1 := ⟨_, rfl⟩
  obtain ⟨x4, hx4⟩ : ∃ x, x = x3 - i := ⟨_, rfl⟩
  have w1 : IntKind.i64.wrap (2 * (w : Int)) = (x1 : Int) := by rw [w64 (by omega)]; omega
  have w2 : IntKind.i64.wrap ((a : Int) + (x1 : Int)) = (x2 : Int) := by rw [w64 (by omega)]; omega
  have w3 : IntKind.i64.wrap ((x2 : Int) - 1) = (x3 : Int) := by rw [w64 (by omega)]; omega
  have w4 : IntKind.i64.wrap ((x3 : Int) - (i : Int)) = (x4 : Int) := by rw [w64 (by omega)]; omega
  have hrem := remN x4 w hp
  have hx : x4 = a + 2 * w - 1 - i := by omega
  rw [← hx] at hba
  have hlt4 : x4 % w < w := Nat.mod_lt _ hp
  have hres : bitAt ws (x4 % w) = bs.getD (bs.length - 1 - i) false := by rw [hbits, hba, hra]
  generalize x4 % w = x5 at hrem hlt4 hres
  simp [c27, hg, w1, w2, w3, w4, hrem]
  refine callV_R cb31 (has_run hset hlt4) ?_
  rintro _ _ ⟨rfl, rfl⟩
  rw [hres]
  simp
end Go.Proofs.Ytjeeokehnjnkjaa.C

/-
  A SMALL HEAP FOR A LARGE ONE (part 2: reading, writing, and the operations that need no call). Own text of this session.
-/
import Derived.Test.YtikkokolmipppaaA1
set_option linter.unusedVariables false
set_option linter.unusedSimpArgs false
namespace Go.Proofs.YtikkokolmipppaaA
open Go Go.RowKit

/-! ### 1. The machine's own words, run -/
theorem run_und {P : Program} {w : World} {t : TypeId} {d : TypeDesc} (h : P.underlying t = some d) : (underlying t).run P w = .ok d w := by
  simp [underlying, h]
theorem run_size {P : Program} {w : World} {t : TypeId} {i : TypeInfo} (h : P.info? t = some i) : (sizeOf t).run P w = .ok i.size w := by
  simp [sizeOf, typeInfo, h]
theorem run_info {P : Program} {w : World} {t : TypeId} {i : TypeInfo} (h : P.info? t = some i) : (typeInfo t).run P w = .ok i w := by
  simp [typeInfo, h]
theorem run_zero {P : Program} {w : World} {t : TypeId} {i : TypeInfo} {z : Value} (h : P.info? t = some i) (hz : i.zero = some z) : (zeroValue t).run P w = .ok z w := by
  simp [zeroValue, typeInfo, h, hz]
def isAggD : TypeDesc → Bool
  | .struct _ | .array _ _ => true
  | _ => false
theorem run_isAgg {P : Program} {w : World} {t : TypeId} {d : TypeDesc} (h : P.underlying t = some d) : (isAgg t).run P w = .ok (isAggD d) w := by
  cases d <;> simp [isAgg, run_und h, isAggD]

theorem cell_of_block {w : World} {b : Nat} {C : Array Value} {T : TypeId} {z : Nat × Nat} (h : w.heap[b]? = some (.cells C T z)) (o : Nat) : w.cell? ⟨b, o, none⟩ = C[o]? := by
  simp [World.cell?, h]
theorem frozen_of_block {w : World} {b : Nat} {C : Array Value} {T : TypeId} {z : Nat × Nat} (h : w.heap[b]? = some (.cells C T z)) (hz : z.2 = 0 ∨ C.size ≤ z.1) (o : Nat) (ho : o < C.size) : w.frozen? ⟨b, o, none⟩ = false := by
  obtain ⟨lo, hi⟩ := z
  simp only [World.frozen?, h]
  simp only at hz
  rcases hz with h | h
  · simp [h]
  · have : ¬ lo ≤ o := by omega
    simp [this]
theorem setCell_block {w : World} {b : Nat} {C : Array Value} {T : TypeId} {z : Nat × Nat} (h : w.heap[b]? = some (.cells C T z)) (o : Nat) (v : Value) :
    (w.setCell ⟨b, o, none⟩ v).heap[b]? = some (.cells (C.setIfInBounds o v) T z) := by
  simp only [World.setCell, Array.getElem?_modify, if_pos, h, Option.map_some]
  simp
theorem setCell_other {w : World} {b : Nat} (o : Nat) (v : Value) (k : Nat) (h : k ≠ b) : (w.setCell ⟨b, o, none⟩ v).heap[k]? = w.heap[k]? := by
  simp only [World.setCell, Array.getElem?_modify]
  rw [if_neg (by omega)]

/-- the machine's cells from an address on -/
def CellsAt (w : World) (b o : Nat) (vs : List Value) : Prop := ∀ i v, vs[i]? = some v → w.cell? ⟨b, o + i, none⟩ = some v
theorem run_loadCellsFrom {P : Program} {w : World} (b o : Nat) : ∀ (n i : Nat) (vs : List Value) (acc : Array Value), vs.length = n → (∀ j v, vs[j]? = some v → w.cell? ⟨b, o + (i + j), none⟩ = some v) →
    (loadCellsFrom ⟨b, o, none⟩ i n acc).run P w = .ok (acc ++ vs.toArray) w := by
  intro n
  induction n with
  | zero =>
    intro i vs acc hl hc
    obtain rfl : vs = [] := List.eq_nil_of_length_eq_zero hl
    simp [loadCellsFrom]
  | succ n ih =>
    intro i vs acc hl hc
    cases vs with
    | nil => simp at hl
    | cons v vs =>
      have h0 := hc 0 v rfl
      simp only [Nat.add_zero] at h0
      simp only [loadCellsFrom, Sem.run_bind, Addr.add_lit, run_load, h0, Result.andThen_ok]
      rw [ih (i + 1) vs (acc.push v) (by simpa using hl) (fun j u hj => by
        have := hc (j + 1) u (by simpa using hj)
        rw [show i + 1 + j = i + (j + 1) by omega]
        exact this)]
      simp
theorem run_loadCells {P : Program} {w : World} {b o : Nat} {vs : List Value} (h : CellsAt w b o vs) : (loadCells ⟨b, o, none⟩ vs.length).run P w = .ok vs.toArray w := by
  unfold loadCells
  rw [run_loadCellsFrom b o vs.length 0 vs #[] rfl (fun j v hj => by rw [Nat.zero_add]; exact h j v hj)]
  simp

/-! ### 2. Reading the small heap -/
def AH.rd (H : AH) (l o : Nat) : Option Value :=
  match H.get l with
  | some (.cells cs _ _ _) => cs[o]?
  | _ => none
def AH.row (H : AH) (l o n : Nat) : Option (List Value) :=
  match H.get l with
  | some (.cells cs _ _ _) => if o + n ≤ cs.length then some ((cs.drop o).take n) else none
  | _ => none
theorem rd_inv {H : AH} {l o : Nat} {v : Value} (h : H.rd l o = some v) : ∃ cs T own z, H.get l = some (.cells cs T own z) ∧ cs[o]? = some v := by
  unfold AH.rd at h
  split at h
  · rename_i cs T own z e; exact ⟨cs, T, own, z, e, h⟩
  · cases h
theorem row_inv {H : AH} {l o n : Nat} {vs : List Value} (h : H.row l o n = some vs) : ∃ cs T own z, H.get l = some (.cells cs T own z) ∧ o + n ≤ cs.length ∧ vs = (cs.drop o).take n := by
  unfold AH.row at h
  split at h
  · rename_i cs T own z e
    by_cases hl : o + n ≤ cs.length
    · rw [if_pos hl] at h
      cases h
      exact ⟨cs, T, own, z, e, hl, rfl⟩
    · rw [if_neg hl] at h; cases h
  · cases h
theorem rd_sim {ρ : LMap} {B : Nat} {H : AH} {w : World} (hE : Emb ρ B H w) {l o : Nat} {v : Value} (h : H.rd l o = some v) {p : Place} (hp : ρ l = some p) :
    ∃ v', w.cell? ⟨p.blk, p.base + o, none⟩ = some v' ∧ VR ρ v v' := by
  obtain ⟨cs, T, own, z, e, hv⟩ := rd_inv h
  obtain ⟨q, hq, hk⟩ := hE.blk l _ e
  rw [hp] at hq
  cases hq
  obtain ⟨C, T', z', h1, h2, h3, h4, h5, h6⟩ := hk
  obtain ⟨v', hv', hr⟩ := h5 o v hv
  exact ⟨v', by rw [cell_of_block h1]; exact hv', hr⟩
/-- lists of values, place by place -/
def VRL (ρ : LMap) (vs vs' : List Value) : Prop := vs.length = vs'.length ∧ ∀ (i : Nat) (v : Value), vs[i]? = some v → ∃ v', vs'[i]? = some v' ∧ VR ρ v v'
theorem VRL.mono {ρ ρ' : LMap} (hle : ρ.le ρ') {v v' : List Value} (h : VRL ρ v v') : VRL ρ' v v' := ⟨h.1, fun i v hi => let ⟨v', a, b⟩ := h.2 i v hi; ⟨v', a, b.mono hle⟩⟩
theorem VRL.vra {ρ : LMap} {vs vs' : List Value} (h : VRL ρ vs vs') : VRA ρ vs.toArray vs'.toArray := by
  refine ⟨by simp [h.1], fun i hi => ?_⟩
  have hi1 : i < vs.length := by simpa using hi
  obtain ⟨v', hv', hr⟩ := h.2 i vs[i] (List.getElem?_eq_getElem hi1)
  have hi2 : i < vs'.length := by rw [← h.1]; exact hi1
  rw [List.getElem?_eq_getElem hi2] at hv'
  simp only [Array.getD, List.size_toArray, hi1, hi2, dif_pos, List.getElem_toArray]
  cases hv'
  exact hr
theorem VRA.vrl {ρ : LMap} {cs cs' : Array Value} (h : VRA ρ cs cs') : VRL ρ cs.toList cs'.toList := by
  refine ⟨by simpa using h.1, fun i v hv => ?_⟩
  have hi : i < cs.size := by
    have := (List.getElem?_eq_some_iff.1 hv).1
    simpa using this
  have hi' : i < cs'.size := by rw [← h.1]; exact hi
  have hr := h.2 i hi
  simp only [Array.getD, hi, hi', dif_pos] at hr
  refine ⟨cs'[i], by simp [hi'], ?_⟩
  have : v = cs[i] := by
    have := hv
    rw [Array.getElem?_toList, Array.getElem?_eq_getElem hi] at this
    cases this; rfl
  rw [this]
  exact hr
theorem VRL.nil (ρ : LMap) : VRL ρ [] [] := ⟨rfl, fun i v h => by simp at h⟩
theorem VRL.append {ρ : LMap} {a a' b b' : List Value} (h : VRL ρ a a') (k : VRL ρ b b') : VRL ρ (a ++ b) (a' ++ b') := by
  refine ⟨by simp [h.1, k.1], fun i v hv => ?_⟩
  rw [List.getElem?_append] at hv
  rw [List.getElem?_append, ← h.1]
  split at hv
  · rename_i hi
    rw [if_pos hi]
    exact h.2 i v hv
  · rename_i hi
    rw [if_neg hi]
    exact k.2 _ v hv
theorem VRL.cons {ρ : LMap} {v v' : Value} {b b' : List Value} (h : VR ρ v v') (k : VRL ρ b b') : VRL ρ (v :: b) (v' :: b') := by
  refine ⟨by simp [k.1], fun i u hu => ?_⟩
  cases i with
  | zero => simp at hu; subst hu; exact ⟨v', rfl, h⟩
  | succ i => simp at hu; obtain ⟨u', hu', hr⟩ := k.2 i u hu; exact ⟨u', by simpa using hu', hr⟩
theorem VRL.const (ρ : LMap) {vs : List Value} (h : vs.all constOk = true) : VRL ρ vs vs :=
  ⟨rfl, fun i v hv => ⟨v, hv, VR.const ρ (List.all_eq_true.1 h v (List.mem_of_getElem? hv))⟩⟩

theorem row_sim {ρ : LMap} {B : Nat} {H : AH} {w : World} (hE : Emb ρ B H w) {l o n : Nat} {vs : List Value} (h : H.row l o n = some vs) {p : Place} (hp : ρ l = some p) :
    ∃ vs', CellsAt w p.blk (p.base + o) vs' ∧ VRL ρ vs vs' ∧ vs'.length = n := by
  obtain ⟨cs, T, own, z, e, hl, rfl⟩ := row_inv h
  obtain ⟨q, hq, hk⟩ := hE.blk l _ e
  rw [hp] at hq
  cases hq
  obtain ⟨C, T', z', h1, h2, h3, h4, h5, h6⟩ := hk
  refine ⟨((C.toList.drop (p.base + o)).take n), ?_, ?_, ?_⟩
  · intro i v hv
    rw [List.getElem?_take] at hv
    split at hv
    · rw [List.getElem?_drop, Array.getElem?_toList] at hv
      rw [cell_of_block h1]
      exact hv
    · cases hv
  · refine ⟨by simp; omega, fun i v hv => ?_⟩
    rw [List.getElem?_take] at hv ⊢
    split at hv
    · rename_i hi
      rw [if_pos hi]
      rw [List.getElem?_drop] at hv ⊢
      obtain ⟨v', hv', hr⟩ := h5 _ v hv
      exact ⟨v', by rw [Array.getElem?_toList, Nat.add_assoc]; exact hv', hr⟩
    · cases hv
  · simp
    omega

/-! ### 3. Writing the small heap -/
def isCell : Value → Bool
  | .agg _ | .tuple _ => false
  | _ => true
theorem VR.isCell {ρ : LMap} {v v' : Value} (h : VR ρ v v') : YtikkokolmipppaaA.isCell v' = YtikkokolmipppaaA.isCell v := by cases h <;> rfl
def setAll : List Value → Nat → List Value → List Value
  | cs, _, [] => cs
  | cs, o, v :: vs => setAll (cs.set o v) (o + 1) vs
theorem setAll_length (vs : List Value) : ∀ (cs : List Value) (o : Nat), (setAll cs o vs).length = cs.length := by
  induction vs with
  | nil => intro cs o; rfl
  | cons v vs ih => intro cs o; simp [setAll, ih]
def AH.wrs (H : AH) (l o : Nat) (vs : List Value) : Option AH :=
  match H.get l with
  | some (.cells cs T own z) => if own = true ∧ o + vs.length ≤ cs.length ∧ vs.all isCell = true then some ⟨H.next, upd H.get l (.cells (setAll cs o vs) T own z)⟩ else none
  | _ => none

theorem store_sim {ρ : LMap} {B : Nat} {H : AH} {w : World} (hE : Emb ρ B H w) {l o : Nat} {cs : List Value} {T : TypeId} {z : Nat} (hl : H.get l = some (.cells cs T true z)) (ho : o < cs.length)
    {p : Place} (hp : ρ l = some p) {v v' : Value} (hv : VR ρ v v') (hc : isCell v = true) (P : Program) :
    (store ⟨p.blk, p.base + o, none⟩ v').run P w = .ok () (w.setCell ⟨p.blk, p.base + o, none⟩ v') ∧ Emb ρ B ⟨H.next, upd H.get l (.cells (cs.set o v) T true z)⟩ (w.setCell ⟨p.blk, p.base + o, none⟩ v') ∧
      Below B w (w.setCell ⟨p.blk, p.base + o, none⟩ v') := by
  obtain ⟨q, hq, hk⟩ := hE.blk l _ hl
  rw [hp] at hq
  cases hq
  obtain ⟨C, T', z', h1, h2, h3, h4, h5, h6⟩ := hk
  obtain ⟨hB, hz⟩ := h6 rfl
  have hlt : p.base + o < C.size := by omega
  have hone : v'.oneCell' = true := by
    have := hv.isCell
    cases v' <;> simp_all [isCell, Value.oneCell']
  refine ⟨?_, ?_, (Below.refl _ _).setCell hB _⟩
  · rw [run_store P w _ _ _ hone]
    simp only [stored, cell_of_block h1, Array.getElem?_eq_getElem hlt, frozen_of_block h1 hz _ hlt]
    rfl
  · refine hE.turn (b := .cells cs T true z) (b' := .cells (cs.set o v) T true z) hl hp rfl rfl ?_ (by simp) (fun k hk => setCell_other _ _ _ hk)
    refine ⟨C.setIfInBounds (p.base + o) v', T', z', setCell_block h1 _ _, by simpa using h2, by simpa using h3, h4, ?_, fun _ => ⟨hB, by simpa using hz⟩⟩
    intro i u hu
    by_cases e : i = o
    · subst e
      rw [List.getElem?_set_self (by omega)] at hu
      cases hu
      refine ⟨v', ?_, hv⟩
      rw [Array.getElem?_setIfInBounds, if_pos rfl, if_pos hlt]
    · rw [List.getElem?_set_ne (fun x => e x.symm)] at hu
      obtain ⟨u', hu', hr⟩ := h5 i u hu
      refine ⟨u', ?_, hr⟩
      rw [Array.getElem?_setIfInBounds, if_neg (by omega)]
      exact hu'

theorem storeCells_sim {ρ : LMap} {B : Nat} (P : Program) {p : Place} {l : Nat} (hp : ρ l = some p) (o : Nat) : ∀ (vs vs' : List Value) (i : Nat) (H : AH) (w : World) (cs : List Value) (T : TypeId) (z : Nat), Emb ρ B H w →
    H.get l = some (.cells cs T true z) → o + i + vs.length ≤ cs.length → VRL ρ vs vs' → vs.all isCell = true →
    ∃ w', (storeCells ⟨p.blk, p.base + o, none⟩ vs' i).run P w = .ok () w' ∧ Emb ρ B ⟨H.next, upd H.get l (.cells (setAll cs (o + i) vs) T true z)⟩ w' ∧ Below B w w' := by
  intro vs
  induction vs with
  | nil =>
    intro vs' i H w cs T z hE hl hb hv hc
    obtain rfl : vs' = [] := List.eq_nil_of_length_eq_zero hv.1.symm
    refine ⟨w, by simp [storeCells], ?_, Below.refl _ _⟩
    have : upd H.get l (.cells (setAll cs (o + i) []) T true z) = H.get := by
      funext x
      by_cases e : x = l
      · subst e; rw [upd_same, hl]; rfl
      · rw [upd_ne _ _ _ _ e]
    rw [this]
    exact hE
  | cons v vs ih =>
    intro vs' i H w cs T z hE hl hb hv hc
    cases vs' with
    | nil => have := hv.1; simp at this
    | cons v' vs' =>
      obtain ⟨u, hu, hr⟩ := hv.2 0 v rfl
      simp at hu
      subst hu
      simp at hc hb
      obtain ⟨h1, h2, h3⟩ := store_sim hE hl (o := o + i) (by omega) hp hr (by simpa using hc.1) P
      have hv2 : VRL ρ vs vs' := ⟨by have := hv.1; simpa using this, fun j u hj => by
        obtain ⟨u', a, b⟩ := hv.2 (j + 1) u (by simpa using hj)
        exact ⟨u', by simpa using a, b⟩⟩
      obtain ⟨w', k1, k2, k3⟩ := ih vs' (i + 1) _ _ (cs.set (o + i) v) T z h2 (upd_same _ _ _) (by simp; omega) hv2 (by simpa using hc.2)
      refine ⟨w', ?_, ?_, h3.trans k3⟩
      · simp only [storeCells, Sem.run_bind, Addr.add_lit]
        rw [Nat.add_assoc, h1]
        simp only [Result.andThen_ok]
        exact k1
      · have : upd (upd H.get l (.cells (cs.set (o + i) v) T true z)) l (.cells (setAll (cs.set (o + i) v) (o + (i + 1)) vs) T true z) = upd H.get l (.cells (setAll cs (o + i) (v :: vs)) T true z) := by
          funext x
          by_cases e : x = l
          · subst e; rw [upd_same, upd_same]; rfl
          · rw [upd_ne _ _ _ _ e, upd_ne _ _ _ _ e, upd_ne _ _ _ _ e]
        rw [← this]
        exact k2
theorem wrs_sim {ρ : LMap} {B : Nat} {H H' : AH} {w : World} (P : Program) (hE : Emb ρ B H w) {l o : Nat} {vs vs' : List Value} (h : H.wrs l o vs = some H') {p : Place} (hp : ρ l = some p) (hv : VRL ρ vs vs') :
    ∃ w', (storeCells ⟨p.blk, p.base + o, none⟩ vs').run P w = .ok () w' ∧ Emb ρ B H' w' ∧ Below B w w' := by
  unfold AH.wrs at h
  split at h
  · rename_i cs T own z e
    split at h
    · rename_i hc
      obtain ⟨rfl, h2, h3⟩ := hc
      cases h
      exact storeCells_sim P hp o vs vs' 0 H w cs T z hE e (by simpa using h2) hv h3
    · cases h
  · cases h

/-- A new row of cells. -/
theorem newRow_sim {ρ : LMap} {B : Nat} {H : AH} {w : World} (hE : Emb ρ B H w) (T : TypeId) (cs cs' : List Value) (esz : Nat) (rest : List Value) (hv : VRL ρ cs cs') (P : Program) :
    (newRow T (cs' ++ rest).toArray).run P w = .ok ⟨w.heap.size, 0, none⟩ (w.alloc (.cells (cs' ++ rest).toArray T)) ∧
      Emb (ρ.put H.next ⟨w.heap.size, 0, (cs' ++ rest).length, esz⟩) B (H.new (.cells cs T true esz)) (w.alloc (.cells (cs' ++ rest).toArray T)) ∧
      ρ.le (ρ.put H.next ⟨w.heap.size, 0, (cs' ++ rest).length, esz⟩) ∧ Below B w (w.alloc (.cells (cs' ++ rest).toArray T)) := by
  have hle : ρ.le (ρ.put H.next ⟨w.heap.size, 0, (cs' ++ rest).length, esz⟩) := LMap.le_put (hE.fresh _ (Nat.le_refl _))
  refine ⟨by simp [newRow], ?_, hle, (Below.refl _ _).alloc hE.size _⟩
  refine hE.alloc _ _ _ rfl ?_
  refine ⟨(cs' ++ rest).toArray, T, (0, 0), by show (w.heap.push _)[w.heap.size]? = _; simp, by simp, by have := hv.1; simp; omega, rfl, ?_, fun _ => ⟨hE.size, .inl rfl⟩⟩
  intro i v hi
  obtain ⟨v', hv', hr⟩ := hv.2 i v hi
  refine ⟨v', ?_, hr.mono hle⟩
  have : i < cs'.length := (List.getElem?_eq_some_iff.1 hv').1
  simp [List.getElem?_append, this]
  rw [List.getElem?_eq_getElem this] at hv'
  cases hv'
  rfl

/-! ### 4. The operations -/
def sz (P : Program) (t : TypeId) : Option Nat := (P.info? t).map (·.size)
theorem sz_inv {P : Program} {t : TypeId} {n : Nat} (h : sz P t = some n) : ∃ i, P.info? t = some i ∧ i.size = n := by
  unfold sz at h
  cases hi : P.info? t with
  | none => rw [hi] at h; cases h
  | some i => rw [hi] at h; exact ⟨i, rfl, by simpa using h⟩
def aggT (P : Program) (t : TypeId) : Option Bool := (P.underlying t).map isAggD

/-- What an operation does: the machine's counterpart does it too. -/
def OpOk (P : Program) (s : Sem Value) (ρ : LMap) (B : Nat) (w : World) (v : Value) (H' : AH) : Prop :=
  ∃ v' w' ρ', s.run P w = .ok v' w' ∧ VR ρ' v v' ∧ ρ.le ρ' ∧ Emb ρ' B H' w' ∧ Below B w w'

theorem OpOk.pure {P : Program} {s : Sem Value} {ρ : LMap} {B : Nat} {H : AH} {w : World} {v v' : Value} (hE : Emb ρ B H w) (hr : s.run P w = .ok v' w) (hv : VR ρ v v') : OpOk P s ρ B w v H :=
  ⟨v', w, ρ, hr, hv, LMap.le_refl _, hE, Below.refl _ _⟩

def aLoad (P : Program) (t : TypeId) (a : Value) (H : AH) : Option Value :=
  match a with
  | .pointer (some ⟨l, o, none⟩) =>
    match aggT P t with
    | some true => (sz P t).bind fun n => (H.row l o n).map fun vs => .agg vs.toArray
    | some false => H.rd l o
    | none => none
  | _ => none
theorem VR.ptr_inv {ρ : LMap} {l o : Nat} {v' : Value} (h : VR ρ (.pointer (some ⟨l, o, none⟩)) v') : ∃ p, ρ l = some p ∧ v' = .pointer (some ⟨p.blk, p.base + o, none⟩) := by
  cases h with
  | ptr l o p h => exact ⟨p, h, rfl⟩
theorem aLoad_sim {P : Program} {t : TypeId} {a a' : Value} {H : AH} {v : Value} (h : aLoad P t a H = some v) {ρ : LMap} {B : Nat} {w : World} (ha : VR ρ a a') (hE : Emb ρ B H w) : OpOk P (Instr.loadAt t a') ρ B w v H := by
  unfold aLoad at h
  split at h
  · rename_i l o
    obtain ⟨p, hp, rfl⟩ := ha.ptr_inv
    unfold aggT at h
    cases hu : P.underlying t with
    | none => rw [hu] at h; simp at h
    | some d =>
      rw [hu] at h
      simp only [Option.map_some] at h
      cases hd : isAggD d with
      | false =>
        rw [hd] at h
        simp only at h
        obtain ⟨v', hv', hr⟩ := rd_sim hE h hp
        refine OpOk.pure hE ?_ hr
        simp [Instr.loadAt, Instr.sureAddr, loadVar, run_isAgg hu, hd, hv']
      | true =>
        rw [hd] at h
        simp only at h
        cases hs : sz P t with
        | none => rw [hs] at h; simp at h
        | some n =>
          rw [hs] at h
          simp only [Option.bind_some] at h
          cases hr : H.row l o n with
          | none => rw [hr] at h; simp at h
          | some vs =>
            rw [hr] at h
            simp only [Option.map_some] at h
            cases h
            obtain ⟨i, hi, hn⟩ := sz_inv hs
            obtain ⟨vs', hc, hvr, hlen⟩ := row_sim hE hr hp
            have ha := hvr.vra
            refine OpOk.pure hE (v' := .agg vs'.toArray) ?_ (.agg _ _ ha.1 ha.2)
            simp [Instr.loadAt, Instr.sureAddr, loadVar, run_isAgg hu, hd, run_size hi, hn]
            rw [← hlen, run_loadCells hc]
            rfl
  · cases h

def aStore (P : Program) (t : TypeId) (a v : Value) (H : AH) : Option AH :=
  match a with
  | .pointer (some ⟨l, o, none⟩) => if sz P t = some v.cells.size then H.wrs l o v.cells.toList else none
  | _ => none
theorem VR.cells {ρ : LMap} {v v' : Value} (h : VR ρ v v') : VRA ρ v.cells v'.cells := by
  have one : ∀ {v v' : Value}, VR ρ v v' → VRA ρ #[v] #[v'] := fun {v v'} h => ⟨rfl, fun i hi => by
    obtain rfl : i = 0 := by simp at hi; omega
    exact h⟩
  cases h with
  | agg cs cs' h1 h2 => exact ⟨h1, h2⟩
  | bool b => exact one (.bool b)
  | int k n => exact one (.int k n)
  | float k b => exact one (.float k b)
  | string s => exact one (.string s)
  | nilPtr => exact one .nilPtr
  | ptr l o p h => exact one (.ptr l o p h)
  | nilSlice => exact one .nilSlice
  | slice l o n c p h hc hp => exact one (.slice l o n c p h hc hp)
  | emptySlice l o a => exact one (.emptySlice l o a)
  | nilMap => exact one .nilMap
  | map l p h => exact one (.map l p h)
  | nilFunc => exact one .nilFunc
  | func f fs fs' cs cs' h1 h2 h3 h4 => exact one (.func f fs fs' cs cs' h1 h2 h3 h4)
  | yield l p h => exact one (.yield l p h)
  | nilIface => exact one .nilIface
  | iface t v v' h => exact one (.iface t v v' h)
  | tuple cs cs' h1 h2 => exact one (.tuple cs cs' h1 h2)
theorem aStore_sim {P : Program} {t : TypeId} {a a' v v' : Value} {H H' : AH} (h : aStore P t a v H = some H') {ρ : LMap} {B : Nat} {w : World} (ha : VR ρ a a') (hv : VR ρ v v') (hE : Emb ρ B H w) :
    ∃ w', (Instr.storeAt t a' v').run P w = .ok () w' ∧ Emb ρ B H' w' ∧ Below B w w' := by
  unfold aStore at h
  split at h
  · rename_i l o
    obtain ⟨p, hp, rfl⟩ := ha.ptr_inv
    split at h
    · rename_i hs
      obtain ⟨i, hi, hn⟩ := sz_inv hs
      have hc := hv.cells
      obtain ⟨w', k1, k2, k3⟩ := wrs_sim P hE h hp hc.vrl
      refine ⟨w', ?_, k2, k3⟩
      have hsz : ¬ (v'.cells.size ≠ i.size) := by rw [hn, ← hc.1]; simp
      simp [Instr.storeAt, Instr.sureAddr, storeVar, run_size hi, hsz, k1]
    · cases h
  · cases h

def aBox (t : TypeId) (v : Value) (H : AH) : Value × AH := (.pointer (some ⟨H.next, 0, none⟩), H.new (.cells v.cells.toList t true 0))
theorem newVar_sim {P : Program} {t : TypeId} {v v' : Value} {H : AH} {ρ : LMap} {B : Nat} {w : World} (hv : VR ρ v v') (hE : Emb ρ B H w) :
    OpOk P (do pure (.pointer (some (← newVar t v')))) ρ B w (aBox t v H).1 (aBox t v H).2 := by
  obtain ⟨h1, h2, h3, h4⟩ := newRow_sim hE t v.cells.toList v'.cells.toList 0 [] hv.cells.vrl P
  refine ⟨.pointer (some ⟨w.heap.size, 0, none⟩), _, _, ?_, ?_, h3, h2, h4⟩
  · have e : (v'.cells.toList ++ []).toArray = v'.cells := by simp
    rw [e] at h1 ⊢
    simp [newVar, h1]
  · have := VR.ptr (ρ := ρ.put H.next ⟨w.heap.size, 0, (v'.cells.toList ++ []).length, 0⟩) H.next 0 _ (LMap.put_same _ _ _)
    simpa [aBox] using this
theorem aBox_sim {P : Program} {t : TypeId} {v v' : Value} {H : AH} {ρ : LMap} {B : Nat} {w : World} (hv : VR ρ v v') (hE : Emb ρ B H w) : OpOk P (Instr.box t v') ρ B w (aBox t v H).1 (aBox t v H).2 := newVar_sim hv hE

def aAlloc (P : Program) (t : TypeId) (H : AH) : Option (Value × AH) :=
  match (P.info? t).bind (·.zero) with
  | some z => if constOk z = true then some (aBox t z H) else none
  | none => none
theorem zero_inv {P : Program} {t : TypeId} {z : Value} (h : (P.info? t).bind (·.zero) = some z) : ∃ i, P.info? t = some i ∧ i.zero = some z := by
  cases hi : P.info? t with
  | none => rw [hi] at h; cases h
  | some i => rw [hi] at h; exact ⟨i, rfl, h⟩
theorem aAlloc_sim {P : Program} {t : TypeId} {H : AH} {r : Value × AH} (h : aAlloc P t H = some r) {ρ : LMap} {B : Nat} {w : World} (hE : Emb ρ B H w) : OpOk P (Instr.alloc t true (.tuple #[])) ρ B w r.1 r.2 := by
  unfold aAlloc at h
  split at h
  · rename_i z hz
    split at h
    · rename_i hc
      cases h
      obtain ⟨i, hi, hz⟩ := zero_inv hz
      obtain ⟨v', w', ρ', h1, h2⟩ := newVar_sim (P := P) (t := t) (VR.const ρ hc) hE
      refine ⟨v', w', ρ', ?_, h2⟩
      rw [← h1]
      simp [Instr.alloc, run_zero hi hz]
    · cases h
  · cases h

end Go.Proofs.YtikkokolmipppaaA

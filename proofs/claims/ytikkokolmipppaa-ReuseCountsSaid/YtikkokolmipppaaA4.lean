/-
  A SMALL HEAP FOR A LARGE ONE (part 4: structs and slices that are made; slices of slices; len, append, copy; bytes and text). Own text of this session.
-/
import Derived.Test.YtikkokolmipppaaA3
import Derived.Laws.BytesArg
set_option linter.unusedVariables false
set_option linter.unusedSimpArgs false
namespace Go.Proofs.YtikkokolmipppaaA
open Go Go.RowKit

/-! ### 1. Filling -/
theorem setAll_toList (l : List Value) : ∀ (k : Nat) (cs : Array Value) (off : Nat), ((l.zipIdx k).foldl (fun (cs : Array Value) (x : Value × Nat) => cs.setIfInBounds (off + x.2) x.1) cs).toList = setAll cs.toList (off + k) l := by
  induction l with
  | nil => intro k cs off; rfl
  | cons v l ih =>
    intro k cs off
    simp only [List.zipIdx_cons, List.foldl_cons, setAll]
    rw [ih (k + 1) _ off]
    simp [Nat.add_assoc]
theorem VRL.set {ρ : LMap} {cs cs' : List Value} (h : VRL ρ cs cs') (o : Nat) {v v' : Value} (hv : VR ρ v v') : VRL ρ (cs.set o v) (cs'.set o v') := by
  refine ⟨by simp [h.1], fun i u hu => ?_⟩
  by_cases e : i = o
  · subst e
    have hi : i < cs.length := by have := (List.getElem?_eq_some_iff.1 hu).1; simpa using this
    rw [List.getElem?_set_self hi] at hu
    cases hu
    exact ⟨v', List.getElem?_set_self (by rw [← h.1]; exact hi), hv⟩
  · rw [List.getElem?_set_ne (fun x => e x.symm)] at hu
    obtain ⟨u', a, b⟩ := h.2 i u hu
    exact ⟨u', by rw [List.getElem?_set_ne (fun x => e x.symm)]; exact a, b⟩
theorem VRL.setAll {ρ : LMap} : ∀ (vs vs' : List Value) (cs cs' : List Value) (o : Nat), VRL ρ cs cs' → VRL ρ vs vs' → VRL ρ (YtikkokolmipppaaA.setAll cs o vs) (YtikkokolmipppaaA.setAll cs' o vs')
  | [], vs', cs, cs', o, h, hv => by
    obtain rfl : vs' = [] := List.eq_nil_of_length_eq_zero hv.1.symm
    exact h
  | v :: vs, [], cs, cs', o, h, hv => by have := hv.1; simp at this
  | v :: vs, v' :: vs', cs, cs', o, h, hv => by
    obtain ⟨u, hu, hr⟩ := hv.2 0 v rfl
    simp at hu
    subst hu
    exact VRL.setAll vs vs' _ _ (o + 1) (h.set o hr) ⟨by have := hv.1; simpa using this, fun j u hj => by
      obtain ⟨u', a, b⟩ := hv.2 (j + 1) u (by simpa using hj)
      exact ⟨u', by simpa using a, b⟩⟩
def afill (place : Nat → Option (Nat × Nat)) (cells : List Value) : List (Nat × Value) → Option (List Value)
  | [] => some cells
  | (i, v) :: rest =>
    match place i with
    | none => none
    | some (off, size) => if v.cells.size = size ∧ off + v.cells.size ≤ cells.length then afill place (setAll cells off v.cells.toList) rest else none
def PartsR (ρ : LMap) (ps ps' : List (Nat × Value)) : Prop := ps.length = ps'.length ∧ ∀ (i : Nat) (x : Nat × Value), ps[i]? = some x → ∃ v', ps'[i]? = some (x.1, v') ∧ VR ρ x.2 v'
theorem afill_sim {ρ : LMap} (place : Nat → Option (Nat × Nat)) (place' : Nat → Option (Nat × Nat)) (hpl : ∀ i x, place i = some x → place' i = some x) : ∀ (ps ps' : List (Nat × Value)) (cells r : List Value) (cells' : Array Value),
    VRL ρ cells cells'.toList → PartsR ρ ps ps' → afill place cells ps = some r → ∃ r', Instr.fill place' cells' ps' = some r' ∧ VRL ρ r r'.toList := by
  intro ps
  induction ps with
  | nil =>
    intro ps' cells r cells' hc hp h
    obtain rfl : ps' = [] := List.eq_nil_of_length_eq_zero hp.1.symm
    cases h
    exact ⟨cells', rfl, hc⟩
  | cons x ps ih =>
    intro ps' cells r cells' hc hp h
    cases ps' with
    | nil => have := hp.1; simp at this
    | cons x' ps' =>
      obtain ⟨i, v⟩ := x
      obtain ⟨v', hx', hr⟩ := hp.2 0 (i, v) rfl
      simp at hx'
      subst hx'
      have hp2 : PartsR ρ ps ps' := ⟨by have := hp.1; simpa using this, fun j u hj => by
        obtain ⟨u', a, b⟩ := hp.2 (j + 1) u (by simpa using hj)
        exact ⟨u', by simpa using a, b⟩⟩
      simp only [afill] at h
      split at h
      · cases h
      · rename_i off size hpi
        split at h
        · rename_i hs
          have hcv := hr.cells
          have hl : cells'.size = cells.length := by have := hc.1; simpa using this.symm
          have e : (v'.cells.zipIdx.foldl (fun (cs : Array Value) (x : Value × Nat) => cs.setIfInBounds (off + x.2) x.1) cells').toList = YtikkokolmipppaaA.setAll cells'.toList off v'.cells.toList := by
            rw [← Array.foldl_toList, Array.toList_zipIdx]
            exact setAll_toList v'.cells.toList 0 cells' off
          obtain ⟨r', h1, h2⟩ := ih ps' _ r (v'.cells.zipIdx.foldl (fun (cs : Array Value) (x : Value × Nat) => cs.setIfInBounds (off + x.2) x.1) cells') (by rw [e]; exact VRL.setAll _ _ _ _ _ hc hcv.vrl) hp2 h
          refine ⟨r', ?_, h2⟩
          simp only [Instr.fill, hpl _ _ hpi]
          rw [if_neg (by rw [← hcv.1, hl]; simp; omega)]
          exact h1
        · cases h

/-- Where the parts of a struct or an array lie, and its zero value's cells. -/
def layoutOf (P : Program) (t : TypeId) : Option (List (Nat × Nat) × List Value) :=
  match P.underlying t, (P.info? t).bind (·.zero) with
  | some (.struct fields), some z => if z.cells.all constOk = true then (Sem.val P (fields.mapM (m := Sem) fun f => do pure (f.offset, ← sizeOf f.type))).map fun pl => (pl.toList, z.cells.toList) else none
  | some (.array n elem), some z => if z.cells.all constOk = true then (sz P elem).map fun s => ((List.range n).map fun i => (i * s, s), z.cells.toList) else none
  | _, _ => none
def aBuild (P : Program) (t : TypeId) (parts : List (Nat × Value)) : Option Value :=
  (layoutOf P t).bind fun x => (afill (x.1[·]?) x.2 parts).map fun l => .agg l.toArray
theorem aBuild_sim {P : Program} {t : TypeId} {parts : List (Nat × Value)} {parts' : Array (Nat × Value)} {v : Value} (h : aBuild P t parts = some v) {ρ : LMap} (hp : PartsR ρ parts parts'.toList) (w : World) : ∃ v', (Instr.build t parts').run P w = .ok v' w ∧ VR ρ v v' := by
  unfold aBuild at h
  cases hl : layoutOf P t with
  | none => rw [hl] at h; cases h
  | some x =>
    rw [hl] at h
    simp only [Option.bind_some] at h
    cases hf : afill (x.1[·]?) x.2 parts with
    | none => rw [hf] at h; cases h
    | some r =>
      rw [hf] at h
      cases h
      unfold layoutOf at hl
      split at hl
      · rename_i fields z hu hz
        split at hl
        · rename_i hzc
          cases hpl : Sem.val P (fields.mapM (m := Sem) fun f => do pure (f.offset, ← sizeOf f.type)) with
          | none => rw [hpl] at hl; cases hl
          | some pl =>
            rw [hpl] at hl
            cases hl
            obtain ⟨i, hi, hz⟩ := zero_inv hz
            obtain ⟨r', h1, h2⟩ := afill_sim (ρ := ρ) _ (pl[·]?) (fun j x hj => by simpa using hj) parts parts'.toList _ r z.cells (VRL.const ρ (by simpa using hzc)) hp hf
            have h3 := h2.vra
            refine ⟨.agg r', ?_, ?_⟩
            · simp only [Instr.build, Sem.run_bind, run_zero hi hz, run_und hu, Result.andThen_ok]
              rw [val_run P _ _ hpl]
              simp only [Result.andThen_ok, h1, Sem.run_pure]
            · have := VR.agg (ρ := ρ) r.toArray r' (by simpa using h3.1) (by simpa using h3.2)
              exact this
        · cases hl
      · rename_i n elem z hu hz
        split at hl
        · rename_i hzc
          cases hs : sz P elem with
          | none => rw [hs] at hl; cases hl
          | some s =>
            rw [hs] at hl
            cases hl
            obtain ⟨i, hi, hz⟩ := zero_inv hz
            obtain ⟨inf, hinf, rfl⟩ := sz_inv hs
            obtain ⟨r', h1, h2⟩ := afill_sim (ρ := ρ) _ (fun i => some (i * inf.size, inf.size)) (fun j x hj => by
              simp only [List.getElem?_map, Option.map_eq_some_iff] at hj
              obtain ⟨k, hk, rfl⟩ := hj
              obtain ⟨h1, h2⟩ := List.getElem?_eq_some_iff.1 hk
              simp at h2
              subst h2
              rfl) parts parts'.toList _ r z.cells (VRL.const ρ (by simpa using hzc)) hp hf
            have h3 := h2.vra
            refine ⟨.agg r', ?_, ?_⟩
            · simp [Instr.build, run_zero hi hz, run_und hu, run_size hinf, h1]
            · have := VR.agg (ρ := ρ) r.toArray r' (by simpa using h3.1) (by simpa using h3.2)
              exact this
        · cases hl
      · cases hl

/-! ### 2. Rows of zeros -/
def rowZeros (zero : List Value) (n : Nat) : List Value := (List.range n).map fun i => zero[i % zero.length]?.getD default
theorem rowZeros_machine (zero : Array Value) (n : Nat) : (Array.range n).map (fun i => zero[i % zero.size]!) = (rowZeros zero.toList n).toArray := by
  apply Array.ext'
  simp [rowZeros, getElem!_def]
  intro i hi
  cases zero[i % zero.size]? <;> rfl
theorem rowZeros_length (zero : List Value) (n : Nat) : (rowZeros zero n).length = n := by simp [rowZeros]
theorem rowZeros_prefix (zero : List Value) (n m : Nat) (h : n ≤ m) : ∃ rest, rowZeros zero m = rowZeros zero n ++ rest := by
  refine ⟨(rowZeros zero m).drop n, ?_⟩
  have : rowZeros zero n = (rowZeros zero m).take n := by
    simp only [rowZeros, ← List.map_take, List.take_range, Nat.min_eq_left h]
  rw [this, List.take_append_drop]
theorem rowZeros_const {zero : List Value} (h : zero.all constOk = true) (hne : zero ≠ []) (n : Nat) : (rowZeros zero n).all constOk = true := by
  simp only [rowZeros, List.all_map, List.all_eq_true]
  intro i hi
  simp only [Function.comp]
  have hlt : i % zero.length < zero.length := Nat.mod_lt _ (List.length_pos_iff.2 hne)
  rw [List.getElem?_eq_getElem hlt]
  exact List.all_eq_true.1 h _ (List.getElem_mem hlt)
theorem rowZeros_one (z : Value) (n : Nat) : rowZeros [z] n = List.replicate n z := by
  simp [rowZeros, Nat.mod_one, List.map_const']
/-- The zero value's cells, of a type that has one. -/
def zeroOf (P : Program) (t : TypeId) : Option (List Value) :=
  match (P.info? t).bind (·.zero) with
  | some z => if z.cells.all constOk = true ∧ z.cells.size ≠ 0 then some z.cells.toList else none
  | none => none
theorem zeroOf_inv {P : Program} {t : TypeId} {zs : List Value} (h : zeroOf P t = some zs) : ∃ i z, P.info? t = some i ∧ i.zero = some z ∧ zs = z.cells.toList ∧ zs.all constOk = true ∧ zs ≠ [] := by
  unfold zeroOf at h
  split at h
  · rename_i z hz
    split at h
    · rename_i hc
      cases h
      obtain ⟨i, hi, hz⟩ := zero_inv hz
      refine ⟨i, z, hi, hz, rfl, by simpa using hc.1, fun e => hc.2 ?_⟩
      rw [← Array.length_toList, e]; rfl
    · cases h
  · cases h

/-! ### 3. Slices that are made -/
theorem VR.newSlice {ρ : LMap} {l b n c esz : Nat} (hc : n ≤ c) : VR (ρ.put l (Place.mk b 0 (c * esz) esz)) (.slice (some ⟨l, 0, none⟩) n n) (.slice (some ⟨b, 0, none⟩) n c) := by
  have := VR.slice (ρ := ρ.put l ⟨b, 0, c * esz, esz⟩) l 0 n c _ (LMap.put_same _ _ _) hc (by simp)
  simpa using this
def aMakeSlice (P : Program) (t : TypeId) (len cap : Value) (H : AH) : Option (Value × AH) :=
  match P.underlying t, len, cap with
  | some (.slice elem), .int _ n, .int _ c =>
    match P.info? elem, zeroOf P elem with
    | some i, some zs => if 0 ≤ n ∧ n ≤ c ∧ c ≤ 4611686018427387904 ∧ i.bytes * c ≤ 281474976710656 then
        some (.slice (some ⟨H.next, 0, none⟩) n.toNat n.toNat, H.new (.cells (rowZeros zs (n.toNat * i.size)) elem true i.size)) else none
    | _, _ => none
  | _, _, _ => none
theorem wrap_i64_small (n : Int) (h0 : 0 ≤ n) (h : n ≤ 4611686018427387904) : IntKind.i64.wrap n = n := by
  simp [IntKind.wrap, IntKind.bits, IntKind.signed]
  omega
theorem aMakeSlice_sim {P : Program} {t : TypeId} {len cap len' cap' : Value} {H : AH} {r : Value × AH} (h : aMakeSlice P t len cap H = some r) {ρ : LMap} {B : Nat} {w : World} (hl : VR ρ len len') (hc : VR ρ cap cap') (hE : Emb ρ B H w) :
    OpOk P (Instr.makeSlice t len' cap') ρ B w r.1 r.2 := by
  unfold aMakeSlice at h
  split at h
  · rename_i elem k n k2 c hu
    cases hl
    cases hc
    split at h
    · rename_i i zs hi hz
      split at h
      · rename_i hb
        obtain ⟨h0, h1, h2, h3⟩ := hb
        cases h
        obtain ⟨i', z, hi', hz', rfl, hzc, hzn⟩ := zeroOf_inv hz
        rw [hi] at hi'
        cases hi'
        obtain ⟨m, rfl⟩ : ∃ m : Nat, n = m := ⟨n.toNat, by omega⟩
        obtain ⟨d, rfl⟩ : ∃ d : Nat, c = d := ⟨c.toNat, by omega⟩
        have hmd : m ≤ d := by omega
        obtain ⟨rest, hrest⟩ := rowZeros_prefix z.cells.toList (m * i.size) (d * i.size) (Nat.mul_le_mul_right _ hmd)
        obtain ⟨k1, k2, k3, k4⟩ := newRow_sim hE elem (rowZeros z.cells.toList (m * i.size)) (rowZeros z.cells.toList (m * i.size)) i.size rest (VRL.const ρ (rowZeros_const hzc hzn _)) P
        rw [← hrest] at k1 k2 k3 k4
        simp only [rowZeros_length] at k2 k3
        refine ⟨.slice (some ⟨w.heap.size, 0, none⟩) m d, _, _, ?_, ?_, k3, k2, k4⟩
        · have hw1 : IntKind.i64.wrap (m : Int) = m := wrap_i64_small _ (by omega) (by omega)
          have hw2 : IntKind.i64.wrap (d : Int) = d := wrap_i64_small _ (by omega) h2
          have ht : (decide ((d : Int) < 0) || decide ((i.bytes : Int) * d > 2 ^ 48)) = false := by
            simp
            exact h3
          simp only [Instr.makeSlice, Sem.run_bind, run_und hu, Result.andThen_ok, asInt, asIntOf, Sem.run_pure, run_info hi, hw1, hw2, ht]
          have c1 : (false || decide ((m : Int) < 0) || decide ((m : Int) > d)) = false := by simp; omega
          rw [if_neg (by simp; omega)]
          simp only [Sem.run_bind, run_askRoom, Result.andThen_ok, Int.toNat_natCast, run_size hi, Sem.run_pure]
          by_cases h0 : d * i.size = 0
          · rw [if_pos h0]
            rw [h0] at k1 ⊢
            simp only [rowZeros, List.range_zero, List.map_nil] at k1 ⊢
            simp only [Sem.run_bind, Sem.run_pure, Result.andThen_ok, Array.range_zero', Array.map_empty, k1]
          · rw [if_neg h0]
            simp only [Sem.run_bind, run_zero hi hz', Result.andThen_ok, Sem.run_pure, rowZeros_machine, k1]
        · simpa using VR.newSlice (ρ := ρ) (l := H.next) (b := w.heap.size) (esz := i.size) hmd
      · cases h
    · cases h
  · cases h

def aBuildSlice (P : Program) (t : TypeId) (len : Nat) (parts : List (Nat × Value)) (H : AH) : Option (Value × AH) :=
  match P.underlying t with
  | some (.slice elem) =>
    match sz P elem, zeroOf P elem with
    | some s, some zs => if len * s ≤ 16777216 then (afill (fun i => some (i * s, s)) (rowZeros zs (len * s)) parts).map fun l => (.slice (some ⟨H.next, 0, none⟩) len len, H.new (.cells l elem true s)) else none
    | _, _ => none
  | _ => none
theorem afill_length (place : Nat → Option (Nat × Nat)) : ∀ (ps : List (Nat × Value)) (cs r : List Value), afill place cs ps = some r → r.length = cs.length
  | [], cs, r, h => by cases h; rfl
  | (i, v) :: ps, cs, r, h => by
    simp only [afill] at h
    split at h
    · cases h
    · split at h
      · rw [afill_length place ps _ _ h, setAll_length]
      · cases h
theorem aBuildSlice_sim {P : Program} {t : TypeId} {len : Nat} {parts : List (Nat × Value)} {parts' : Array (Nat × Value)} {H : AH} {r : Value × AH} (h : aBuildSlice P t len parts H = some r) {ρ : LMap} {B : Nat} {w : World} (hp : PartsR ρ parts parts'.toList) (hE : Emb ρ B H w) :
    OpOk P (Instr.buildSlice t len parts') ρ B w r.1 r.2 := by
  unfold aBuildSlice at h
  split at h
  · rename_i elem hu
    split at h
    · rename_i s zs hs hz
      split at h
      · rename_i hb
        cases hf : afill (fun i => some (i * s, s)) (rowZeros zs (len * s)) parts with
        | none => rw [hf] at h; cases h
        | some l =>
          rw [hf] at h
          cases h
          obtain ⟨i, z, hi, hz', rfl, hzc, hzn⟩ := zeroOf_inv hz
          obtain ⟨inf, hinf, rfl⟩ := sz_inv hs
          rw [hi] at hinf
          cases hinf
          have e0 : (rowZeros z.cells.toList (len * i.size)).toArray.toList = rowZeros z.cells.toList (len * i.size) := rfl
          obtain ⟨r', h1, h2⟩ := afill_sim (ρ := ρ) _ (fun j => some (j * i.size, i.size)) (fun j x hj => hj) parts parts'.toList _ l (rowZeros z.cells.toList (len * i.size)).toArray (by rw [e0]; exact VRL.const ρ (rowZeros_const hzc hzn _)) hp hf
          obtain ⟨k1, k2, k3, k4⟩ := newRow_sim hE elem l r'.toList i.size [] h2 P
          simp only [List.append_nil, Array.toArray_toList] at k1 k2 k3 k4
          have hlen : r'.toList.length = len * i.size := by rw [← h2.1, afill_length _ _ _ _ hf, rowZeros_length]
          rw [hlen] at k2 k3
          refine ⟨.slice (some ⟨w.heap.size, 0, none⟩) len len, _, _, ?_, VR.newSlice (Nat.le_refl _), k3, k2, k4⟩
          simp only [Instr.buildSlice, Sem.run_bind, run_und hu, Result.andThen_ok, run_size hi]
          rw [if_neg (by simpa using hb)]
          by_cases h0 : len * i.size = 0
          · rw [if_pos h0]
            rw [h0] at h1
            simp only [rowZeros, List.range_zero, List.map_nil] at h1
            simp only [Sem.run_bind, Sem.run_pure, Result.andThen_ok, h0, Array.range_zero', Array.map_empty, h1, k1]
          · rw [if_neg h0]
            simp only [Sem.run_bind, run_zero hi hz', Result.andThen_ok, Sem.run_pure, rowZeros_machine, h1, k1]
      · cases h
    · cases h
  · cases h

end Go.Proofs.YtikkokolmipppaaA

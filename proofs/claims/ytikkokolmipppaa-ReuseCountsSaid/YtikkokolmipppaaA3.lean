/-
  A SMALL HEAP FOR A LARGE ONE (part 3: the other operations that need no call). Own text of this session.
-/
import Derived.Test.YtikkokolmipppaaA2
set_option linter.unusedVariables false
set_option linter.unusedSimpArgs false
namespace Go.Proofs.YtikkokolmipppaaA
open Go Go.RowKit

/-! ### 1. Operations on data without an address: the machine's own word, run -/
def Sem.val {α : Type} (P : Program) : Sem α → Option α
  | .pure a => some a
  | .program k => Sem.val P (k P)
  | _ => none
theorem val_run {α : Type} (P : Program) (s : Sem α) (a : α) (h : Sem.val P s = some a) (w : World) : s.run P w = .ok a w := by
  induction s with
  | pure b => simp only [Sem.val, Option.some.injEq] at h; subst h; rfl
  | program k ih => simp only [Sem.val] at h; simp only [Sem.run]; exact ih P h
  | _ => simp [Sem.val] at h

def dataVal (P : Program) (s : Sem Next) : Option Value :=
  match Sem.val P s with
  | some (.value v) => some v
  | _ => none
theorem dataVal_run {P : Program} {s : Sem Next} {v : Value} (h : dataVal P s = some v) (w : World) : s.run P w = .ok (.value v) w := by
  unfold dataVal at h
  split at h
  · rename_i u hu
    cases h
    exact val_run P s _ hu w
  · cases h

/-! ### 2. Nil, or not -/
def nilCmp : Value → Value → Option Bool
  | .pointer a, .pointer none => some a.isNone
  | .pointer none, .pointer (some _) => some false
  | .slice a _ _, .slice none _ _ => some a.isNone
  | .slice none _ _, .slice (some _) _ _ => some false
  | .func _ _ _, .nilFunc => some false
  | .nilFunc, .func _ _ _ => some false
  | .nilFunc, .nilFunc => some true
  | .map a, .map none => some a.isNone
  | .map none, .map (some _) => some false
  | .iface _ _, .nilIface => some false
  | .nilIface, .iface _ _ => some false
  | _, _ => none
def nilFits : TypeDesc → Value → Bool
  | .pointer _, .pointer _ => true
  | .slice _, .slice _ _ _ => true
  | .func _ _ _, .func _ _ _ => true
  | .func _ _ _, .nilFunc => true
  | .map _ _, .map _ => true
  | .interface _, .iface _ _ => true
  | .interface _, .nilIface => true
  | _, _ => false
theorem nilCmp_run {P : Program} {t : TypeId} {d : TypeDesc} (hu : P.underlying t = some d) {ρ : LMap} {x y x' y' : Value} {b : Bool} (hx : VR ρ x x') (hy : VR ρ y y') (h : nilCmp x y = some b) (hf : nilFits d x = true) (w : World) :
    (Op.equal t x' y').run P w = .ok b w := by
  unfold Op.equal Op.maxDepth
  unfold Op.equalIn
  rw [Sem.run_bind, run_und hu]
  simp only [Result.andThen_ok]
  cases hx <;> cases hy <;> simp [nilCmp] at h <;> (try subst h) <;> cases d <;> simp [nilFits] at hf <;> simp
def aNil (P : Program) (op : BinOp) (t : TypeId) (x y : Value) : Option Value :=
  match op, P.underlying t with
  | .eql, some d => if nilFits d x = true then (nilCmp x y).map fun b => .bool b else none
  | .neq, some d => if nilFits d x = true then (nilCmp x y).map fun b => .bool (!b) else none
  | _, _ => none
theorem nilFits_guard {d : TypeDesc} {x x' y' : Value} {ρ : LMap} {y : Value} {b : Bool} (hx : VR ρ x x') (hy : VR ρ y y') (hf : nilFits d x = true) (h : nilCmp x y = some b) (op : BinOp) (t : TypeId) (ox oy : Operand) : eqGuard op t ox oy x' y' = pure () := by
  cases hx <;> simp [nilFits] at hf <;> cases hy <;> simp [nilCmp] at h <;> (cases op <;> rfl)
theorem binOp_eql_nil {d : TypeDesc} {x x' y y' : Value} {ρ : LMap} {b : Bool} (hx : VR ρ x x') (hy : VR ρ y y') (hf : nilFits d x = true) (h : nilCmp x y = some b) (t : TypeId) :
    binOp .eql t x' y' = (do pure (.bool (← Op.equal t x' y'))) ∧ binOp .neq t x' y' = (do pure (.bool (!(← Op.equal t x' y')))) := by
  cases hx <;> simp [nilFits] at hf <;> cases hy <;> simp [nilCmp] at h <;> exact ⟨rfl, rfl⟩
theorem aNil_sim {P : Program} {op : BinOp} {t : TypeId} {x y x' y' : Value} {v : Value} (h : aNil P op t x y = some v) {ρ : LMap} (hx : VR ρ x x') (hy : VR ρ y y') (ox oy : Operand) (w : World) :
    (do eqGuard op t ox oy x' y'; binOp op t x' y').run P w = .ok v w := by
  unfold aNil at h
  split at h
  · rename_i d hu
    split at h
    · rename_i hf
      cases hc : nilCmp x y with
      | none => rw [hc] at h; cases h
      | some b =>
        rw [hc] at h
        cases h
        rw [nilFits_guard hx hy hf hc, (binOp_eql_nil hx hy hf hc t).1]
        simp [nilCmp_run hu hx hy hc hf w]
    · cases h
  · rename_i d hu
    split at h
    · rename_i hf
      cases hc : nilCmp x y with
      | none => rw [hc] at h; cases h
      | some b =>
        rw [hc] at h
        cases h
        rw [nilFits_guard hx hy hf hc, (binOp_eql_nil hx hy hf hc t).2]
        simp [nilCmp_run hu hx hy hc hf w]
    · cases h
  · cases h

/-! ### 3. Parts of structs and arrays by value -/
theorem VRA.extract {ρ : LMap} {cs cs' : Array Value} (h : VRA ρ cs cs') (a b : Nat) : VRA ρ (cs.extract a b) (cs'.extract a b) := by
  refine ⟨by simp [h.1], fun i hi => ?_⟩
  have := h.get (a + i)
  simp only [Array.getD_eq_getD_getElem?, Array.getElem?_extract] at this ⊢
  rw [← h.1]
  split
  · exact this
  · exact VR.undef ρ
theorem VRA.get? {ρ : LMap} {cs cs' : Array Value} (h : VRA ρ cs cs') {i : Nat} {v : Value} (hv : cs[i]? = some v) : ∃ v', cs'[i]? = some v' ∧ VR ρ v v' := by
  have hi : i < cs.size := (Array.getElem?_eq_some_iff.1 hv).1
  have hi' : i < cs'.size := by rw [← h.1]; exact hi
  have hr := h.2 i hi
  simp only [Array.getD, hi, hi', dif_pos] at hr
  rw [Array.getElem?_eq_getElem hi] at hv
  cases hv
  exact ⟨cs'[i], Array.getElem?_eq_getElem hi', hr⟩
def aPart (P : Program) (t : TypeId) (cs : Array Value) (off : Nat) : Option Value :=
  match aggT P t with
  | some true => (sz P t).map fun n => .agg (cs.extract off (off + n))
  | some false => cs[off]?
  | none => none
theorem aPart_sim {P : Program} {t : TypeId} {cs cs' : Array Value} {off : Nat} {v : Value} (h : aPart P t cs off = some v) {ρ : LMap} (hc : VRA ρ cs cs') (w : World) : ∃ v', (part t cs' off).run P w = .ok v' w ∧ VR ρ v v' := by
  unfold aPart aggT at h
  cases hu : P.underlying t with
  | none => rw [hu] at h; simp at h
  | some d =>
    rw [hu] at h
    simp only [Option.map_some] at h
    cases hd : isAggD d with
    | true =>
      rw [hd] at h
      simp only at h
      cases hs : sz P t with
      | none => rw [hs] at h; cases h
      | some n =>
        rw [hs] at h
        cases h
        obtain ⟨i, hi, hn⟩ := sz_inv hs
        have := hc.extract off (off + n)
        exact ⟨_, by simp [part, run_isAgg hu, hd, run_size hi, hn], .agg _ _ this.1 this.2⟩
    | false =>
      rw [hd] at h
      simp only at h
      obtain ⟨v', hv', hr⟩ := hc.get? h
      exact ⟨v', by simp [part, run_isAgg hu, hd, hv'], hr⟩
theorem VR.agg_inv {ρ : LMap} {cs : Array Value} {v' : Value} (h : VR ρ (.agg cs) v') : ∃ cs', v' = .agg cs' ∧ VRA ρ cs cs' := by
  cases h with
  | agg cs cs' h1 h2 => exact ⟨cs', rfl, h1, h2⟩
theorem VR.tuple_inv {ρ : LMap} {cs : Array Value} {v' : Value} (h : VR ρ (.tuple cs) v') : ∃ cs', v' = .tuple cs' ∧ VRA ρ cs cs' := by
  cases h with
  | tuple cs cs' h1 h2 => exact ⟨cs', rfl, h1, h2⟩
def aField (P : Program) (t : TypeId) (x : Value) (f : Nat) : Option Value :=
  match P.underlying t, x with
  | some (.struct fields), .agg cs => (fields[f]?).bind fun fd => aPart P fd.type cs fd.offset
  | _, _ => none
theorem aField_sim {P : Program} {t : TypeId} {x x' : Value} {f : Nat} {v : Value} (h : aField P t x f = some v) {ρ : LMap} (hx : VR ρ x x') (w : World) : ∃ v', (Instr.field t x' f).run P w = .ok v' w ∧ VR ρ v v' := by
  unfold aField at h
  split at h
  · rename_i fields cs hu
    obtain ⟨cs', rfl, hc⟩ := hx.agg_inv
    cases hf : fields[f]? with
    | none => rw [hf] at h; cases h
    | some fd =>
      rw [hf] at h
      obtain ⟨v', h1, h2⟩ := aPart_sim h hc w
      exact ⟨v', by simp [Instr.field, run_und hu, hf, asAgg, h1], h2⟩
  · cases h
def aIndex (P : Program) (t : TypeId) (x i : Value) : Option Value :=
  match P.underlying t, x, i with
  | some (.array len elem), .agg cs, .int _ n => if 0 ≤ n ∧ n < len then (sz P elem).bind fun s => aPart P elem cs (n.toNat * s) else none
  | some .string, .string s, .int _ n => if 0 ≤ n then (s.data[n.toNat]?).map fun b => .int .u8 b.toNat else none
  | _, _, _ => none
theorem byteArray_get? (s : ByteArray) (i : Nat) : s[i]? = s.data[i]? := by
  by_cases h : i < s.size
  · rw [getElem?_pos s i h]
    have h' : i < s.data.size := h
    rw [Array.getElem?_eq_getElem h']; rfl
  · rw [getElem?_neg s i h]
    have h' : ¬ i < s.data.size := h
    rw [Array.getElem?_eq_none (by omega)]
theorem aIndex_sim {P : Program} {t : TypeId} {x x' i i' : Value} {v : Value} (h : aIndex P t x i = some v) {ρ : LMap} (hx : VR ρ x x') (hi : VR ρ i i') (w : World) : ∃ v', (Instr.index t x' i').run P w = .ok v' w ∧ VR ρ v v' := by
  unfold aIndex at h
  split at h
  · rename_i len elem cs k n hu
    obtain ⟨cs', rfl, hc⟩ := hx.agg_inv
    cases hi
    split at h
    · rename_i hn
      cases hs : sz P elem with
      | none => rw [hs] at h; cases h
      | some s =>
        rw [hs] at h
        obtain ⟨inf, hinf, rfl⟩ := sz_inv hs
        obtain ⟨v', h1, h2⟩ := aPart_sim h hc w
        exact ⟨v', by simp [Instr.index, asIntOf, run_und hu, hn.1, hn.2, run_size hinf, h1], h2⟩
    · cases h
  · rename_i s k n hu
    cases hx
    cases hi
    split at h
    · rename_i hn
      cases hb : s.data[n.toNat]? with
      | none => rw [hb] at h; cases h
      | some b =>
        rw [hb] at h
        cases h
        refine ⟨.int .u8 b.toNat, ?_, .int _ _⟩
        simp [Instr.index, asIntOf, run_und hu, hn, byteArray_get?, hb]
    · cases h
  · cases h
def aExtract (x : Value) (i : Nat) : Option Value :=
  match x with
  | .tuple vs => vs[i]?
  | _ => none
theorem aExtract_sim {P : Program} {x x' : Value} {i : Nat} {v : Value} (h : aExtract x i = some v) {ρ : LMap} (hx : VR ρ x x') (w : World) : ∃ v', (Instr.extract x' i).run P w = .ok v' w ∧ VR ρ v v' := by
  unfold aExtract at h
  split at h
  · rename_i vs
    obtain ⟨cs', rfl, hc⟩ := hx.tuple_inv
    obtain ⟨v', h1, h2⟩ := hc.get? h
    exact ⟨v', by simp [Instr.extract, h1], h2⟩
  · cases h

/-! ### 4. Addresses -/
def aFieldAddr (P : Program) (t : TypeId) (x : Value) (f : Nat) : Option Value :=
  match P.underlying t, x with
  | some (.struct fields), .pointer (some ⟨l, o, none⟩) =>
    match fields[f]? with
    | some fd => if (sz P fd.type).any (· != 0) = true then some (.pointer (some ⟨l, o + fd.offset, none⟩)) else none
    | none => none
  | _, _ => none
theorem aFieldAddr_sim {P : Program} {t : TypeId} {x x' : Value} {f : Nat} {v : Value} (h : aFieldAddr P t x f = some v) {ρ : LMap} (hx : VR ρ x x') (w : World) : ∃ v', (Instr.fieldAt t x' f).run P w = .ok v' w ∧ VR ρ v v' := by
  unfold aFieldAddr at h
  split at h
  · rename_i fields l o hu
    obtain ⟨p, hp, rfl⟩ := hx.ptr_inv
    split at h
    · rename_i fd hf
      split at h
      · rename_i hs
        cases hz : sz P fd.type with
        | none => rw [hz] at hs; cases hs
        | some n =>
          rw [hz] at hs
          obtain ⟨inf, hinf, rfl⟩ := sz_inv hz
          have hne : inf.size ≠ 0 := by simpa using hs
          cases h
          refine ⟨.pointer (some ⟨p.blk, p.base + (o + fd.offset), none⟩), ?_, .ptr _ _ p hp⟩
          simp [Instr.fieldAt, run_und hu, hf, Instr.sureAddr, fieldPlace, run_size hinf, hne, Addr.add_lit, Nat.add_assoc]
      · cases h
    · cases h
  · cases h
def aIndexAddr (P : Program) (t : TypeId) (x i : Value) : Option Value :=
  match P.underlying t, x, i with
  | some (.slice elem), .slice (some ⟨l, o, none⟩) n _, .int _ j => if 0 ≤ j ∧ j < n then (sz P elem).map fun s => .pointer (some ⟨l, o + j.toNat * s, none⟩) else none
  | some (.array n elem), .pointer (some ⟨l, o, none⟩), .int _ j => if 0 ≤ j ∧ j < n then (sz P elem).map fun s => .pointer (some ⟨l, o + j.toNat * s, none⟩) else none
  | _, _, _ => none
theorem VR.slice_inv {ρ : LMap} {l o n c : Nat} {v' : Value} (h : VR ρ (.slice (some ⟨l, o, none⟩) n c) v') :
    c = n ∧ ((∃ p c', ρ l = some p ∧ n ≤ c' ∧ p.base + o + c' * p.esz ≤ p.size ∧ v' = .slice (some ⟨p.blk, p.base + o, none⟩) n c') ∨ (n = 0 ∧ ∃ a, v' = .slice (some a) 0 0)) := by
  cases h with
  | slice l o n c p h hc hp => exact ⟨rfl, .inl ⟨p, c, h, hc, hp, rfl⟩⟩
  | emptySlice l o a => exact ⟨rfl, .inr ⟨rfl, a, rfl⟩⟩
theorem aIndexAddr_sim {P : Program} {t : TypeId} {x x' i i' : Value} {v : Value} (h : aIndexAddr P t x i = some v) {ρ : LMap} (hx : VR ρ x x') (hi : VR ρ i i') (w : World) : ∃ v', (Instr.indexAt t x' i').run P w = .ok v' w ∧ VR ρ v v' := by
  unfold aIndexAddr at h
  split at h
  · rename_i elem l o n c k j hu
    cases hi
    split at h
    · rename_i hj
      cases hs : sz P elem with
      | none => rw [hs] at h; cases h
      | some s =>
        rw [hs] at h
        cases h
        obtain ⟨inf, hinf, rfl⟩ := sz_inv hs
        obtain ⟨rfl, ⟨p, c', hp, _, _, rfl⟩ | ⟨rfl, _⟩⟩ := hx.slice_inv
        · refine ⟨.pointer (some ⟨p.blk, p.base + (o + j.toNat * inf.size), none⟩), ?_, .ptr _ _ p hp⟩
          simp [Instr.indexAt, asIntOf, run_und hu, hj.1, hj.2, run_size hinf, Addr.add_lit, Nat.add_assoc]
        · omega
    · cases h
  · rename_i n elem l o k j hu
    cases hi
    obtain ⟨p, hp, rfl⟩ := hx.ptr_inv
    split at h
    · rename_i hj
      cases hs : sz P elem with
      | none => rw [hs] at h; cases h
      | some s =>
        rw [hs] at h
        cases h
        obtain ⟨inf, hinf, rfl⟩ := sz_inv hs
        refine ⟨.pointer (some ⟨p.blk, p.base + (o + j.toNat * inf.size), none⟩), ?_, .ptr _ _ p hp⟩
        simp [Instr.indexAt, asIntOf, run_und hu, Instr.sureAddr, hj.1, hj.2, run_size hinf, Addr.add_lit, Nat.add_assoc]
    · cases h
  · cases h

end Go.Proofs.YtikkokolmipppaaA

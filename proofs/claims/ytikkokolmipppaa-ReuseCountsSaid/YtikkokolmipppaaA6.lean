/-
  A SMALL HEAP FOR A LARGE ONE (part 6: every operation that needs no call, in one function, and that the machine does the same). Own text of this session.
-/
import Derived.Test.YtikkokolmipppaaA5
set_option linter.unusedVariables false
set_option linter.unusedSimpArgs false
namespace Go.Proofs.YtikkokolmipppaaA
open Go Go.RowKit

/-! ### 1. Operands -/
def aeval (env : Env) : Operand → Value
  | .tmp t => env t
  | .const v => v
  | .global g => .pointer (some ⟨g, 0, none⟩)
  | .func f => .func (.func f) #[] #[]
/-- which operands may stand in a text: constants without an address; the package's variables that G lets in -/
def opdOk (G : Nat → Bool) : Operand → Bool
  | .const v => constOk v
  | .global g => G g
  | _ => true
def GlobOk (G : Nat → Bool) (ρ : LMap) : Prop := ∀ g, G g = true → ∃ p, ρ g = some p ∧ p.blk = g ∧ p.base = 0
theorem GlobOk.mono {G : Nat → Bool} {ρ ρ' : LMap} (h : GlobOk G ρ) (hle : ρ.le ρ') : GlobOk G ρ' := fun g hg => let ⟨p, a, b⟩ := h g hg; ⟨p, hle _ _ a, b⟩
theorem aeval_sim {G : Nat → Bool} {ρ : LMap} (hG : GlobOk G ρ) {env : Env} {nt : Nat} {a : Act} (hE : EnvR ρ env nt a.tmps) {x : Operand} (hx : opdOk G x = true) : VR ρ (aeval env x) (a.eval x) := by
  cases x with
  | tmp t => exact hE.2 t
  | const v => exact VR.const ρ hx
  | global g =>
    obtain ⟨p, h1, h2, h3⟩ := hG g hx
    have := VR.ptr g 0 p h1
    rw [h2, h3] at this
    exact this
  | func f => exact .func f #[] #[] #[] #[] rfl (fun i h => absurd h (by simp)) rfl (fun i h => absurd h (by simp))
def opsOk (G : Nat → Bool) (op : Op) : Bool := op.operands.all (opdOk G)
def EvR (ρ : LMap) (op : Op) (e e' : Operand → Value) : Prop := ∀ x ∈ op.operands, VR ρ (e x) (e' x)
theorem evR_of {G : Nat → Bool} {ρ : LMap} (hG : GlobOk G ρ) {env : Env} {nt : Nat} {a : Act} (hE : EnvR ρ env nt a.tmps) {op : Op} (h : opsOk G op = true) : EvR ρ op (aeval env) a.eval := by
  intro x hx
  refine aeval_sim hG hE ?_
  obtain ⟨i, hi, rfl⟩ := Array.mem_iff_getElem.1 hx
  exact Array.all_eq_true.1 h i hi

/-! ### 2. Operations on data -/
def aBin (P : Program) (op : BinOp) (t : TypeId) (ox oy : Operand) (x y : Value) : Option Value :=
  match aNil P op t x y with
  | some v => some v
  | none => if (plain x && plain y) = true then Sem.val P (do eqGuard op t ox oy x y; binOp op t x y) else none
theorem aBin_sim {P : Program} {op : BinOp} {t : TypeId} {ox oy : Operand} {x y x' y' : Value} {v : Value} (h : aBin P op t ox oy x y = some v) {ρ : LMap} (hx : VR ρ x x') (hy : VR ρ y y') (w : World) :
    (do eqGuard op t ox oy x' y'; binOp op t x' y').run P w = .ok v w := by
  unfold aBin at h
  split at h
  · rename_i u hu
    cases h
    exact aNil_sim hu hx hy ox oy w
  · split at h
    · rename_i hp
      rw [Bool.and_eq_true] at hp
      rw [hx.plain hp.1, hy.plain hp.2]
      exact val_run P _ _ h w
    · cases h
def aUn (P : Program) (op : UnOp) (x : Value) : Option Value := if plain x = true then Sem.val P (Op.unary op x) else none
def aConv (P : Program) (src dst : TypeId) (x : Value) (H : AH) : Option Value :=
  match aConvert P src dst x H with
  | some v => some v
  | none => if plain x = true then Sem.val P (convert src dst x) else none
/-- an operation's answer, checked to be without an address where it is the machine's own -/
def chk (r : Option Value) : Option Value := r.bind fun v => if constOk v = true then some v else none
theorem chk_inv {r : Option Value} {v : Value} (h : chk r = some v) : r = some v ∧ constOk v = true := by
  unfold chk at h
  cases r with
  | none => cases h
  | some u =>
    simp only [Option.bind_some] at h
    split at h
    · rename_i hc; cases h; exact ⟨rfl, hc⟩
    · cases h

def aBuiltin (P : Program) (b : Builtin) (ats : Array TypeId) (ty : TypeId) (xs : Array Value) (H : AH) : Option (Value × AH) :=
  match b, ats.toList, xs.toList with
  | .len, [t], [x] => (aLenH P t x H).map fun v => (v, H)
  | .append, [st, xt], [s, x] => aAppend P st xt s x H
  | .copy, [st, xt], [s, x] => aCopy P st s x H
  | .min, _, _ => if xs.all plain = true then (chk (Sem.val P (Builtin.min_ ats ty xs))).map fun v => (v, H) else none
  | .max, _, _ => if xs.all plain = true then (chk (Sem.val P (Builtin.max_ ats ty xs))).map fun v => (v, H) else none
  | _, _, _ => none

def aop (P : Program) (op : Op) (ty : TypeId) (e : Operand → Value) (H : AH) : Option (Value × AH) :=
  match op with
  | .move x => some (e x, H)
  | .assign x => some (e x, H)
  | .pick c a b => match e c with
    | .bool t => some (if t = true then e a else e b, H)
    | _ => none
  | .alloc t => aAlloc P t H
  | .box t x => some (aBox t (e x) H)
  | .build t ps => (aBuild P t (ps.toList.map fun x => (x.1, e x.2))).map fun v => (v, H)
  | .buildSlice t n ps => aBuildSlice P t n (ps.toList.map fun x => (x.1, e x.2)) H
  | .load t a => (aLoad P t (e a) H).map fun v => (v, H)
  | .store t a v => (aStore P t (e a) (e v) H).map fun H' => (Go.undef, H')
  | .nilCheck x => match e x with
    | .pointer (some a) => some (.pointer (some a), H)
    | .func (.func f) fs cs => some (.func (.func f) fs cs, H)
    | .func (.yield l) fs cs => some (.func (.yield l) fs cs, H)
    | _ => none
  | .binOp op t x y _ => (chk (aBin P op t x y (e x) (e y))).map fun v => (v, H)
  | .unOp op _ x => (chk (aUn P op (e x))).map fun v => (v, H)
  | .convert src dst x => if isStrB src dst = true then aBytes P src dst (e x) H else (chk (aConv P src dst (e x) H)).map fun v => (v, H)
  | .makeFunc (.func f) fs cs => some (.func (.func f) (fs.map e) (cs.map e), H)
  | .makeSlice t l c => aMakeSlice P t (e l) (e c) H
  | .makeMap t none => aMakeMap P t H
  | .lookup t x i ok => (aLookup P t (e x) (e i) ok H).map fun v => (v, H)
  | .mapUpdate t m k v => (aMapUpdate P t (e m) (e k) (e v) H).map fun H' => (Go.undef, H')
  | .mapEntry t m k => aMapEntry P t (e m) (e k) H
  | .entryStore t m s v => (aEntryStore (e m) (e s) (e v) H).map fun H' => (Go.undef, H')
  | .slice t x lo hi none => (aSlice P t (e x) (lo.map e) (hi.map e) H).map fun v => (v, H)
  | .fieldAddr t x f => (aFieldAddr P t (e x) f).map fun v => (v, H)
  | .field t x f => (aField P t (e x) f).map fun v => (v, H)
  | .indexAddr t x i => (aIndexAddr P t (e x) (e i)).map fun v => (v, H)
  | .index t x i => (aIndex P t (e x) (e i)).map fun v => (v, H)
  | .extract x i => (aExtract (e x) i).map fun v => (v, H)
  | .call c => match c.callee with
    | .builtin b => aBuiltin P b c.argTypes ty (c.args.map e) H
    | _ => none
  | _ => none

/-- The machine's operation ends in a value, or (a store) in none. -/
def NextOk (P : Program) (s : Sem Next) (ρ : LMap) (B : Nat) (w : World) (v : Value) (H' : AH) : Prop :=
  ∃ v' w' ρ', (s.run P w = .ok (.value v') w' ∨ (s.run P w = .ok .skip w' ∧ v' = Go.undef)) ∧ VR ρ' v v' ∧ ρ.le ρ' ∧ Emb ρ' B H' w' ∧ Below B w w'
theorem OpOk.next {P : Program} {s : Sem Value} {ρ : LMap} {B : Nat} {w : World} {v : Value} {H' : AH} (h : OpOk P s ρ B w v H') : NextOk P (s >>= fun v => Pure.pure (Next.value v)) ρ B w v H' := by
  obtain ⟨v', w', ρ', h1, h2⟩ := h
  exact ⟨v', w', ρ', .inl (by simp [h1]), h2⟩
theorem NextOk.same {P : Program} {s : Sem Value} {ρ : LMap} {B : Nat} {w : World} {v v' : Value} {H : AH} (hE : Emb ρ B H w) (h : s.run P w = .ok v' w) (hv : VR ρ v v') : NextOk P (s >>= fun v => Pure.pure (Next.value v)) ρ B w v H :=
  (OpOk.pure hE h hv).next
theorem partsR_of {ρ : LMap} {e e' : Operand → Value} (ps : Array (Nat × Operand)) (h : ∀ x ∈ (ps.toList.map (·.2)).toArray, VR ρ (e x) (e' x)) : PartsR ρ (ps.toList.map fun x => (x.1, e x.2)) (ps.map fun x => (x.1, e' x.2)).toList := by
  refine ⟨by simp, fun i x hx => ?_⟩
  rw [List.getElem?_map] at hx
  cases hp : ps.toList[i]? with
  | none => rw [hp] at hx; cases hx
  | some y =>
    rw [hp] at hx
    cases hx
    refine ⟨e' y.2, by simp only [Array.toList_map, List.getElem?_map, hp]; rfl, h _ ?_⟩
    rw [List.mem_toArray]
    exact List.mem_map.2 ⟨y, List.mem_of_getElem? hp, rfl⟩
theorem map_vra {ρ : LMap} {e e' : Operand → Value} (xs : Array Operand) (h : ∀ x ∈ xs, VR ρ (e x) (e' x)) : VRA ρ (xs.map e) (xs.map e') := by
  refine ⟨by simp, fun i hi => ?_⟩
  have hi1 : i < xs.size := by simpa using hi
  simp only [Array.getD_eq_getD_getElem?, Array.getElem?_map, Array.getElem?_eq_getElem hi1, Option.map_some, Option.getD_some]
  exact h _ (Array.getElem_mem hi1)
theorem vro_of {ρ : LMap} {e e' : Operand → Value} (x : Option Operand) (h : ∀ y ∈ x.toArray, VR ρ (e y) (e' y)) : VRO ρ (x.map e) (x.map e') := by
  cases x with
  | none => trivial
  | some y => exact h y (by simp)
theorem vra_plain {ρ : LMap} {xs xs' : Array Value} (h : VRA ρ xs xs') (hp : xs.all plain = true) : xs' = xs := by
  refine Array.ext h.1.symm (fun i hi hi' => ?_)
  have hv := h.2 i hi'
  simp only [Array.getD, hi, hi', dif_pos] at hv
  exact hv.plain (Array.all_eq_true.1 hp i hi')

theorem aBuiltin_sim {P : Program} {b : Builtin} {ats : Array TypeId} {ty : TypeId} {xs xs' : Array Value} {H : AH} {r : Value × AH} (h : aBuiltin P b ats ty xs H = some r) {ρ : LMap} {B : Nat} {w : World} (hx : VRA ρ xs xs') (hE : Emb ρ B H w) (cs : Array Bool) : NextOk P (builtin b ats ty cs xs') ρ B w r.1 r.2 := by
  unfold aBuiltin at h
  split at h
  · rename_i t x ht hxs
    cases hl : aLenH P t x H with
    | none => rw [hl] at h; cases h
    | some v =>
      rw [hl] at h
      cases h
      obtain rfl : ats = #[t] := by rw [← Array.toArray_toList (xs := ats), ht]
      obtain rfl : xs = #[x] := by rw [← Array.toArray_toList (xs := xs), hxs]
      have hv := hx.2 0 (by simp)
      have hs : xs'.size = 1 := by simpa using hx.1.symm
      have hxe : xs' = #[xs'.getD 0 Go.undef] := by
        apply Array.ext (by simpa using hs)
        intro i hi _
        obtain rfl : i = 0 := by omega
        simp [Array.getD, hi]
      generalize xs'.getD 0 Go.undef = y at hxe hv
      subst hxe
      refine NextOk.same (v' := v) hE ?_ ?_
      · exact aLenH_sim hl hE hv
      · obtain ⟨n, rfl⟩ := aLenH_int hl
        exact .int _ _
  · rename_i st xt s x ht hxs
    obtain rfl : ats = #[st, xt] := by rw [← Array.toArray_toList (xs := ats), ht]
    obtain rfl : xs = #[s, x] := by rw [← Array.toArray_toList (xs := xs), hxs]
    have h0 := hx.2 0 (by simp)
    have h1 := hx.2 1 (by simp)
    have hs : xs'.size = 2 := by simpa using hx.1.symm
    have hxe : xs' = #[xs'.getD 0 Go.undef, xs'.getD 1 Go.undef] := by
      apply Array.ext (by simpa using hs)
      intro i hi _
      rcases (by omega : i = 0 ∨ i = 1) with rfl | rfl <;> simp [Array.getD, hi]
    generalize xs'.getD 0 Go.undef = y at hxe h0
    generalize xs'.getD 1 Go.undef = z at hxe h1
    subst hxe
    exact (aAppend_sim h h0 h1 hE).next
  · rename_i st xt s x ht hxs
    obtain rfl : ats = #[st, xt] := by rw [← Array.toArray_toList (xs := ats), ht]
    obtain rfl : xs = #[s, x] := by rw [← Array.toArray_toList (xs := xs), hxs]
    have h0 := hx.2 0 (by simp)
    have h1 := hx.2 1 (by simp)
    have hs : xs'.size = 2 := by simpa using hx.1.symm
    have hxe : xs' = #[xs'.getD 0 Go.undef, xs'.getD 1 Go.undef] := by
      apply Array.ext (by simpa using hs)
      intro i hi _
      rcases (by omega : i = 0 ∨ i = 1) with rfl | rfl <;> simp [Array.getD, hi]
    generalize xs'.getD 0 Go.undef = y at hxe h0
    generalize xs'.getD 1 Go.undef = z at hxe h1
    subst hxe
    exact (aCopy_sim h h0 h1 hE).next
  · split at h
    · rename_i hp
      cases hv : chk (Sem.val P (Builtin.min_ ats ty xs)) with
      | none => rw [hv] at h; cases h
      | some v =>
        rw [hv] at h
        cases h
        obtain ⟨hv, hc⟩ := chk_inv hv
        rw [vra_plain hx hp]
        exact NextOk.same (v' := v) hE (val_run P _ _ hv w) (VR.const ρ hc)
    · cases h
  · split at h
    · rename_i hp
      cases hv : chk (Sem.val P (Builtin.max_ ats ty xs)) with
      | none => rw [hv] at h; cases h
      | some v =>
        rw [hv] at h
        cases h
        obtain ⟨hv, hc⟩ := chk_inv hv
        rw [vra_plain hx hp]
        exact NextOk.same (v' := v) hE (val_run P _ _ hv w) (VR.const ρ hc)
    · cases h
  · cases h

theorem map_some {α β : Type} {r : Option α} {f : α → β} {y : β} (h : r.map f = some y) : ∃ x, r = some x ∧ f x = y := by
  cases r with
  | none => cases h
  | some x => exact ⟨x, rfl, by simpa using h⟩

theorem aop_sim {P : Program} {o : Oper} {e e' : Operand → Value} {H : AH} {r : Value × AH} (h : aop P o.op o.type e H = some r) {ρ : LMap} {B : Nat} {w : World} (he : EvR ρ o.op e e') (hE : Emb ρ B H w) : NextOk P (execOp e' o) ρ B w r.1 r.2 := by
  unfold aop at h
  unfold execOp
  obtain ⟨dst, op, ty, pos, aft, gd⟩ := o
  simp only at h he ⊢
  have hop : ∀ x, x ∈ op.operands → VR ρ (e x) (e' x) := he
  clear he
  cases op with
  | move x => simp only at h ⊢; cases h; exact ⟨_, w, ρ, .inl rfl, hop x (by simp [Op.operands]), LMap.le_refl _, hE, Below.refl _ _⟩
  | assign x => simp only at h ⊢; cases h; exact ⟨_, w, ρ, .inl rfl, hop x (by simp [Op.operands]), LMap.le_refl _, hE, Below.refl _ _⟩
  | pick c a b =>
    simp only at h ⊢
    have hc := hop c (by simp [Op.operands])
    split at h
    · rename_i t ht
      cases h
      rw [ht] at hc
      cases hc' : e' c with
      | bool u =>
        rw [hc'] at hc
        cases hc
        refine ⟨if t = true then e' a else e' b, w, ρ, .inl (by simp [asBool, hc']), ?_, LMap.le_refl _, hE, Below.refl _ _⟩
        cases t
        · exact hop b (by simp [Op.operands])
        · exact hop a (by simp [Op.operands])
      | _ => rw [hc'] at hc; cases hc
    · cases h
  | alloc t => simp only at h ⊢; exact (aAlloc_sim h hE).next
  | box t x => simp only at h ⊢; cases h; exact (aBox_sim (hop x (by simp [Op.operands])) hE).next
  | build t ps =>
    simp only at h ⊢
    obtain ⟨v, hv, rfl⟩ := map_some h
    obtain ⟨v', h1, h2⟩ := aBuild_sim hv (partsR_of ps hop) w
    exact NextOk.same hE h1 h2
  | buildSlice t n ps => simp only at h ⊢; exact (aBuildSlice_sim h (partsR_of ps hop) hE).next
  | load t a =>
    simp only at h ⊢
    obtain ⟨v, hv, rfl⟩ := map_some h
    exact (aLoad_sim hv (hop a (by simp [Op.operands])) hE).next
  | store t a v =>
    simp only at h ⊢
    obtain ⟨H', hv, rfl⟩ := map_some h
    obtain ⟨w', h1, h2, h3⟩ := aStore_sim hv (hop a (by simp [Op.operands])) (hop v (by simp [Op.operands])) hE
    exact ⟨Go.undef, w', ρ, .inr ⟨by simp [h1], rfl⟩, VR.undef ρ, LMap.le_refl _, h2, h3⟩
  | nilCheck x =>
    simp only at h ⊢
    have hx := hop x (by simp [Op.operands])
    split at h
    · rename_i a ha
      cases h
      rw [ha] at hx
      cases hx' : e' x with
      | pointer u =>
        rw [hx'] at hx
        cases u with
        | none => cases hx
        | some u => exact ⟨_, w, ρ, .inl rfl, hx, LMap.le_refl _, hE, Below.refl _ _⟩
      | _ => rw [hx'] at hx; cases hx
    · rename_i f fs cs ha
      cases h
      rw [ha] at hx
      cases hx' : e' x with
      | func fn fs' cs' =>
        rw [hx'] at hx
        cases hx with
        | func f fs fs' cs cs' h1 h2 h3 h4 => exact ⟨_, w, ρ, .inl rfl, .func f fs fs' cs cs' h1 h2 h3 h4, LMap.le_refl _, hE, Below.refl _ _⟩
      | _ => rw [hx'] at hx; cases hx
    · rename_i f fs cs ha
      cases h
      rw [ha] at hx
      cases hx' : e' x with
      | func fn fs' cs' =>
        rw [hx'] at hx
        cases hx with
        | yield _ p hl => exact ⟨_, w, ρ, .inl rfl, .yield _ p hl, LMap.le_refl _, hE, Below.refl _ _⟩
      | _ => rw [hx'] at hx; cases hx
    · cases h
  | binOp op t x y yt =>
    simp only at h ⊢
    obtain ⟨v, hv, rfl⟩ := map_some h
    obtain ⟨hv, hc⟩ := chk_inv hv
    exact NextOk.same hE (aBin_sim hv (hop x (by simp [Op.operands])) (hop y (by simp [Op.operands])) w) (VR.const ρ hc)
  | unOp op t x =>
    simp only at h ⊢
    obtain ⟨v, hv, rfl⟩ := map_some h
    obtain ⟨hv, hc⟩ := chk_inv hv
    unfold aUn at hv
    split at hv
    · rename_i hp
      rw [(hop x (by simp [Op.operands])).plain hp]
      exact NextOk.same hE (val_run P _ _ hv w) (VR.const ρ hc)
    · cases hv
  | convert src dst x =>
    simp only at h ⊢
    split at h
    · exact (aBytes_sim h (hop x (by simp [Op.operands])) hE).next
    · obtain ⟨v, hv, rfl⟩ := map_some h
      obtain ⟨hv, hc⟩ := chk_inv hv
      unfold aConv at hv
      split at hv
      · rename_i u hu
        cases hv
        obtain ⟨h1, _⟩ := aConvert_sim hu (hop x (by simp [Op.operands])) hE
        exact NextOk.same hE h1 (VR.const ρ hc)
      · split at hv
        · rename_i hp
          rw [(hop x (by simp [Op.operands])).plain hp]
          exact NextOk.same hE (val_run P _ _ hv w) (VR.const ρ hc)
        · cases hv
  | makeFunc fn fs cs =>
    cases fn with
    | func f =>
      simp only at h ⊢
      cases h
      have h1 := map_vra fs (fun x hx => hop x (by simp [Op.operands]; exact .inl hx))
      have h2 := map_vra cs (fun x hx => hop x (by simp [Op.operands]; exact .inr hx))
      exact NextOk.same (v' := .func (.func f) (fs.map e') (cs.map e')) hE (by simp [Instr.makeFunc]) (.func f _ _ _ _ h1.1 h1.2 h2.1 h2.2)
    | _ => cases h
  | makeSlice t l c => simp only at h ⊢; exact (aMakeSlice_sim h (hop l (by simp [Op.operands])) (hop c (by simp [Op.operands])) hE).next
  | makeMap t r =>
    cases r with
    | some m => cases h
    | none => simp only at h ⊢; exact (aMakeMap_sim h hE).next
  | lookup t x i ok =>
    simp only at h ⊢
    obtain ⟨v, hv, rfl⟩ := map_some h
    obtain ⟨h1, h2⟩ := aLookup_sim hv (hop x (by simp [Op.operands])) (hop i (by simp [Op.operands])) hE
    exact NextOk.same hE h1 h2
  | mapUpdate t m k v =>
    simp only at h ⊢
    obtain ⟨H', hv, rfl⟩ := map_some h
    obtain ⟨w', h1, h2, h3⟩ := aMapUpdate_sim hv (hop m (by simp [Op.operands])) (hop k (by simp [Op.operands])) (hop v (by simp [Op.operands])) hE
    exact ⟨Go.undef, w', ρ, .inr ⟨by simp [h1], rfl⟩, VR.undef ρ, LMap.le_refl _, h2, h3⟩
  | mapEntry t m k => simp only at h ⊢; exact (aMapEntry_sim h (hop m (by simp [Op.operands])) (hop k (by simp [Op.operands])) hE).next
  | entryStore t m s v =>
    simp only at h ⊢
    obtain ⟨H', hv, rfl⟩ := map_some h
    obtain ⟨w', h1, h2, h3⟩ := aEntryStore_sim (P := P) (t := t) hv (hop m (by simp [Op.operands])) (hop s (by simp [Op.operands])) (hop v (by simp [Op.operands])) hE
    exact ⟨Go.undef, w', ρ, .inr ⟨by simp [h1], rfl⟩, VR.undef ρ, LMap.le_refl _, h2, h3⟩
  | slice t x lo hi mx =>
    cases mx with
    | some m => cases h
    | none =>
      simp only at h ⊢
      obtain ⟨v, hv, rfl⟩ := map_some h
      obtain ⟨v', h1, h2⟩ := aSlice_sim hv (hop x (by simp [Op.operands])) (vro_of lo (fun y hy => hop y (by simp only [Op.operands, Array.mem_append]; exact .inl (.inl (.inr hy)))))
        (vro_of hi (fun y hy => hop y (by simp only [Op.operands, Array.mem_append]; exact .inl (.inr hy)))) hE
      exact NextOk.same hE h1 h2
  | fieldAddr t x f =>
    simp only at h ⊢
    obtain ⟨v, hv, rfl⟩ := map_some h
    obtain ⟨v', h1, h2⟩ := aFieldAddr_sim hv (hop x (by simp [Op.operands])) w
    exact NextOk.same hE h1 h2
  | field t x f =>
    simp only at h ⊢
    obtain ⟨v, hv, rfl⟩ := map_some h
    obtain ⟨v', h1, h2⟩ := aField_sim hv (hop x (by simp [Op.operands])) w
    exact NextOk.same hE h1 h2
  | indexAddr t x i =>
    simp only at h ⊢
    obtain ⟨v, hv, rfl⟩ := map_some h
    obtain ⟨v', h1, h2⟩ := aIndexAddr_sim hv (hop x (by simp [Op.operands])) (hop i (by simp [Op.operands])) w
    exact NextOk.same hE h1 h2
  | index t x i =>
    simp only at h ⊢
    obtain ⟨v, hv, rfl⟩ := map_some h
    obtain ⟨v', h1, h2⟩ := aIndex_sim hv (hop x (by simp [Op.operands])) (hop i (by simp [Op.operands])) w
    exact NextOk.same hE h1 h2
  | extract x i =>
    simp only at h ⊢
    obtain ⟨v, hv, rfl⟩ := map_some h
    obtain ⟨v', h1, h2⟩ := aExtract_sim (P := P) hv (hop x (by simp [Op.operands])) w
    exact NextOk.same hE h1 h2
  | call c =>
    obtain ⟨callee, args, ats⟩ := c
    cases callee with
    | builtin b =>
      simp only at h ⊢
      have ha := map_vra args (fun x hx => hop x (by simp only [Op.operands, Call.operands, Array.mem_append]; exact .inr hx))
      exact aBuiltin_sim (P := P) h ha hE _
    | _ => cases h
  | _ => cases h

end Go.Proofs.YtikkokolmipppaaA

/-
  A SMALL HEAP FOR A LARGE ONE (part 20: structs of data compared, slices built of several things). Own text of this session.
-/
import Derived.Test.YtmeaeafceankkaaDoorA19
import Derived.Laws.StructEq
set_option linter.unusedVariables false
set_option linter.unusedSimpArgs false
namespace Go.Proofs.YtmeaeafceankkaaDoorA
open Go Go.RowKit

theorem val_bind {α β : Type} (P : Program) (m : Sem α) (f : α → Sem β) : Sem.val P (m >>= f) = (Sem.val P m).bind fun a => Sem.val P (f a) := by
  induction m with
  | pure x => rfl
  | program k ih => exact ih P
  | _ => rfl
theorem val_underlying {P : Program} {t : TypeId} {d : TypeDesc} (h : P.underlying t = some d) : Sem.val P (Go.underlying t) = some d := by
  show Sem.val P (do match (← program).underlying t with | some d => pure d | none => stuck "no such type") = _
  rw [val_bind]
  show Sem.val P (match P.underlying t with | some d => pure d | none => stuck "no such type") = _
  rw [h]
  rfl
theorem val_eqStruct {P : Program} {t : TypeId} {fs : Array Field} (hu : P.underlying t = some (.struct fs)) (hp : P.stoodInHeld t = false) (d : Nat) (xs ys : Array Value) :
    Sem.val P (Op.equalIn (d + 1) t (.agg xs) (.agg ys)) = Sem.val P (Op.eqFields d xs ys fs.toList) := by
  simp only [Op.equalIn]
  rw [val_bind, val_underlying hu, Option.bind_some]
  simp only []
  rw [val_bind]
  show Sem.val P (if P.stoodInHeld t = true then _ else _) = _
  simp only [hp, Bool.false_eq_true, if_false]
  rw [← Array.forIn_toList]
  generalize fs.toList = fs
  clear hu
  induction fs with
  | nil => rfl
  | cons f fs ih =>
    simp only [List.forIn_cons, Op.eqFields]
    split
    · simp only [bind_assoc, val_bind]
      cases Sem.val P (part f.type xs f.offset) with
      | none => rfl
      | some a =>
        simp only [Option.bind_some]
        cases Sem.val P (part f.type ys f.offset) with
        | none => rfl
        | some b =>
          simp only [Option.bind_some]
          cases Sem.val P (Op.equalIn d f.type a b) with
          | none => rfl
          | some r =>
            cases r
            · rfl
            · rw [val_bind] at ih
              exact ih
    · exact ih
/-- a cell of a kind -/
def fits : TypeDesc → Value → Bool
  | .int k, .int k' _ => k == k'
  | .bool, .bool _ => true
  | .string, .string _ => true
  | _, _ => false
/-- two cells are the same -/
def eqV : Value → Value → Bool
  | .int _ a, .int _ b => decide (a = b)
  | .bool a, .bool b => a == b
  | .string a, .string b => decide (a = b)
  | _, _ => false
def eqL : List Value → List Value → Bool
  | [], [] => true
  | a :: l, b :: m => eqV a b && eqL l m
  | _, _ => false
@[simp] theorem eqL_nil : eqL [] [] = true := (rfl)
@[simp] theorem eqL_cons (a b : Value) (l m : List Value) : eqL (a :: l) (b :: m) = (eqV a b && eqL l m) := (rfl)
@[simp] theorem eqV_int (k k' : IntKind) (a b : Int) : eqV (.int k a) (.int k' b) = decide (a = b) := (rfl)
@[simp] theorem eqV_bool (a b : Bool) : eqV (.bool a) (.bool b) = (a == b) := (rfl)
@[simp] theorem eqV_string (a b : ByteArray) : eqV (.string a) (.string b) = decide (a = b) := (rfl)
theorem val_eqCell {P : Program} {t : TypeId} {D : TypeDesc} (hu : P.underlying t = some D) {a b : Value} (ha : fits D a = true) (hb : fits D b = true) (d : Nat) : Sem.val P (Op.equalIn (d + 1) t a b) = some (eqV a b) := by
  unfold Op.equalIn
  rw [val_bind, val_underlying hu, Option.bind_some]
  cases D <;> cases a <;> simp [fits] at ha <;> cases b <;> simp [fits] at hb
  · rename_i x y
    cases x <;> cases y <;> rfl
  · rename_i k k1 x k2 y
    subst ha hb
    by_cases h : x = y
    · subst h; simp
    · simp [h]
  · rename_i x y
    show some (x == y) = some (decide (x = y))
    rw [beq_toListBytes]
    by_cases h : x = y
    · subst h; simp
    · have : ¬ x.toList = y.toList := by
        rw [ByteArray.toList_eq, ByteArray.toList_eq]
        intro e
        apply h
        cases x; cases y
        simpa using e
      simp [h, this]
theorem val_part {P : Program} {t : TypeId} {D : TypeDesc} (hu : P.underlying t = some D) {a : Value} (ha : fits D a = true) {cs : Array Value} {o : Nat} (h : cs[o]? = some a) : Sem.val P (part t cs o) = some a := by
  have h1 : Sem.val P (isAgg t) = some false := by
    unfold isAgg
    rw [val_bind, val_underlying hu, Option.bind_some]
    cases D <;> first | rfl | (simp [fits] at ha)
  unfold part
  rw [val_bind, h1, Option.bind_some]
  simp only [Bool.false_eq_true, if_false, h]
  rfl
/-- what a struct's fields are: one cell each, one behind another -/
def fieldsAre (P : Program) : List Field → Nat → List TypeDesc → Prop
  | [], _, [] => True
  | f :: fs, o, D :: Ds => f.name ≠ "_" ∧ f.offset = o ∧ P.underlying f.type = some D ∧ fieldsAre P fs (o + 1) Ds
  | _, _, _ => False
theorem val_eqFields {P : Program} (d : Nat) : ∀ (fs : List Field) (Ds : List TypeDesc) (xs ys : List Value) (p q : List Value), fieldsAre P fs p.length Ds → p.length = q.length → xs.length = Ds.length → ys.length = Ds.length →
    (∀ x ∈ xs.zip Ds, fits x.2 x.1 = true) → (∀ x ∈ ys.zip Ds, fits x.2 x.1 = true) → Sem.val P (Op.eqFields (d + 1) (p ++ xs).toArray (q ++ ys).toArray fs) = some (eqL xs ys)
  | [], [], [], [], _, _, _, _, _, _, _, _ => rfl
  | [], [], x :: xs, _, _, _, _, _, h, _, _, _ => by simp at h
  | [], [], [], y :: ys, _, _, _, _, _, h, _, _ => by simp at h
  | [], D :: Ds, _, _, _, _, h, _, _, _, _, _ => h.elim
  | f :: fs, [], _, _, _, _, h, _, _, _, _, _ => h.elim
  | f :: fs, D :: Ds, [], _, _, _, _, _, h, _, _, _ => by simp at h
  | f :: fs, D :: Ds, x :: xs, [], _, _, _, _, _, h, _, _ => by simp at h
  | f :: fs, D :: Ds, x :: xs, y :: ys, p, q, h, hpq, hx, hy, hfx, hfy => by
    obtain ⟨h1, h2, h3, h4⟩ := h
    have fx := hfx (x, D) (by simp)
    have fy := hfy (y, D) (by simp)
    have ih := val_eqFields d fs Ds xs ys (p ++ [x]) (q ++ [y]) (by simpa using h4) (by simp [hpq]) (by simpa using hx) (by simpa using hy) (fun z hz => hfx z (by simp [hz])) (fun z hz => hfy z (by simp [hz]))
    simp only [List.append_assoc, List.singleton_append] at ih
    unfold Op.eqFields
    rw [if_pos h1, val_bind, h2, val_part h3 fx (by simp), Option.bind_some, val_bind, val_part h3 fy (by simp [hpq]), Option.bind_some, val_bind, val_eqCell h3 fx fy, Option.bind_some]
    cases e : eqV x y with
    | true => simpa [e] using ih
    | false => simp [e]
theorem aBin_eqStruct {P : Program} {t : TypeId} {fs : Array Field} (hu : P.underlying t = some (.struct fs)) (hp : P.stoodInHeld t = false) (hg : P.eqGuardType P.depth t = false) (Ds : List TypeDesc) (hf : fieldsAre P fs.toList 0 Ds)
    (xs ys : List Value) (hx : xs.length = Ds.length) (hy : ys.length = Ds.length) (hfx : ∀ x ∈ xs.zip Ds, fits x.2 x.1 = true) (hfy : ∀ x ∈ ys.zip Ds, fits x.2 x.1 = true) (px : plain (.agg xs.toArray) = true) (py : plain (.agg ys.toArray) = true) (ox oy : Operand) :
    aBin P .eql t ox oy (.agg xs.toArray) (.agg ys.toArray) = some (.bool (eqL xs ys)) ∧ aBin P .neq t ox oy (.agg xs.toArray) (.agg ys.toArray) = some (.bool (!eqL xs ys)) := by
  have hn : ∀ op, aNil P op t (.agg xs.toArray) (.agg ys.toArray) = none := by
    intro op
    unfold aNil
    split <;> (try split) <;> rfl
  have hv : Sem.val P (Op.equalIn 10000 t (.agg xs.toArray) (.agg ys.toArray)) = some (eqL xs ys) := by
    rw [val_eqStruct hu hp 9999]
    have := val_eqFields (P := P) 9998 fs.toList Ds xs ys [] [] hf rfl hx hy hfx hfy
    simpa using this
  have hgu : ∀ op, Sem.val P (eqGuard op t ox oy (.agg xs.toArray) (.agg ys.toArray)) = some () := by
    intro op
    have h1 : Sem.val P (do if !(← program).eqGuardType (← program).depth t then return ()
                            if ← Op.eqGuardIn Op.maxDepth t (.agg xs.toArray) (.agg ys.toArray) then unsupported (.noEntry "binop/eql: two nil values of an interface type with methods, in a part of a struct or an array")) = some () := by
      rw [val_bind]
      show Sem.val P _ = _
      rw [val_bind]
      show Sem.val P (if (!P.eqGuardType P.depth t) = true then _ else _) = _
      rw [hg]
      rfl
    cases op <;> first | rfl | exact h1
  constructor
  · rw [aBin_data t ox oy .eql (hn _) px py, val_bind, hgu, Option.bind_some]
    show Sem.val P (Op.equalIn 10000 t (.agg xs.toArray) (.agg ys.toArray) >>= fun r => pure (Value.bool r)) = _
    rw [val_bind, hv]
    rfl
  · rw [aBin_data t ox oy .neq (hn _) px py, val_bind, hgu, Option.bind_some]
    show Sem.val P (Op.equalIn 10000 t (.agg xs.toArray) (.agg ys.toArray) >>= fun r => pure (Value.bool !r)) = _
    rw [val_bind, hv]
    simp

def sameD : TypeDesc → TypeDesc → Bool
  | .int k, .int k' => k == k'
  | .bool, .bool => true
  | .string, .string => true
  | _, _ => false
theorem sameD_eq {D E : TypeDesc} (h : sameD D E = true) : D = E := by
  cases D <;> cases E <;> simp [sameD] at h <;> first | rfl | (rw [h])
def fieldsB (P : Program) : List Field → Nat → List TypeDesc → Bool
  | [], _, [] => true
  | f :: fs, o, D :: Ds => f.name != "_" && f.offset == o && (match P.underlying f.type with | some E => sameD E D | none => false) && fieldsB P fs (o + 1) Ds
  | _, _, _ => false
theorem fieldsB_are {P : Program} : ∀ (fs : List Field) (o : Nat) (Ds : List TypeDesc), fieldsB P fs o Ds = true → fieldsAre P fs o Ds
  | [], _, [], _ => trivial
  | [], _, _ :: _, h => by simp [fieldsB] at h
  | _ :: _, _, [], h => by simp [fieldsB] at h
  | f :: fs, o, D :: Ds, h => by
    simp only [fieldsB, Bool.and_eq_true, bne_iff_ne, beq_iff_eq] at h
    obtain ⟨⟨⟨h1, h2⟩, h3⟩, h4⟩ := h
    refine ⟨h1, h2, ?_, fieldsB_are fs (o + 1) Ds h4⟩
    split at h3
    · rename_i E hE
      rw [hE, sameD_eq h3]
    · cases h3
def fitsL : List TypeDesc → List Value → Bool
  | [], [] => true
  | D :: Ds, v :: vs => fits D v && fitsL Ds vs
  | _, _ => false
theorem fits_plain {D : TypeDesc} {v : Value} (h : fits D v = true) : plain1 v = true := by
  cases D <;> cases v <;> simp [fits] at h <;> rfl
theorem fitsL_all : ∀ {Ds : List TypeDesc} {vs : List Value}, fitsL Ds vs = true → vs.length = Ds.length ∧ (∀ x ∈ vs.zip Ds, fits x.2 x.1 = true) ∧ ∀ v ∈ vs, plain1 v = true
  | [], [], _ => by simp
  | [], _ :: _, h => by simp [fitsL] at h
  | _ :: _, [], h => by simp [fitsL] at h
  | D :: Ds, v :: vs, h => by
    simp only [fitsL, Bool.and_eq_true] at h
    obtain ⟨h1, h2, h3⟩ := fitsL_all h.2
    refine ⟨by simp [h1], ?_, ?_⟩
    · intro x hx
      rcases List.mem_cons.1 hx with rfl | hx
      · exact h.1
      · exact h2 x hx
    · intro x hx
      rcases List.mem_cons.1 hx with rfl | hx
      · exact fits_plain h.1
      · exact h3 x hx
def structB (P : Program) (t : TypeId) (Ds : List TypeDesc) : Bool := match P.underlying t with
  | some (.struct fs) => !P.stoodInHeld t && !P.eqGuardType P.depth t && fieldsB P fs.toList 0 Ds
  | _ => false
theorem aBin_struct {P : Program} {t : TypeId} {Ds : List TypeDesc} (h : structB P t Ds = true) (xs ys : List Value) (hx : fitsL Ds xs = true) (hy : fitsL Ds ys = true) (ox oy : Operand) :
    aBin P .eql t ox oy (.agg xs.toArray) (.agg ys.toArray) = some (.bool (eqL xs ys)) ∧ aBin P .neq t ox oy (.agg xs.toArray) (.agg ys.toArray) = some (.bool (!eqL xs ys)) := by
  unfold structB at h
  split at h
  · rename_i fs hu
    simp only [Bool.and_eq_true, Bool.not_eq_true'] at h
    obtain ⟨x1, x2, x3⟩ := fitsL_all hx
    obtain ⟨y1, y2, y3⟩ := fitsL_all hy
    exact aBin_eqStruct hu h.1.1 h.1.2 Ds (fieldsB_are _ _ _ h.2) xs ys x1 y1 x2 y2 (by simpa [YtmeaeafceankkaaDoorA.plain] using x3) (by simpa [YtmeaeafceankkaaDoorA.plain] using y3) ox oy
  · cases h

/-! ### Slices built of several things -/
theorem setAll_all : ∀ (vs cs : List Value), cs.length = vs.length → setAll cs 0 vs = vs := by
  have h : ∀ (vs p cs : List Value), cs.length = vs.length → setAll (p ++ cs) p.length vs = p ++ vs := by
    intro vs
    induction vs with
    | nil => intro p cs h; have : cs = [] := List.length_eq_zero_iff.1 (by simpa using h); simp [setAll, this]
    | cons v vs ih =>
      intro p cs h
      cases cs with
      | nil => simp at h
      | cons c cs =>
        have := ih (p ++ [v]) cs (by simpa using h)
        simp only [setAll]
        rw [List.set_append_right _ _ (Nat.le_refl _)]
        simpa using this
  intro vs cs hl
  simpa using h vs [] cs hl
/-- things of one cell each, put into a row one behind another -/
theorem afill_all (z : Value) : ∀ (vs p : List Value) (n : Nat), (∀ v ∈ vs, isCell v = true) → n = vs.length → afill (fun i => some (i * 1, 1)) (p ++ List.replicate n z) ((vs.zipIdx p.length).map fun x => (x.2, x.1)) = some (p ++ vs)
  | [], p, n, _, hn => by subst hn; simp [afill]
  | v :: vs, p, n, hv, hn => by
    subst hn
    have h1 := hv v (by simp)
    have ih := afill_all z vs (p ++ [v]) vs.length (fun x hx => hv x (by simp [hx])) rfl
    rw [List.zipIdx_cons, List.map_cons, afill]
    simp only [cells_isCell h1, Nat.mul_one]
    have h2 : (#[v] : Array Value).size = 1 ∧ p.length + (#[v] : Array Value).size ≤ (p ++ List.replicate (v :: vs).length z).length := by simp
    rw [if_pos h2]
    have h3 : setAll (p ++ List.replicate (v :: vs).length z) p.length #[v].toList = (p ++ [v]) ++ List.replicate vs.length z := by
      simp only [setAll, List.length_cons, List.replicate_succ]
      rw [List.set_append_right _ _ (Nat.le_refl _)]
      simp
    rw [h3]
    simpa using ih
theorem aBuildSliceN {P : Program} {t e : TypeId} {z : Value} (h : P.underlying t = some (.slice e)) (hs : sz P e = some 1) (hz : zeroOf P e = some [z]) (vs : List Value) (hv : ∀ v ∈ vs, isCell v = true) (hl : vs.length ≤ 16777216) (H : AH) :
    aBuildSlice P t vs.length (vs.zipIdx.map fun x => (x.2, x.1)) H = some (.slice (some ⟨H.next, 0, none⟩) vs.length vs.length, ⟨H.next + 1, upd H.get H.next (.cells vs e true 1)⟩) := by
  have h1 : rowZeros [z] (vs.length * 1) = List.replicate vs.length z := by
    rw [Nat.mul_one]
    refine List.ext_getElem (by simp [rowZeros]) fun i h1 h2 => ?_
    simp [rowZeros, Nat.mod_one]
  have h2 := afill_all z vs [] vs.length hv rfl
  simp only [List.nil_append, List.length_nil] at h2
  simp only [aBuildSlice, h, hs, hz, h1, Nat.mul_one]
  rw [if_pos hl]
  have h3 : afill (fun i => some (i, 1)) (List.replicate vs.length z) (vs.zipIdx.map fun x => (x.2, x.1)) = some vs := by simpa using h2
  rw [Nat.mul_one] at h1
  rw [h1, h3]
  rfl
end Go.Proofs.YtmeaeafceankkaaDoorA

/-
  A SMALL HEAP FOR A LARGE ONE (part 7: a region whose order Go leaves open, walked in the order of the text). Own text of this session.
-/
import Derived.Test.YtikkokolmipppaaA6
set_option linter.unusedVariables false
set_option linter.unusedSimpArgs false
namespace Go.Proofs.YtikkokolmipppaaA
open Go Go.RowKit

/-! ### 1. What must come ahead of what -/
inductive Anc (ops : Array Oper) : Nat → Nat → Prop
  | step (j : Nat) (o : Oper) (e : Edge) (ho : ops[j]? = some o) (he : e ∈ o.after) (hb : Region.binds .any e = true) : Anc ops j e.on
  | trans (j i : Nat) (o : Oper) (e : Edge) (ho : ops[j]? = some o) (he : e ∈ o.after) (hb : Region.binds .any e = true) (h : Anc ops e.on i) : Anc ops j i

def bstep (acc : Array Nat) (s : Nat) (e : Edge) : Nat := if Region.binds .any e then s ||| 2 ^ e.on ||| acc.getD e.on 0 else s
theorem bstep_fold (acc : Array Nat) : ∀ (l : List Edge) (s i : Nat), (l.foldl (bstep acc) s).testBit i = true → s.testBit i = true ∨ ∃ e ∈ l, Region.binds .any e = true ∧ (i = e.on ∨ (acc.getD e.on 0).testBit i = true)
  | [], s, i, h => .inl h
  | e :: l, s, i, h => by
    rw [List.foldl_cons] at h
    rcases bstep_fold acc l _ i h with h1 | ⟨e', he', h2⟩
    · unfold bstep at h1
      split at h1
      · rename_i hb
        rw [Nat.testBit_or, Nat.testBit_or, Bool.or_eq_true, Bool.or_eq_true] at h1
        rcases h1 with (h1 | h1) | h1
        · exact .inl h1
        · refine .inr ⟨e, List.mem_cons_self, hb, .inl ?_⟩
          rw [Nat.testBit_two_pow] at h1
          simpa using (of_decide_eq_true h1).symm
        · exact .inr ⟨e, List.mem_cons_self, hb, .inr h1⟩
      · exact .inl h1
    · exact .inr ⟨e', List.mem_cons_of_mem _ he', h2⟩
theorem before_fold (ops : Array Oper) : ∀ (l pre : List Oper) (acc : Array Nat), pre ++ l = ops.toList → acc.size = pre.length → (∀ j i, (acc.getD j 0).testBit i = true → Anc ops j i) →
    ∀ j i, ((l.foldl (fun acc o => acc.push (o.after.toList.foldl (bstep acc) 0)) acc).getD j 0).testBit i = true → Anc ops j i
  | [], pre, acc, hp, hs, h => h
  | o :: l, pre, acc, hp, hs, h => by
    rw [List.foldl_cons]
    refine before_fold ops l (pre ++ [o]) _ (by rw [List.append_assoc]; exact hp) (by simp [hs]) ?_
    intro j i hj
    simp only [Array.getD_eq_getD_getElem?, Array.getElem?_push] at hj
    split at hj
    · rename_i hje
      rw [Option.getD_some] at hj
      have ho : ops[j]? = some o := by
        have : ops.toList[j]? = some o := by
          rw [← hp, hje, hs, List.getElem?_append_right (Nat.le_refl _)]
          simp
        simpa using this
      rcases bstep_fold acc _ 0 i hj with h1 | ⟨e, he, hb, h2⟩
      · simp at h1
      · have he' : e ∈ o.after := by simpa using he
        rcases h2 with rfl | h2
        · exact .step j o e ho he' hb
        · exact .trans j i o e ho he' hb (h _ _ h2)
    · exact h j i (by rw [Array.getD_eq_getD_getElem?]; exact hj)
theorem before_anc (ops : Array Oper) (j i : Nat) (h : ((Region.before ops).getD j 0).testBit i = true) : Anc ops j i := by
  have e : Region.before ops = ops.toList.foldl (fun acc o => acc.push (o.after.toList.foldl (bstep acc) 0)) #[] := by
    unfold Region.before
    rw [← Array.foldl_toList]
    congr 1
    funext acc o
    rw [← Array.foldl_toList]
    rfl
  rw [e] at h
  exact before_fold ops ops.toList [] #[] rfl rfl (fun j i h => by simp at h) j i h

/-! ### 2. What is asked of a region's text -/
/-- operations that change memory, or call -/
def isM : Op → Bool
  | .store .. | .alloc _ | .box .. | .buildSlice .. | .makeSlice .. | .makeMap .. | .mapUpdate .. | .insert .. | .mapEntry .. | .entryStore .. => true
  | .call c => match c.callee with
    | .builtin .len | .builtin .min | .builtin .max => false
    | _ => true
  | .convert src dst _ => isStrB src dst
  | _ => false
/-- operations that look into memory -/
def isR : Op → Bool
  | .load .. | .slice .. | .convert .. | .lookup .. => true
  | .call c => match c.callee with
    | .builtin .len => c.argTypes.toList.any fun t => mapTs.contains t
    | _ => false
  | _ => false
def namesOf (ops : Array Oper) (o : Oper) : List Tmp := o.dst.toList ++ o.looksAt ops
def clash (ops : Array Oper) (x y : Oper) : Bool :=
  (match x.dst with | some d => (namesOf ops y).contains d | none => false) || (match y.dst with | some d => (namesOf ops x).contains d | none => false)
def pairOk (ops : Array Oper) (b : Array Nat) (i j : Nat) : Bool :=
  match ops[i]?, ops[j]? with
  | some x, some y => (b.getD j 0).testBit i || !((isM x.op && isM y.op) || clash ops x y)
  | _, _ => true
def regOk (ops : Array Oper) : Bool :=
  ((List.range ops.size).all fun j => match ops[j]? with | some o => o.after.all fun e => !Region.binds .any e || decide (e.on < j) | none => true) &&
  (List.range ops.size).all fun j => (List.range j).all fun i => pairOk ops (Region.before ops) i j
theorem regOk_edge {ops : Array Oper} (h : regOk ops = true) {j : Nat} {o : Oper} (ho : ops[j]? = some o) {e : Edge} (he : e ∈ o.after) (hb : Region.binds .any e = true) : e.on < j := by
  unfold regOk at h
  rw [Bool.and_eq_true] at h
  have hj : j < ops.size := (Array.getElem?_eq_some_iff.1 ho).1
  have := List.all_eq_true.1 h.1 j (List.mem_range.2 hj)
  rw [ho] at this
  simp only [Array.all_eq_true_iff_forall_mem] at this
  have := this e he
  simpa [hb] using this
theorem regOk_pair {ops : Array Oper} (h : regOk ops = true) {i j : Nat} (hij : i < j) {x y : Oper} (hx : ops[i]? = some x) (hy : ops[j]? = some y) (hc : ((isM x.op && isM y.op) || clash ops x y) = true) : Anc ops j i := by
  unfold regOk at h
  rw [Bool.and_eq_true] at h
  have hj : j < ops.size := (Array.getElem?_eq_some_iff.1 hy).1
  have := List.all_eq_true.1 (List.all_eq_true.1 h.2 j (List.mem_range.2 hj)) i (List.mem_range.2 hij)
  simp only [pairOk, hx, hy, hc, Bool.not_true, Bool.or_false] at this
  exact before_anc ops j i this
theorem Anc.lt {ops : Array Oper} (h : regOk ops = true) {j i : Nat} (ha : Anc ops j i) : i < j := by
  induction ha with
  | step j o e ho he hb => exact regOk_edge h ho he hb
  | trans j i o e ho he hb _ ih => exact Nat.lt_trans ih (regOk_edge h ho he hb)

/-! ### 3. One operation, and the whole region -/
def put (env : Env) (nt : Nat) (dst : Option Tmp) (v : Value) : Env :=
  match dst with
  | some d => fun t => if t = d ∧ d < nt then v else env t
  | none => env
theorem put_none (env : Env) (nt : Nat) (v : Value) : put env nt none v = env := rfl
theorem put_some (env : Env) (nt : Nat) (d : Tmp) (v : Value) (t : Nat) : put env nt (some d) v t = if t = d ∧ d < nt then v else env t := rfl
theorem put_of_ne {env : Env} {nt : Nat} {dst : Option Tmp} {v : Value} {t : Nat} (h : dst ≠ some t) : put env nt dst v t = env t := by
  cases dst with
  | none => rfl
  | some d =>
    have : t ≠ d := fun e => h (by rw [e])
    simp [put, this]
theorem EnvR.put {ρ : LMap} {env : Env} {nt : Nat} {a : Act} (h : EnvR ρ env nt a.tmps) (dst : Option Tmp) {v v' : Value} (hv : VR ρ v v') : EnvR ρ (put env nt dst v) nt (a.put dst v').tmps := by
  cases dst with
  | none => exact h
  | some d =>
    refine ⟨by simp [Act.put, h.1], fun t => ?_⟩
    simp only [Act.put, YtikkokolmipppaaA.put, Array.getD_eq_getD_getElem?, Array.getElem?_setIfInBounds]
    by_cases e : t = d
    · subst e
      by_cases hd : t < nt
      · have hd' : t < a.tmps.size := by rw [h.1]; exact hd
        rw [if_pos ⟨rfl, hd⟩, if_pos rfl, if_pos hd']
        exact hv
      · have hd' : ¬ t < a.tmps.size := by rw [h.1]; exact hd
        rw [if_neg (fun x => hd x.2), if_pos rfl, if_neg hd']
        have := h.2 t
        simp only [Array.getD_eq_getD_getElem?] at this
        rw [Array.getElem?_eq_none (by omega)] at this
        exact this
    · rw [if_neg (fun x => e x.1), if_neg (fun x => e x.symm)]
      have := h.2 t
      simpa only [Array.getD_eq_getD_getElem?] using this
theorem Act.put_defers' (a : Act) (dst : Option Tmp) (v : Value) : (a.put dst v).defers = a.defers := by cases dst <;> rfl

/-- One operation, from wherever its operands are the same. -/
def OpS (G : Nat → Bool) (F : Fence) (n : Nat) (P : Program) (B nt : Nat) (ops : Array Oper) (i : Nat) (o : Oper) (env : Env) (H : AH) (v : Value) (H' : AH) : Prop :=
  ∀ (env2 : Env), (∀ t ∈ o.looksAt ops, env2 t = env t) → ∀ (ρ : LMap) (a : Act) (w : World), GlobOk G ρ → EnvR ρ env2 nt a.tmps → Emb ρ B H w →
    ∀ (Q : Exit → Act → World → Prop) (K : Act → World → Prop), (∀ ρ' v' w', ρ.le ρ' → VR ρ' v v' → Emb ρ' B H' w' → Below B w w' → K (a.put o.dst v') w') → wpOpIn F n P ops Q i K a w

structure Trace (G : Nat → Bool) (F : Fence) (n : Nat) (P : Program) (B nt : Nat) (ops : Array Oper) (env : Nat → Env) (H : Nat → AH) (v : Nat → Value) : Prop where
  ev : ∀ i o, ops[i]? = some o → env (i + 1) = put (env i) nt o.dst (v i)
  op : ∀ i o, ops[i]? = some o → OpS G F n P B nt ops i o (env i) (H i) (v i) (H (i + 1))
  calm : ∀ i o, ops[i]? = some o → isM o.op = false → H (i + 1) = H i
  up : ∀ r m o q, ops[r]? = some o → ops[m]? = some q → isM o.op = false → isM q.op = true → r < m → ¬ Anc ops m r → OpS G F n P B nt ops r o (env r) (H (m + 1)) (v r) (H (m + 1))
  down : ∀ r m o q, ops[r]? = some o → ops[m]? = some q → isM o.op = false → isM q.op = true → m < r → ¬ Anc ops r m → OpS G F n P B nt ops r o (env r) (H m) (v r) (H m)

section
variable {G : Nat → Bool} {F : Fence} {n : Nat} {P : Program} {B nt : Nat} {ops : Array Oper} {env : Nat → Env} {H : Nat → AH} {v : Nat → Value}
def Lst (listed : Array Bool) (i : Nat) : Prop := listed.getD i false = true
instance (listed : Array Bool) (i : Nat) : Decidable (Lst listed i) := by unfold Lst; infer_instance
/-- the temporaries where just what is listed has been done -/
def envAt (nt : Nat) (ops : Array Oper) (env : Nat → Env) (v : Nat → Value) (listed : Array Bool) : Nat → Env
  | 0 => env 0
  | k + 1 => match ops[k]? with
    | some o => if Lst listed k then put (envAt nt ops env v listed k) nt o.dst (v k) else envAt nt ops env v listed k
    | none => envAt nt ops env v listed k

def Down (ops : Array Oper) (listed : Array Bool) : Prop := ∀ j o e, Lst listed j → ops[j]? = some o → e ∈ o.after → Region.binds .any e = true → Lst listed e.on
theorem Down.anc {listed : Array Bool} (h : Down ops listed) {j i : Nat} (ha : Anc ops j i) (hj : Lst listed j) : Lst listed i := by
  induction ha with
  | step j o e ho he hb => exact h j o e hj ho he hb
  | trans j i o e ho he hb _ ih => exact ih (h j o e hj ho he hb)
def Ready (ops : Array Oper) (listed : Array Bool) (j : Nat) : Prop := listed.getD j true = false ∧ ∃ o, ops[j]? = some o ∧ ∀ e ∈ o.after, Region.binds .any e = true → Lst listed e.on
theorem Ready.not {listed : Array Bool} {j : Nat} (h : Ready ops listed j) : ¬ Lst listed j := by
  intro hl
  have := h.1
  unfold Lst at hl
  simp only [Array.getD_eq_getD_getElem?] at this hl
  cases hx : listed[j]? with
  | none => rw [hx] at this; simp at this
  | some b => rw [hx] at this hl; simp at this hl; rw [this] at hl; cases hl
theorem Ready.anc {listed : Array Bool} (hd : Down ops listed) {j i : Nat} (h : Ready ops listed j) (ha : Anc ops j i) : Lst listed i := by
  obtain ⟨_, o, ho, hr⟩ := h
  cases ha with
  | step j o' e ho' he hb => rw [ho] at ho'; cases ho'; exact hr e he hb
  | trans j i o' e ho' he hb h' => rw [ho] at ho'; cases ho'; exact hd.anc h' (hr e he hb)

theorem clash_l {x y : Oper} {t : Tmp} (hx : x.dst = some t) (hy : t ∈ namesOf ops y) : clash ops x y = true := by
  simp [clash, hx]
  exact .inl hy
theorem clash_r {x y : Oper} {t : Tmp} (hy : y.dst = some t) (hx : t ∈ namesOf ops x) : clash ops x y = true := by
  simp [clash, hy]
  exact .inr hx

theorem envAt_ready (T : Trace G F n P B nt ops env H v) (hr : regOk ops = true) {listed : Array Bool} (hd : Down ops listed) {j : Nat} {o : Oper} (hj : Ready ops listed j) (ho : ops[j]? = some o) {t : Nat} (ht : t ∈ namesOf ops o) (htl : t ∈ o.looksAt ops) :
    ∀ k, envAt nt ops env v listed k t = env (min k j) t := by
  intro k
  induction k with
  | zero => simp [envAt]
  | succ k ih =>
    simp only [envAt]
    cases hk : ops[k]? with
    | none =>
      have : j < k := by
        have := (Array.getElem?_eq_some_iff.1 ho).1
        rw [Array.getElem?_eq_none_iff] at hk
        omega
      simp only
      rw [ih, Nat.min_eq_right (by omega), Nat.min_eq_right (by omega)]
    | some x =>
      simp only
      by_cases hkj : k < j
      · have e1 : min (k + 1) j = k + 1 := by omega
        have e2 : min k j = k := by omega
        rw [e1, T.ev k x hk]
        rw [e2] at ih
        by_cases hl : Lst listed k
        · rw [if_pos hl]
          cases hxd : x.dst with
          | none => exact ih
          | some d =>
            simp only [put]
            by_cases hc : t = d ∧ d < nt
            · rw [if_pos hc, if_pos hc]
            · rw [if_neg hc, if_neg hc]; exact ih
        · rw [if_neg hl]
          rw [put_of_ne (fun e => hl (hj.anc hd (regOk_pair hr hkj hk ho (by rw [clash_l e ht]; simp))))]
          exact ih
      · have e1 : min (k + 1) j = j := by omega
        have e2 : min k j = j := by omega
        rw [e1]
        rw [e2] at ih
        by_cases hl : Lst listed k
        · rw [if_pos hl]
          have hne : k ≠ j := fun e => hj.not (e ▸ hl)
          rw [put_of_ne (fun e => hj.not (hd.anc (regOk_pair hr (by omega) ho hk (by rw [clash_r e ht]; simp)) hl))]
          exact ih
        · rw [if_neg hl]; exact ih

theorem Lst_set {listed : Array Bool} {j i : Nat} (hj : j < listed.size) : Lst (listed.setIfInBounds j true) i ↔ i = j ∨ Lst listed i := by
  unfold Lst
  by_cases e : i = j
  · subst e
    simp [Array.getD_eq_getD_getElem?, Array.getElem?_setIfInBounds, hj]
  · rw [getD_set_ne false (fun x => e x.symm)]
    simp [e]

theorem envAt_put (hr : regOk ops = true) {listed : Array Bool} (hd : Down ops listed) {j : Nat} {o : Oper} (hj : Ready ops listed j) (ho : ops[j]? = some o) (hsz : j < listed.size) :
    ∀ k, envAt nt ops env v (listed.setIfInBounds j true) k = if k ≤ j then envAt nt ops env v listed k else put (envAt nt ops env v listed k) nt o.dst (v j) := by
  intro k
  induction k with
  | zero => simp [envAt]
  | succ k ih =>
    simp only [envAt]
    cases hk : ops[k]? with
    | none =>
      simp only
      have : j < k := by
        have := (Array.getElem?_eq_some_iff.1 ho).1
        rw [Array.getElem?_eq_none_iff] at hk
        omega
      rw [ih, if_neg (by omega), if_neg (by omega)]
    | some x =>
      simp only
      by_cases hkj : k = j
      · subst hkj
        rw [ho] at hk
        cases hk
        rw [if_pos ((Lst_set hsz).2 (.inl rfl)), if_neg hj.not, if_neg (by omega)]
        rw [ih, if_pos (Nat.le_refl _)]
      · have hiff : Lst (listed.setIfInBounds j true) k ↔ Lst listed k := by rw [Lst_set hsz]; simp [hkj]
        by_cases hl : Lst listed k
        · rw [if_pos (hiff.2 hl), if_pos hl, ih]
          by_cases hlt : k ≤ j
          · rw [if_pos hlt, if_pos (by omega)]
          · rw [if_neg hlt, if_neg (by omega)]
            -- two stores into temporaries of different names
            have hne : ∀ t, x.dst = some t → o.dst = some t → False := fun t h1 h2 =>
              hj.not (hd.anc (regOk_pair hr (by omega) ho hk (by rw [clash_l h2 (show t ∈ namesOf ops x by simp [namesOf, h1])]; simp)) hl)
            funext t
            by_cases h1 : x.dst = some t
            · have h2 : o.dst ≠ some t := fun e => hne t h1 e
              rw [put_of_ne h2, h1, put_some, put_some, put_of_ne h2]
            · rw [put_of_ne h1]
              cases hod : o.dst with
              | none => rw [put_none, put_none, put_of_ne h1]
              | some d => rw [put_some, put_some, put_of_ne h1]
        · rw [if_neg (fun h => hl (hiff.1 h)), if_neg hl, ih]
          by_cases hlt : k ≤ j
          · rw [if_pos hlt, if_pos (by omega)]
          · rw [if_neg hlt, if_neg (by omega)]
/-- how many of the first k are not listed -/
def unl (listed : Array Bool) : Nat → Nat
  | 0 => 0
  | k + 1 => unl listed k + if Lst listed k then 0 else 1
theorem unl_set {listed : Array Bool} {j : Nat} (hj : j < listed.size) (hn : ¬ Lst listed j) : ∀ k, unl (listed.setIfInBounds j true) k + (if j < k then 1 else 0) = unl listed k := by
  intro k
  induction k with
  | zero => simp [unl]
  | succ k ih =>
    simp only [unl]
    by_cases e : k = j
    · subst e
      rw [if_pos ((Lst_set hj).2 (.inl rfl)), if_neg hn, if_pos (by omega)]
      rw [if_neg (by omega)] at ih
      omega
    · have hiff : Lst (listed.setIfInBounds j true) k ↔ Lst listed k := by rw [Lst_set hj]; simp [e]
      by_cases hl : Lst listed k
      · rw [if_pos (hiff.2 hl), if_pos hl]
        by_cases hjk : j < k
        · rw [if_pos hjk] at ih; rw [if_pos (by omega)]; omega
        · rw [if_neg hjk] at ih; rw [if_neg (by omega)]; omega
      · rw [if_neg (fun h => hl (hiff.1 h)), if_neg hl]
        by_cases hjk : j < k
        · rw [if_pos hjk] at ih; rw [if_pos (by omega)]; omega
        · rw [if_neg hjk] at ih; rw [if_neg (by omega)]; omega
theorem unl_zero {listed : Array Bool} : ∀ k, unl listed k = 0 → ∀ i, i < k → Lst listed i
  | 0, _, i, hi => by omega
  | k + 1, h, i, hi => by
    simp only [unl] at h
    by_cases hl : Lst listed k
    · rw [if_pos hl] at h
      rcases Nat.lt_or_ge i k with h1 | h1
      · exact unl_zero k (by omega) i h1
      · obtain rfl : i = k := by omega
        exact hl
    · rw [if_neg hl] at h
      omega
theorem least {p : Nat → Prop} (h : ∃ m, p m) : ∃ m, p m ∧ ∀ k, k < m → ¬ p k := by
  obtain ⟨m, hm⟩ := h
  induction m using Nat.strongRecOn with
  | _ m ih =>
    by_cases hx : ∃ k, k < m ∧ p k
    · obtain ⟨k, hk, hp⟩ := hx
      exact ih k hk hp
    · exact ⟨m, hm, fun k hk hp => hx ⟨k, hk, hp⟩⟩
theorem greatest {p : Nat → Prop} (b : Nat) (hb : ∀ m, p m → m < b) (h : ∃ m, p m) : ∃ m, p m ∧ ∀ k, m < k → ¬ p k := by
  obtain ⟨d, ⟨m, hm, hd⟩, hl⟩ := least (p := fun d => ∃ m, p m ∧ d = b - m) (let ⟨m, hm⟩ := h; ⟨b - m, m, hm, rfl⟩)
  refine ⟨m, hm, fun k hk hp => ?_⟩
  have := hb k hp
  exact hl (b - k) (by omega) ⟨k, hp, rfl⟩
theorem Trace.flat (T : Trace G F n P B nt ops env H v) (x : Nat) : ∀ y, x ≤ y → y ≤ ops.size → (∀ m q, x ≤ m → m < y → ops[m]? = some q → isM q.op = false) → H y = H x := by
  intro y
  induction y with
  | zero =>
    intro hx _ _
    obtain rfl : x = 0 := by omega
    rfl
  | succ y ih =>
    intro hx hy hm
    rcases Nat.lt_or_ge x (y + 1) with h | h
    · have hlt : y < ops.size := by omega
      rw [T.calm y ops[y] (Array.getElem?_eq_getElem hlt) (hm y _ (by omega) (by omega) (Array.getElem?_eq_getElem hlt))]
      exact ih (by omega) (by omega) (fun m q h1 h2 => hm m q h1 (by omega))
    · obtain rfl : x = y + 1 := by omega
      rfl

theorem region_done (T : Trace G F n P B nt ops env H v) {Q : Exit → Act → World → Prop} {listed : Array Bool} {M : Nat} {ρ : LMap} {a : Act} {w : World}
    (hM : ∀ m q, ops[m]? = some q → isM q.op = true → (Lst listed m ↔ m < M)) (hMn : M ≤ ops.size) (hE : EnvR ρ (envAt nt ops env v listed ops.size) nt a.tmps) (hH : Emb ρ B (H M) w)
    (hQ : ∀ ρ' a' w', ρ.le ρ' → EnvR ρ' (env ops.size) nt a'.tmps → Emb ρ' B (H ops.size) w' → a'.defers = a.defers → Below B w w' → Q .normal a' w') (hall : ∀ i, i < ops.size → Lst listed i) : Q .normal a w := by
  have e1 : ∀ k, k ≤ ops.size → envAt nt ops env v listed k = env k := by
    intro k
    induction k with
    | zero => intro _; rfl
    | succ k ihk =>
      intro hk
      have hlt : k < ops.size := by omega
      simp only [envAt, Array.getElem?_eq_getElem hlt, if_pos (hall k hlt)]
      rw [ihk (by omega), T.ev k ops[k] (Array.getElem?_eq_getElem hlt)]
  rw [e1 _ (Nat.le_refl _)] at hE
  have e2 : H ops.size = H M := T.flat M ops.size hMn (Nat.le_refl _) (fun m q h1 h2 h3 => by
    cases hq : isM q.op with
    | false => rfl
    | true => have := (hM m q h3 hq).1 (hall m h2); omega)
  rw [← e2] at hH
  exact hQ ρ a w (LMap.le_refl _) hE hH rfl (Below.refl _ _)

theorem region_trace (T : Trace G F n P B nt ops env H v) (hr : regOk ops = true) {Q : Exit → Act → World → Prop} : ∀ (fuel : Nat) (listed : Array Bool) (M : Nat) (ρ : LMap) (a : Act) (w : World), listed.size = ops.size → Down ops listed → unl listed ops.size ≤ fuel →
    (∀ m q, ops[m]? = some q → isM q.op = true → (Lst listed m ↔ m < M)) → M ≤ ops.size → GlobOk G ρ → EnvR ρ (envAt nt ops env v listed ops.size) nt a.tmps → Emb ρ B (H M) w →
    (∀ ρ' a' w', ρ.le ρ' → EnvR ρ' (env ops.size) nt a'.tmps → Emb ρ' B (H ops.size) w' → a'.defers = a.defers → Below B w w' → Q .normal a' w') → wpAnyIn F n P .any ops Q fuel listed a w := by
  intro fuel
  induction fuel with
  | zero =>
    intro listed M ρ a w hsz hd hu hM hMn hG hE hH hQ
    have hall := unl_zero (listed := listed) ops.size (by omega)
    refine ⟨?_, ?_⟩
    · cases hrd : Region.ready .any ops listed with
      | nil => rfl
      | cons j l =>
        have hj : j ∈ Region.ready .any ops listed := by rw [hrd]; exact List.mem_cons_self
        have hj' : Ready ops listed j := mem_ready.1 hj
        obtain ⟨_, o, ho, _⟩ := hj'
        exact absurd (hall j (Array.getElem?_eq_some_iff.1 ho).1) (Ready.not (mem_ready.1 hj))
    · exact region_done T hM hMn hE hH hQ hall
  | succ fuel ih =>
    intro listed M ρ a w hsz hd hu hM hMn hG hE hH hQ
    have done := region_done T hM hMn hE hH hQ
    refine ⟨?_, ?_⟩
    · intro hrd
      refine done (fun i => ?_)
      induction i using Nat.strongRecOn with
      | _ i ihi =>
        intro hi
        by_cases hl : Lst listed i
        · exact hl
        · exfalso
          have : i ∈ Region.ready .any ops listed := mem_ready.2 ⟨by
            unfold Lst at hl
            simp only [Array.getD_eq_getD_getElem?] at hl ⊢
            rw [Array.getElem?_eq_getElem (by omega : i < listed.size)] at hl ⊢
            simpa using hl, ops[i], Array.getElem?_eq_getElem hi, fun e he hb => by
              have := regOk_edge hr (Array.getElem?_eq_getElem hi) he hb
              exact ihi _ this (by omega)⟩
          rw [hrd] at this
          cases this
    · intro j hj
      have hj' : Ready ops listed j := mem_ready.1 hj
      obtain ⟨_, o, ho, _⟩ := id hj'
      have hjn : j < ops.size := (Array.getElem?_eq_some_iff.1 ho).1
      have hjs : j < listed.size := by omega
      have hag : ∀ t ∈ o.looksAt ops, envAt nt ops env v listed ops.size t = env j t := by
        intro t ht
        have := envAt_ready T hr hd hj' ho (t := t) (by simp [namesOf, ht]) ht ops.size
        rw [Nat.min_eq_right (by omega)] at this
        exact this
      have hdown : Down ops (listed.setIfInBounds j true) := by
        intro i x e hi hx he hb
        rw [Lst_set hjs] at hi ⊢
        rcases hi with rfl | hi
        · obtain ⟨_, o', ho', hr'⟩ := hj'
          rw [ho'] at hx
          cases hx
          exact .inr (hr' e he hb)
        · exact .inr (hd i x e hi hx he hb)
      have hun := unl_set hjs hj'.not ops.size
      rw [if_pos hjn] at hun
      -- what is left, once it is known at which heap this operation stands
      have go : ∀ (Hb Ha : AH) (M' : Nat), H M = Hb → OpS G F n P B nt ops j o (env j) Hb (v j) Ha → Ha = H M' → M' ≤ ops.size → (∀ m q, ops[m]? = some q → isM q.op = true → (Lst (listed.setIfInBounds j true) m ↔ m < M')) →
          wpOpIn F n P ops Q j (wpAnyIn F n P .any ops Q fuel (listed.setIfInBounds j true)) a w := by
        intro Hb Ha M' h1 h2 h3 h4 h5
        rw [h1] at hH
        refine h2 _ hag ρ a w hG hE hH Q _ (fun ρ' v' w' hle hv hE' hB => ?_)
        rw [h3] at hE'
        refine ih (listed.setIfInBounds j true) M' ρ' (a.put o.dst v') w' (by simpa using hsz) hdown (by omega) h5 h4 (hG.mono hle) ?_ hE' ?_
        · rw [envAt_put hr hd hj' ho hjs ops.size, if_neg (by omega)]
          exact (hE.mono hle).put o.dst hv
        · intro ρ2 a2 w2 hle2 hE2 hH2 hdf hB2
          exact hQ ρ2 a2 w2 (LMap.le_trans hle hle2) hE2 hH2 (by rw [hdf, Act.put_defers']) (hB.trans hB2)
      cases hmo : isM o.op with
      | true =>
        have hMj : M ≤ j := by
          rcases Nat.lt_or_ge j M with h | h
          · exact absurd ((hM j o ho hmo).2 h) hj'.not
          · exact h
        have hlist : ∀ m q, ops[m]? = some q → isM q.op = true → m < j → Lst listed m := fun m q hq hm hlt => hj'.anc hd (regOk_pair hr hlt hq ho (by simp [hm, hmo]))
        refine go (H j) (H (j + 1)) (j + 1) (T.flat M j hMj (by omega) (fun m q h1 h2 h3 => ?_)).symm (T.op j o ho) rfl (by omega) ?_
        · cases hq : isM q.op with
          | false => rfl
          | true => have := (hM m q h3 hq).1 (hlist m q h3 hq h2); omega
        · intro m q hq hm
          rw [Lst_set hjs]
          constructor
          · rintro (rfl | h)
            · omega
            · have := (hM m q hq hm).1 h; omega
          · intro h
            rcases Nat.lt_or_ge m j with h1 | h1
            · exact .inr (hlist m q hq hm h1)
            · exact .inl (by omega)
      | false =>
        have h5 : ∀ m q, ops[m]? = some q → isM q.op = true → (Lst (listed.setIfInBounds j true) m ↔ m < M) := by
          intro m q hq hm
          rw [Lst_set hjs, hM m q hq hm]
          constructor
          · rintro (rfl | h)
            · rw [ho] at hq; cases hq; rw [hmo] at hm; cases hm
            · exact h
          · exact .inr
        rcases Nat.lt_or_ge j M with hMj | hMj
        · by_cases hex : ∃ m, j < m ∧ m < M ∧ ∃ q, ops[m]? = some q ∧ isM q.op = true
          · obtain ⟨m, ⟨hm1, hm2, q, hq, hqm⟩, hgr⟩ := greatest M (fun m h => h.2.1) hex
            have hl : Lst listed m := (hM m q hq hqm).2 hm2
            have hfl : H M = H (m + 1) := T.flat (m + 1) M (by omega) hMn (fun k x h1 h2 h3 => by
              cases hx : isM x.op with
              | false => rfl
              | true => exact absurd ⟨by omega, h2, x, h3, hx⟩ (hgr k (by omega)))
            exact go _ _ M hfl (T.up j m o q ho hq hmo hqm hm1 (fun ha => hj'.not (hd.anc ha hl))) hfl.symm hMn h5
          · have hfl : H M = H (j + 1) := T.flat (j + 1) M (by omega) hMn (fun k x h1 h2 h3 => by
              cases hx : isM x.op with
              | false => rfl
              | true => exact absurd ⟨k, by omega, h2, x, h3, hx⟩ hex)
            have hc := T.calm j o ho hmo
            refine go (H j) (H (j + 1)) M (by rw [hfl, hc]) (T.op j o ho) hfl.symm hMn h5
        · by_cases hex : ∃ m, M ≤ m ∧ m < j ∧ ∃ q, ops[m]? = some q ∧ isM q.op = true
          · obtain ⟨m, ⟨hm1, hm2, q, hq, hqm⟩, hls⟩ := least hex
            have hl : ¬ Lst listed m := fun h => by have := (hM m q hq hqm).1 h; omega
            have hfl : H m = H M := T.flat M m hm1 (by omega) (fun k x h1 h2 h3 => by
              cases hx : isM x.op with
              | false => rfl
              | true => exact absurd ⟨h1, by omega, x, h3, hx⟩ (hls k h2))
            exact go _ _ M hfl.symm (T.down j m o q ho hq hmo hqm hm2 (fun ha => hl (hj'.anc hd ha))) hfl hMn h5
          · have hfl : H j = H M := T.flat M j hMj (by omega) (fun k x h1 h2 h3 => by
              cases hx : isM x.op with
              | false => rfl
              | true => exact absurd ⟨k, h1, h2, x, h3, hx⟩ hex)
            have hc := T.calm j o ho hmo
            refine go (H j) (H (j + 1)) M hfl.symm (T.op j o ho) (by rw [hc, hfl]) hMn h5
end

end Go.Proofs.YtikkokolmipppaaA

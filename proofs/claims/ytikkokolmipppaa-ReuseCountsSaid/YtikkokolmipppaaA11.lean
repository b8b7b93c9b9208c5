/-
  A SMALL HEAP FOR A LARGE ONE (part 11: walking a function over the small heap). Own text of this session.
-/
import Derived.Test.YtikkokolmipppaaA10
set_option linter.unusedVariables false
set_option linter.unusedSimpArgs false
namespace Go.Proofs.YtikkokolmipppaaA
open Go Go.RowKit

/-! ### 1. A function's code, without what plays no part -/
structure AO where
  dst : Option Tmp
  op : Op
  ty : TypeId
  gd : Option (Tmp × Bool)

inductive AC where
  | ops (l : List AO)
  | opsD (l : List AO) (ps : List (Nat × Nat))
  | seq (a b : AC)
  | cond (c : Operand) (a b : AC)
  | block (id : Nat) (a : AC)
  | loop (a : AC)
  | range (f : Operand) (ps : Array Tmp) (as bd : Code)
  | exit (id : Nat)
  | ret
  | skip

def aoOf (ops : Array Oper) (o : Oper) : AO :=
  ⟨o.dst, o.op, o.type, match o.guard with
    | some (j, b) => match (ops[j]?).bind (·.dst) with
      | some d => some (d, b)
      | none => some (0, b)
    | none => none⟩
/-- every guard names an operation that has a temporary -/
def guardsOk (ops : Array Oper) : Bool := ops.all fun o => match o.guard with
  | some (j, _) => ((ops[j]?).bind (·.dst)).isSome
  | none => true
def compile : Code → Option AC
  | .skip => some .skip
  | .label _ => some .skip
  | .exit id => some (.exit id)
  | .ret => some .ret
  | .region _ ops false => if guardsOk ops = true then some (.ops (ops.toList.map (aoOf ops))) else none
  | .region _ ops true => if (guardsOk ops && regOk ops) = true then some (.opsD (ops.toList.map (aoOf ops)) (openPairs ops)) else none
  | .seq a b => (compile a).bind fun x => (compile b).map fun y => .seq x y
  | .cond c a b => (compile a).bind fun x => (compile b).map fun y => .cond c x y
  | .block id a => (compile a).map (.block id)
  | .loop a => (compile a).map .loop
  | .rangeFunc f ps a b => some (.range f ps a b)
  | _ => none

def yieldedA (env : Env) (nt : Nat) : Option (Tmp × Bool) → Bool
  | none => true
  | some (d, b) => if d < nt then (match env d with | .bool c => c == b | _ => false) else false

/-! ### 2. The walk -/
section
variable (C : Cx) (nt : Nat)
/-- a call of a function value: a function's, or a round of a loop -/
def CallG (C : Cx) (g : Value) (xs : Array Value) (H : AH) (v : Value) (H' : AH) : Prop :=
  (∃ f fs cs, g = .func (.func f) fs cs ∧ callable C.P f = true ∧ Run C (.call f (fs ++ xs ++ cs) H v H')) ∨
  (∃ f, g = .func (.func f) #[] #[] ∧ aExt C.P f xs = some v ∧ H' = H) ∨
  (∃ (l : Nat) (env0 env1 env2 : Env) (nt0 nt1 nt2 : Nat) (ps ps1 ps2 : Array Tmp) (as as1 as2 bd bd1 bd2 : Code) (st0 st2 : LoopState) (pd0 pd1 pd2 : Option Code) (dl0 dl1 dl2 : Nat) (s1 s2 : St) (e : Ex),
    g = .func (.yield l) #[] #[] ∧ H.get l = some (.loop env0 nt0 ps as bd st0 pd0 dl0) ∧ xs.size = ps.size ∧ codeOk C.G as = true ∧ codeOk C.G bd = true ∧
    Run C (.ex nt0 (some l) as ⟨bindAll nt0 ps.toList xs.toList env0, H, []⟩ .normal s1) ∧ s1.H.get l = some (.loop env1 nt1 ps1 as1 bd1 .ready pd1 dl1) ∧
    Run C (.ex nt0 (some l) bd ⟨s1.env, ⟨s1.H.next, upd s1.H.get l (.loop env1 nt1 ps1 as1 bd1 .busy pd1 dl1)⟩, s1.ds⟩ e s2) ∧ s2.H.get l = some (.loop env2 nt2 ps2 as2 bd2 st2 pd2 dl2) ∧
    v = .bool e.isNormal ∧ H' = ⟨s2.H.next, upd s2.H.get l (.loop env2 nt2 ps2 as2 bd2 (if e.isNormal = true then .ready else .done) e.jump dl2)⟩)
def CallV (C : Cx) (g : Value) (xs : Array Value) (H : AH) (K : Value → AH → Prop) : Prop := ∃ v H', CallG C g xs H v H' ∧ K v H'
def awOp (o : AO) (env : Env) (H : AH) (K : Value → AH → Prop) : Prop :=
  if yieldedA env nt o.gd = true then
    match o.op with
    | .call ⟨.value g, args, _⟩ => CallV C (aeval env g) (args.map (aeval env)) H K
    | op => match aop C.P op o.ty (aeval env) H with
      | some (v, H') => K v H'
      | none => False
  else K Go.undef H
def awO : List AO → Env → AH → (Env → AH → Prop) → Prop
  | [], env, H, K => K env H
  | o :: l, env, H, K => awOp C nt o env H fun v H' => awO l (put env nt o.dst v) H' K
/-- the same with a record of each operation -/
def awD : List AO → Env → AH → List Rec → (List Rec → Env → AH → Prop) → Prop
  | [], env, H, tr, K => K tr env H
  | o :: l, env, H, tr, K => awOp C nt o env H fun v H' => awD l (put env nt o.dst v) H' (tr ++ [⟨env, H, v, H'⟩]) K
def StillA (o : AO) (env : Env) (v : Value) (H2 : AH) : Prop := yieldedA env nt o.gd = true → (aop C.P o.op o.ty (aeval env) H2).map (·.1) = some v
def pairsA (l : List AO) (tr : List Rec) : List (Nat × Nat) → Prop
  | [] => True
  | (r, m) :: ps => (∃ o a b, l[r]? = some o ∧ tr[r]? = some a ∧ tr[m]? = some b ∧ StillA C nt o a.env a.v (if r < m then b.H' else b.H)) ∧ pairsA l tr ps
variable (ro : Option Nat)
def W (c : Code) (Q : Ex → St → Prop) (s : St) : Prop := ∃ e s', Run C (.ex nt ro c s e s') ∧ Q e s'
def thenE (K : St → Prop) (Q : Ex → St → Prop) : Ex → St → Prop
  | .normal, s => K s
  | e, s => Q e s
def blockE (id : Nat) (Q : Ex → St → Prop) : Ex → St → Prop
  | .exit i, s => if i = id then Q .normal s else Q (.exit i) s
  | e, s => Q e s
def roundsA (body : (Ex → St → Prop) → St → Prop) (Q : Ex → St → Prop) : Nat → St → Prop
  | 0, _ => False
  | n + 1, s => body (thenE (roundsA body Q n) Q) s
def aw : AC → (Ex → St → Prop) → St → Prop
  | .skip, Q, s => Q .normal s
  | .exit id, Q, s => Q (.exit id) s
  | .ret, Q, s => Q .ret s
  | .ops l, Q, s => awO C nt l s.env s.H fun env H => Q .normal ⟨env, H, s.ds⟩
  | .opsD l ps, Q, s => awD C nt l s.env s.H [] fun tr env H => pairsA C nt l tr ps ∧ Q .normal ⟨env, H, s.ds⟩
  | .seq a b, Q, s => aw a (thenE (aw b Q) Q) s
  | .cond c a b, Q, s => ∃ t, aeval s.env c = .bool t ∧ (t = true → aw a Q s) ∧ (t = false → aw b Q s)
  | .block id a, Q, s => aw a (blockE id Q) s
  | .loop a, Q, s => ∃ n, roundsA (aw a) Q n s
  | .range f ps as bd, Q, s => W C nt ro (.rangeFunc f ps as bd) Q s
end

section
variable {C : Cx} {nt : Nat}
theorem yieldedA_eq {ops : Array Oper} {o : Oper} {env : Env} (hg : guardsOk ops = true) (ho : o ∈ ops) : Region.wanted o (ayielded ops env nt) = yieldedA env nt (aoOf ops o).gd := by
  unfold Region.wanted aoOf yieldedA
  cases hx : o.guard with
  | none => rfl
  | some x =>
    obtain ⟨j, b⟩ := x
    simp only
    unfold ayielded
    have hs := Array.all_eq_true_iff_forall_mem.1 hg o ho
    rw [hx] at hs
    simp only at hs
    cases hd : (ops[j]?).bind (·.dst) with
    | none => rw [hd] at hs; cases hs
    | some d =>
      simp only
      by_cases hlt : d < nt
      · rw [if_pos hlt, if_pos hlt]
        cases env d <;> simp
      · rw [if_neg hlt, if_neg hlt]; rfl
theorem awOp_run {ops : Array Oper} {i : Nat} {o : Oper} (hg : guardsOk ops = true) (ho : ops[i]? = some o) {env : Env} {H : AH} {K : Value → AH → Prop} (h : awOp C nt (aoOf ops o) env H K) :
    ∃ v H', Run C (.op nt ops i env H v H') ∧ K v H' := by
  have hw := yieldedA_eq (nt := nt) (env := env) hg (Array.mem_of_getElem? ho)
  unfold awOp at h
  split at h
  · rename_i hy
    rw [hy] at hw
    have e1 : (aoOf ops o).op = o.op := rfl
    have e2 : (aoOf ops o).ty = o.type := rfl
    rw [e1, e2] at h
    split at h
    · rename_i g args ats hop
      obtain ⟨v, H', h1, hK⟩ := h
      rcases h1 with ⟨f, fs, cs, h1, h2, h3⟩ | ⟨f, h1, h2, rfl⟩ | ⟨l, env0, env1, env2, nt0, nt1, nt2, ps, ps1, ps2, as, as1, as2, bd, bd1, bd2, st0, st2, pd0, pd1, pd2, dl0, dl1, dl2, s1, s2, e, h1, h2, h3, h4, h5, h6, h7, h8, h9, rfl, rfl⟩
      · exact ⟨v, H', .opCall ho hw hop h1 h2 h3, hK⟩
      · exact ⟨v, H', .opExt ho hw hop h1 h2, hK⟩
      · exact ⟨_, _, .opYield ho hw hop h1 h2 (by simpa using h3) h4 h5 h6 h7 h8 h9, hK⟩
    · split at h
      · rename_i v H' h1
        exact ⟨v, H', .opPure ho hw h1, h⟩
      · exact h.elim
  · rename_i hy
    rw [Bool.not_eq_true] at hy
    rw [hy] at hw
    exact ⟨_, _, .opSkip ho hw, h⟩
theorem awO_run {ops : Array Oper} (hg : guardsOk ops = true) : ∀ (l : List Oper) (k : Nat), (∀ j o, l[j]? = some o → ops[k + j]? = some o) → ∀ (env : Env) (H : AH) (K : Env → AH → Prop), awO C nt (l.map (aoOf ops)) env H K →
    ∃ tr env' H', Run C (.ops nt ops (List.range' k l.length) env H tr env' H') ∧ K env' H'
  | [], k, hk, env, H, K, h => ⟨[], env, H, .opsNil, h⟩
  | o :: l, k, hk, env, H, K, h => by
    have ho : ops[k]? = some o := hk 0 o rfl
    obtain ⟨v, H1, h1, h2⟩ := awOp_run hg ho h
    obtain ⟨tr, env', H', h3, h4⟩ := awO_run hg l (k + 1) (fun j x hj => by
      have := hk (j + 1) x (by simpa using hj)
      rw [show k + 1 + j = k + (j + 1) by omega]
      exact this) _ _ _ h2
    exact ⟨_, env', H', .opsCons ho h1 h3, h4⟩
theorem awD_run {ops : Array Oper} (hg : guardsOk ops = true) : ∀ (l : List Oper) (k : Nat), (∀ j o, l[j]? = some o → ops[k + j]? = some o) → ∀ (env : Env) (H : AH) (tr0 : List Rec) (K : List Rec → Env → AH → Prop), awD C nt (l.map (aoOf ops)) env H tr0 K →
    ∃ tr env' H', Run C (.ops nt ops (List.range' k l.length) env H tr env' H') ∧ K (tr0 ++ tr) env' H'
  | [], k, hk, env, H, tr0, K, h => ⟨[], env, H, .opsNil, by rw [List.append_nil]; exact h⟩
  | o :: l, k, hk, env, H, tr0, K, h => by
    have ho : ops[k]? = some o := hk 0 o rfl
    obtain ⟨v, H1, h1, h2⟩ := awOp_run hg ho h
    obtain ⟨tr, env', H', h3, h4⟩ := awD_run hg l (k + 1) (fun j x hj => by
      have := hk (j + 1) x (by simpa using hj)
      rw [show k + 1 + j = k + (j + 1) by omega]
      exact this) _ _ _ _ h2
    refine ⟨_, env', H', .opsCons ho h1 h3, ?_⟩
    rw [List.append_assoc] at h4
    exact h4
theorem pairsA_ok {ops : Array Oper} (hg : guardsOk ops = true) {tr : List Rec} : ∀ (ps : List (Nat × Nat)), pairsA C nt (ops.toList.map (aoOf ops)) tr ps → ∀ x ∈ ps, PairOk C.P ops nt tr x
  | [], h, x, hx => by cases hx
  | (r, m) :: ps, h, x, hx => by
    rcases List.mem_cons.1 hx with rfl | hx
    · obtain ⟨o, a, b, h1, h2, h3, h4⟩ := h.1
      rw [List.getElem?_map] at h1
      cases ho : ops.toList[r]? with
      | none => rw [ho] at h1; cases h1
      | some q =>
        rw [ho] at h1
        cases h1
        have hq : ops[r]? = some q := by simpa using ho
        refine ⟨q, a, b, hq, h2, h3, ?_⟩
        simp only
        unfold Still
        rw [yieldedA_eq hg (Array.mem_of_getElem? hq)]
        cases hy : yieldedA a.env nt (aoOf ops q).gd with
        | false => exact .inl rfl
        | true => exact .inr (.inr (h4 hy))
    · exact pairsA_ok hg ps h.2 x hx
variable {ro : Option Nat}
theorem W_mono {c : Code} {Q Q' : Ex → St → Prop} {s : St} (h : W C nt ro c Q s) (hq : ∀ e s, Q e s → Q' e s) : W C nt ro c Q' s := let ⟨e, s', a, b⟩ := h; ⟨e, s', a, hq _ _ b⟩
theorem aw_run : ∀ (c : Code) (x : AC), compile c = some x → ∀ (Q : Ex → St → Prop) (s : St), aw C nt ro x Q s → W C nt ro c Q s := by
  intro c
  induction c with
  | skip => intro x hx Q s h; cases hx; exact ⟨_, _, .skip, h⟩
  | label l => intro x hx Q s h; cases hx; exact ⟨_, _, .label, h⟩
  | exit id => intro x hx Q s h; cases hx; exact ⟨_, _, .exit, h⟩
  | ret => intro x hx Q s h; cases hx; exact ⟨_, _, .ret, h⟩
  | region id ops d =>
    intro x hx Q s h
    have hrange : List.range ops.size = List.range' 0 ops.toList.length := by simp [List.range_eq_range']
    have hk : ∀ (j : Nat) (o : Oper), ops.toList[j]? = some o → ops[0 + j]? = some o := fun j o hj => by rw [Nat.zero_add]; simpa using hj
    cases d with
    | false =>
      simp only [compile] at hx
      split at hx
      · rename_i hg
        cases hx
        obtain ⟨tr, env', H', h1, h2⟩ := awO_run hg ops.toList 0 hk _ _ _ h
        rw [← hrange] at h1
        exact ⟨_, _, .region h1, h2⟩
      · cases hx
    | true =>
      simp only [compile] at hx
      split at hx
      · rename_i hg
        rw [Bool.and_eq_true] at hg
        cases hx
        obtain ⟨tr, env', H', h1, h2, h3⟩ := awD_run hg.1 ops.toList 0 hk _ _ _ _ h
        rw [← hrange] at h1
        rw [List.nil_append] at h2
        exact ⟨_, _, .regionD hg.2 h1 (pairsA_ok hg.1 _ h2), h3⟩
      · cases hx
  | seq a b iha ihb =>
    intro x hx Q s h
    simp only [compile] at hx
    cases ha : compile a with
    | none => rw [ha] at hx; cases hx
    | some xa =>
      rw [ha] at hx
      cases hb : compile b with
      | none => rw [hb] at hx; cases hx
      | some xb =>
        rw [hb] at hx
        cases hx
        obtain ⟨e, s1, h1, h2⟩ := iha xa ha _ s h
        cases e with
        | normal =>
          obtain ⟨e2, s2, h3, h4⟩ := ihb xb hb _ s1 h2
          exact ⟨e2, s2, .seq h1 h3, h4⟩
        | exit id => exact ⟨_, s1, .seqJump h1 rfl, h2⟩
        | goto l => exact ⟨_, s1, .seqJump h1 rfl, h2⟩
        | ret => exact ⟨_, s1, .seqJump h1 rfl, h2⟩
  | cond c a b iha ihb =>
    intro x hx Q s h
    simp only [compile] at hx
    cases ha : compile a with
    | none => rw [ha] at hx; cases hx
    | some xa =>
      rw [ha] at hx
      cases hb : compile b with
      | none => rw [hb] at hx; cases hx
      | some xb =>
        rw [hb] at hx
        cases hx
        obtain ⟨t, hc, h1, h2⟩ := h
        cases t with
        | true =>
          obtain ⟨e, s', h3, h4⟩ := iha xa ha Q s (h1 rfl)
          exact ⟨e, s', .cond hc (by simpa using h3), h4⟩
        | false =>
          obtain ⟨e, s', h3, h4⟩ := ihb xb hb Q s (h2 rfl)
          exact ⟨e, s', .cond hc (by simpa using h3), h4⟩
  | block id a iha =>
    intro x hx Q s h
    simp only [compile] at hx
    obtain ⟨xa, ha, rfl⟩ := map_some hx
    obtain ⟨e, s', h1, h2⟩ := iha xa ha _ s h
    cases e with
    | exit i =>
      simp only [blockE] at h2
      split at h2
      · rename_i hi
        subst hi
        exact ⟨_, s', .blockExit h1, h2⟩
      · rename_i hi
        exact ⟨_, s', .block h1 (fun id' e => by cases e; exact hi), h2⟩
    | normal => exact ⟨_, s', .block h1 (fun id' e => by cases e), h2⟩
    | goto l => exact ⟨_, s', .block h1 (fun id' e => by cases e), h2⟩
    | ret => exact ⟨_, s', .block h1 (fun id' e => by cases e), h2⟩
  | loop a iha =>
    intro x hx Q s h
    simp only [compile] at hx
    obtain ⟨xa, ha, rfl⟩ := map_some hx
    obtain ⟨n, hn⟩ := h
    induction n generalizing s with
    | zero => exact hn.elim
    | succ n ih =>
      obtain ⟨e, s1, h1, h2⟩ := iha xa ha _ s hn
      cases e with
      | normal =>
        obtain ⟨e2, s2, h3, h4⟩ := ih s1 h2
        exact ⟨e2, s2, .loop h1 h3, h4⟩
      | exit id => exact ⟨_, s1, .loopJump h1 rfl, h2⟩
      | goto l => exact ⟨_, s1, .loopJump h1 rfl, h2⟩
      | ret => exact ⟨_, s1, .loopJump h1 rfl, h2⟩
  | rangeFunc f ps as bd _ _ => intro x hx Q s h; cases hx; exact h
  | goto l => intro x hx; cases hx
  | scope c _ => intro x hx; cases hx
  | refuse why => intro x hx; cases hx

/-- A function's run, out of the walk of its code. -/
theorem callOf {f : FuncId} {fn : Func} {c : Code} {x : AC} {args : Array Value} {H : AH} {v : Value} {H' : AH} (nt : Nat) (hf : C.P.funcs[f]? = some fn) (hb : fn.body = some c) (hx : compile c = some x) (hnt : args.size + (fn.ntmps - args.size) = nt)
    (h : aw C nt none x (fun e s => (e = .normal ∨ e = .ret) ∧ takeMarks s.ds s.H = some H' ∧ (aResults C.P fn.results.toList s.env H').map tupleOf = some v) ⟨envOf args, H, []⟩) : Run C (.call f args H v H') := by
  subst hnt
  obtain ⟨e, s', h1, h2, h3, h4⟩ := aw_run c x hx _ _ h
  obtain ⟨vs, h5, rfl⟩ := map_some h4
  exact .body hf hb h1 h2 h3 h5
end

end Go.Proofs.YtikkokolmipppaaA

/-
  A SMALL HEAP FOR A LARGE ONE (part 8: a run over the small heap; whatever has one, the machine's call ends so). Own text of this session.
-/
import Derived.Test.YtikkokolmipppaaA7
import Derived.RangeFuncRecord
import Derived.LoopNIn
set_option linter.unusedVariables false
set_option linter.unusedSimpArgs false
namespace Go.Proofs.YtikkokolmipppaaA
open Go Go.RowKit

/-! ### 1. Runs -/
structure St where
  env : Env
  H : AH
  ds : List Nat

inductive Ex where
  | normal
  | exit (id : Nat)
  | goto (l : Nat)
  | ret
def Ex.toExit : Ex → Exit
  | .normal => .normal
  | .exit id => .exit id
  | .goto l => .goto l
  | .ret => .ret
def Ex.jump : Ex → Option Code
  | .normal => none
  | .exit id => some (.exit id)
  | .goto l => some (.goto l)
  | .ret => some .ret
def Ex.isNormal : Ex → Bool
  | .normal => true
  | _ => false

/-- one operation as it was done: the temporaries and the heap ahead of it, its value, the heap behind it -/
structure Rec where
  env : Env
  H : AH
  v : Value
  H' : AH

structure Cx where
  P : Program
  G : Nat → Bool
  orc : FuncId → Array Value → AH → Value → AH → Prop

inductive Judg where
  | ex (nt : Nat) (ro : Option Nat) (c : Code) (s : St) (e : Ex) (s' : St)
  | call (f : FuncId) (args : Array Value) (H : AH) (v : Value) (H' : AH)
  | op (nt : Nat) (ops : Array Oper) (i : Nat) (env : Env) (H : AH) (v : Value) (H' : AH)
  | ops (nt : Nat) (ops : Array Oper) (l : List Nat) (env : Env) (H : AH) (tr : List Rec) (env' : Env) (H' : AH)

def codeOk (G : Nat → Bool) : Code → Bool
  | .region _ ops _ => ops.all fun o => opsOk G o.op
  | .seq a b => codeOk G a && codeOk G b
  | .cond c a b => opdOk G c && codeOk G a && codeOk G b
  | .block _ b => codeOk G b
  | .loop b => codeOk G b
  | .scope b => codeOk G b
  | .rangeFunc f _ a b => opdOk G f && codeOk G a && codeOk G b
  | _ => true

def ayielded (ops : Array Oper) (env : Env) (nt : Nat) (j : Nat) : Option Bool :=
  match (ops[j]?).bind (·.dst) with
  | some d => if d < nt then (match env d with | .bool b => some b | _ => none) else none
  | none => none
def callable (P : Program) (f : FuncId) : Bool :=
  match P.funcs[f]? with
  | some fn => fn.name != "runtime.NumGoroutine" && fn.body.isSome
  | none => false
def bindAll (nt : Nat) : List Tmp → List Value → Env → Env
  | t :: ts, v :: vs, env => bindAll nt ts vs (put env nt (some t) v)
  | _, _, env => env
def envOf (args : Array Value) : Env := fun t => args.getD t Go.undef
/-- the marks of an activation, taken away at its end -/
def takeMarks : List Nat → AH → Option AH
  | [], H => some H
  | l :: ls, H => match H.get l with
    | some .mark => takeMarks ls ⟨H.next, YtikkokolmipppaaA.del H.get l⟩
    | _ => none
def aResult (P : Program) (env : Env) (H : AH) : ResultVar → Option Value
  | .tmp t => some (env t)
  | .cell a t => aLoad P t (env a) H
def aResults (P : Program) (rs : List ResultVar) (env : Env) (H : AH) : Option (List Value) := rs.mapM (aResult P env H)
def tupleOf : List Value → Value
  | [v] => v
  | vs => .tuple vs.toArray
/-- what an operation that changes no memory owes where the order is open -/
def Still (P : Program) (ops : Array Oper) (nt : Nat) (o : Oper) (env : Env) (v : Value) (H2 : AH) : Prop :=
  Region.wanted o (ayielded ops env nt) = false ∨ isR o.op = false ∨ (aop P o.op o.type (aeval env) H2).map (·.1) = some v
/-- the pairs (an operation that looks into memory, one that changes it) whose order is open -/
def openPairs (ops : Array Oper) : List (Nat × Nat) :=
  let b := Region.before ops
  (List.range ops.size).flatMap fun r => match ops[r]? with
    | some x => if isR x.op then (List.range ops.size).filterMap fun m => match ops[m]? with
        | some y => if isM y.op && !((b.getD r 0).testBit m) && !((b.getD m 0).testBit r) then some (r, m) else none
        | none => none else []
    | none => []
def PairOk (P : Program) (ops : Array Oper) (nt : Nat) (tr : List Rec) (x : Nat × Nat) : Prop :=
  ∃ o a b, ops[x.1]? = some o ∧ tr[x.1]? = some a ∧ tr[x.2]? = some b ∧ Still P ops nt o a.env a.v (if x.1 < x.2 then b.H' else b.H)

/-- one of the library's functions that Go has in no Go text, at things without an address -/
def aExt (P : Program) (f : FuncId) (xs : Array Value) : Option Value := match P.funcs[f]? with
  | some fn => if (fn.name == "runtime.NumGoroutine") = false ∧ fn.body.isNone = true ∧ (Extern.findNext fn).isNone = true ∧ xs.all plain = true then
      match Extern.find fn with
      | some e => chk (Sem.val P (e xs))
      | none => none
    else none
  | none => none
inductive Run (C : Cx) : Judg → Prop
  | opExt {nt : Nat} {ops : Array Oper} {i : Nat} {env : Env} {H : AH} {v : Value} {o : Oper} {g : Operand} {args : Array Operand} {ats : Array TypeId} {f : FuncId}
      (ho : ops[i]? = some o) (hw : Region.wanted o (ayielded ops env nt) = true) (hop : o.op = .call ⟨.value g, args, ats⟩) (hg : aeval env g = .func (.func f) #[] #[])
      (h : aExt C.P f (args.map (aeval env)) = some v) : Run C (.op nt ops i env H v H)
  | opSkip {nt : Nat} {ops : Array Oper} {i : Nat} {env : Env} {H : AH} {o : Oper} (ho : ops[i]? = some o) (hw : Region.wanted o (ayielded ops env nt) = false) : Run C (.op nt ops i env H Go.undef H)
  | opPure {nt : Nat} {ops : Array Oper} {i : Nat} {env : Env} {H H' : AH} {v : Value} {o : Oper} (ho : ops[i]? = some o) (hw : Region.wanted o (ayielded ops env nt) = true)
      (h : aop C.P o.op o.type (aeval env) H = some (v, H')) : Run C (.op nt ops i env H v H')
  | opCall {nt : Nat} {ops : Array Oper} {i : Nat} {env : Env} {H H' : AH} {v : Value} {o : Oper} {g : Operand} {args : Array Operand} {ats : Array TypeId} {f : FuncId} {fs cs : Array Value}
      (ho : ops[i]? = some o) (hw : Region.wanted o (ayielded ops env nt) = true) (hop : o.op = .call ⟨.value g, args, ats⟩) (hg : aeval env g = .func (.func f) fs cs) (hf : callable C.P f = true)
      (h : Run C (.call f (fs ++ args.map (aeval env) ++ cs) H v H')) : Run C (.op nt ops i env H v H')
  | opYield {nt : Nat} {ops : Array Oper} {i : Nat} {env : Env} {H : AH} {o : Oper} {g : Operand} {args : Array Operand} {ats : Array TypeId} {l : Nat}
      {env0 env1 env2 : Env} {nt0 nt1 nt2 : Nat} {ps ps1 ps2 : Array Tmp} {as as1 as2 bd bd1 bd2 : Code} {st0 st2 : LoopState} {pd0 pd1 pd2 : Option Code} {dl0 dl1 dl2 : Nat} {s1 s2 : St} {e : Ex}
      (ho : ops[i]? = some o) (hw : Region.wanted o (ayielded ops env nt) = true) (hop : o.op = .call ⟨.value g, args, ats⟩) (hg : aeval env g = .func (.yield l) #[] #[])
      (hl : H.get l = some (.loop env0 nt0 ps as bd st0 pd0 dl0)) (hs : args.size = ps.size) (hca : codeOk C.G as = true) (hcb : codeOk C.G bd = true)
      (h1 : Run C (.ex nt0 (some l) as ⟨bindAll nt0 ps.toList (args.map (aeval env)).toList env0, H, []⟩ .normal s1))
      (hl1 : s1.H.get l = some (.loop env1 nt1 ps1 as1 bd1 .ready pd1 dl1))
      (h2 : Run C (.ex nt0 (some l) bd ⟨s1.env, ⟨s1.H.next, upd s1.H.get l (.loop env1 nt1 ps1 as1 bd1 .busy pd1 dl1)⟩, s1.ds⟩ e s2))
      (hl2 : s2.H.get l = some (.loop env2 nt2 ps2 as2 bd2 st2 pd2 dl2)) :
      Run C (.op nt ops i env H (.bool e.isNormal) ⟨s2.H.next, upd s2.H.get l (.loop env2 nt2 ps2 as2 bd2 (if e.isNormal = true then .ready else .done) e.jump dl2)⟩)
  | opsNil {nt : Nat} {ops : Array Oper} {env : Env} {H : AH} : Run C (.ops nt ops [] env H [] env H)
  | opsCons {nt : Nat} {ops : Array Oper} {i : Nat} {l : List Nat} {env env' : Env} {H H1 H' : AH} {v : Value} {o : Oper} {tr : List Rec} (ho : ops[i]? = some o)
      (h1 : Run C (.op nt ops i env H v H1)) (h2 : Run C (.ops nt ops l (put env nt o.dst v) H1 tr env' H')) : Run C (.ops nt ops (i :: l) env H (⟨env, H, v, H1⟩ :: tr) env' H')
  | skip {nt : Nat} {ro : Option Nat} {s : St} : Run C (.ex nt ro .skip s .normal s)
  | label {nt : Nat} {ro : Option Nat} {s : St} {l : Nat} : Run C (.ex nt ro (.label l) s .normal s)
  | exit {nt : Nat} {ro : Option Nat} {s : St} {id : Nat} : Run C (.ex nt ro (.exit id) s (.exit id) s)
  | goto {nt : Nat} {ro : Option Nat} {s : St} {l : Nat} : Run C (.ex nt ro (.goto l) s (.goto l) s)
  | ret {nt : Nat} {ro : Option Nat} {s : St} : Run C (.ex nt ro .ret s .ret s)
  | region {nt : Nat} {ro : Option Nat} {s : St} {id : Nat} {ops : Array Oper} {tr : List Rec} {env' : Env} {H' : AH} (h : Run C (.ops nt ops (List.range ops.size) s.env s.H tr env' H')) :
      Run C (.ex nt ro (.region id ops false) s .normal ⟨env', H', s.ds⟩)
  | regionD {nt : Nat} {ro : Option Nat} {s : St} {id : Nat} {ops : Array Oper} {tr : List Rec} {env' : Env} {H' : AH} (hr : regOk ops = true) (h : Run C (.ops nt ops (List.range ops.size) s.env s.H tr env' H'))
      (hp : ∀ x ∈ openPairs ops, PairOk C.P ops nt tr x) : Run C (.ex nt ro (.region id ops true) s .normal ⟨env', H', s.ds⟩)
  | seq {nt : Nat} {ro : Option Nat} {a b : Code} {s s1 s2 : St} {e : Ex} (h1 : Run C (.ex nt ro a s .normal s1)) (h2 : Run C (.ex nt ro b s1 e s2)) : Run C (.ex nt ro (.seq a b) s e s2)
  | seqJump {nt : Nat} {ro : Option Nat} {a b : Code} {s s1 : St} {e : Ex} (h1 : Run C (.ex nt ro a s e s1)) (he : e.isNormal = false) : Run C (.ex nt ro (.seq a b) s e s1)
  | cond {nt : Nat} {ro : Option Nat} {c : Operand} {x y : Code} {s s' : St} {e : Ex} {t : Bool} (hc : aeval s.env c = .bool t) (h : Run C (.ex nt ro (if t = true then x else y) s e s')) : Run C (.ex nt ro (.cond c x y) s e s')
  | block {nt : Nat} {ro : Option Nat} {id : Nat} {c : Code} {s s' : St} {e : Ex} (h : Run C (.ex nt ro c s e s')) (he : ∀ id', e = .exit id' → id' ≠ id) : Run C (.ex nt ro (.block id c) s e s')
  | blockExit {nt : Nat} {ro : Option Nat} {id : Nat} {c : Code} {s s' : St} (h : Run C (.ex nt ro c s (.exit id) s')) : Run C (.ex nt ro (.block id c) s .normal s')
  | loop {nt : Nat} {ro : Option Nat} {c : Code} {s s1 s' : St} {e : Ex} (h1 : Run C (.ex nt ro c s .normal s1)) (h2 : Run C (.ex nt ro (.loop c) s1 e s')) : Run C (.ex nt ro (.loop c) s e s')
  | loopJump {nt : Nat} {ro : Option Nat} {c : Code} {s s' : St} {e : Ex} (h1 : Run C (.ex nt ro c s e s')) (he : e.isNormal = false) : Run C (.ex nt ro (.loop c) s e s')
  | rangeOuter {nt : Nat} {g : Operand} {ps : Array Tmp} {as bd : Code} {s : St} {f : FuncId} {fs cs : Array Value} {v : Value} {H3 : AH} {env2 : Env} {nt2 : Nat} {ps2 : Array Tmp} {as2 bd2 : Code} {st2 : LoopState} {pd2 : Option Code} {dl2 : Nat} {e : Ex}
      (hg : aeval s.env g = .func (.func f) fs cs) (hf : callable C.P f = true)
      (h : Run C (.call f (fs ++ #[.func (.yield (s.H.next + 1)) #[] #[]] ++ cs) ((s.H.new .mark).new (.loop s.env nt ps as bd .ready none s.H.next)) v H3))
      (hl : H3.get (s.H.next + 1) = some (.loop env2 nt2 ps2 as2 bd2 st2 pd2 dl2)) (hst : st2 ≠ .busy) (he : e.jump = pd2) :
      Run C (.ex nt none (.rangeFunc g ps as bd) s e ⟨s.env, ⟨H3.next, YtikkokolmipppaaA.del H3.get (s.H.next + 1)⟩, s.H.next :: s.ds⟩)
  | rangeInner {nt : Nat} {l0 : Nat} {g : Operand} {ps : Array Tmp} {as bd : Code} {s : St} {f : FuncId} {fs cs : Array Value} {v : Value} {H3 : AH} {env2 : Env} {nt2 : Nat} {ps2 : Array Tmp} {as2 bd2 : Code} {st2 : LoopState} {pd2 : Option Code} {dl2 : Nat} {e : Ex}
      {env0 : Env} {nt0 : Nat} {ps0 : Array Tmp} {as0 bd0 : Code} {st0 : LoopState} {pd0 : Option Code} {dl0 : Nat}
      (hl0 : s.H.get l0 = some (.loop env0 nt0 ps0 as0 bd0 st0 pd0 dl0)) (hg : aeval s.env g = .func (.func f) fs cs) (hf : callable C.P f = true)
      (h : Run C (.call f (fs ++ #[.func (.yield s.H.next) #[] #[]] ++ cs) (s.H.new (.loop s.env nt ps as bd .ready none dl0)) v H3))
      (hl : H3.get s.H.next = some (.loop env2 nt2 ps2 as2 bd2 st2 pd2 dl2)) (hst : st2 ≠ .busy) (he : e.jump = pd2) :
      Run C (.ex nt (some l0) (.rangeFunc g ps as bd) s e ⟨s.env, ⟨H3.next, YtikkokolmipppaaA.del H3.get s.H.next⟩, s.ds⟩)
  | exGc {nt : Nat} {ro : Option Nat} {c : Code} {s : St} {e : Ex} {env' : Env} {H1 H2 : AH} {ds' : List Nat} (h : Run C (.ex nt ro c s e ⟨env', H1, ds'⟩)) (hs : Sub H2 H1) : Run C (.ex nt ro c s e ⟨env', H2, ds'⟩)
  | body {f : FuncId} {fn : Func} {c : Code} {args : Array Value} {H H2 : AH} {e : Ex} {s' : St} {vs : List Value} (hf : C.P.funcs[f]? = some fn) (hb : fn.body = some c)
      (h : Run C (.ex (args.size + (fn.ntmps - args.size)) none c ⟨envOf args, H, []⟩ e s')) (he : e = .normal ∨ e = .ret) (hm : takeMarks s'.ds s'.H = some H2) (hr : aResults C.P fn.results.toList s'.env H2 = some vs) :
      Run C (.call f args H (tupleOf vs) H2)
  | orc {f : FuncId} {args : Array Value} {H : AH} {v : Value} {H' : AH} (h : C.orc f args H v H') : Run C (.call f args H v H')
  | gc {f : FuncId} {args : Array Value} {H : AH} {v : Value} {H1 H2 : AH} (h : Run C (.call f args H v H1)) (hs : Sub H2 H1) : Run C (.call f args H v H2)

/-! ### 2. What a run says of the machine -/
def wf (rb : Option Nat) : Fence := { Fence.wide with round := rb }
def RoOk (ρ : LMap) : Option Nat → Option Nat → Prop
  | none, none => True
  | some l, some b => ∃ p, ρ l = some p ∧ p.blk = b
  | _, _ => False
def DefR (ρ : LMap) : List Nat → List Deferred → Prop
  | [], [] => True
  | l :: ls, d :: ds => (∃ p, ρ l = some p ∧ d = { target := .collected p.blk, args := #[] }) ∧ DefR ρ ls ds
  | _, _ => False
theorem DefR.mono {ρ ρ' : LMap} (hle : ρ.le ρ') : ∀ (ls : List Nat) (ds : List Deferred), DefR ρ ls ds → DefR ρ' ls ds
  | [], [], _ => trivial
  | l :: ls, d :: ds, h => ⟨let ⟨p, a, b⟩ := h.1; ⟨p, hle _ _ a, b⟩, DefR.mono hle ls ds h.2⟩
  | [], _ :: _, h => h.elim
  | _ :: _, [], h => h.elim
theorem RoOk.mono {ρ ρ' : LMap} (hle : ρ.le ρ') {ro rb : Option Nat} (h : RoOk ρ ro rb) : RoOk ρ' ro rb := by
  cases ro <;> cases rb <;> first | exact h | exact let ⟨p, a, b⟩ := h; ⟨p, hle _ _ a, b⟩
def ExPost (ρ : LMap) (B nt : Nat) (e : Ex) (s' : St) (w0 : World) : Exit → Act → World → Prop := fun e' a' w' =>
  e' = e.toExit ∧ ∃ ρ', ρ.le ρ' ∧ EnvR ρ' s'.env nt a'.tmps ∧ Emb ρ' B s'.H w' ∧ DefR ρ' s'.ds a'.defers ∧ Below B w0 w'
def CallPost (ρ : LMap) (B : Nat) (v : Value) (H' : AH) (w0 : World) : Ending → World → Prop := fun e w' =>
  ∃ v' ρ', e = .returned v' ∧ ρ.le ρ' ∧ VR ρ' v v' ∧ Emb ρ' B H' w' ∧ Below B w0 w'
def ExOk (C : Cx) (nt : Nat) (ro : Option Nat) (c : Code) (s : St) (e : Ex) (s' : St) : Prop :=
  codeOk C.G c = true → ∀ (n : Nat) (ρ : LMap) (B : Nat) (rb : Option Nat) (a : Act) (w : World), RoOk ρ ro rb → GlobOk C.G ρ → EnvR ρ s.env nt a.tmps → Emb ρ B s.H w → DefR ρ s.ds a.defers →
      c.wpIn (wf rb) n C.P (ExPost ρ B nt e s' w) a w
def LoopOk (C : Cx) (nt : Nat) (ro : Option Nat) (c : Code) (s : St) (e : Ex) (s' : St) : Prop :=
  codeOk C.G c = true → ∃ m, ∀ (n : Nat) (ρ : LMap) (B : Nat) (rb : Option Nat) (a : Act) (w : World), RoOk ρ ro rb → GlobOk C.G ρ → EnvR ρ s.env nt a.tmps → Emb ρ B s.H w → DefR ρ s.ds a.defers →
      Code.roundsIn (wf rb) n C.P c (ExPost ρ B nt e s' w) m a w
def JOk (C : Cx) : Judg → Prop
  | .ex nt ro c s e s' => ExOk C nt ro c s e s' ∧ ∀ c0, c = .loop c0 → LoopOk C nt ro c0 s e s'
  | .call f args H v H' => ∀ (ρ : LMap) (B : Nat) (args' : Array Value) (w : World), GlobOk C.G ρ → VRA ρ args args' → Emb ρ B H w → Calls C.P f args' w (CallPost ρ B v H' w)
  | .op nt ops i env H v H' => ∀ o, ops[i]? = some o → opsOk C.G o.op = true → ∀ (rb : Option Nat) (n B : Nat), OpS C.G (wf rb) n C.P B nt ops i o env H v H' ∧
      (isM o.op = false → H' = H ∧ ∀ H2, Still C.P ops nt o env v H2 → OpS C.G (wf rb) n C.P B nt ops i o env H2 v H2)
  | .ops nt ops l env H tr env' H' => (∀ o ∈ ops, opsOk C.G o.op = true) → ∀ (rb : Option Nat) (n B : Nat),
      (∀ (ρ : LMap) (a : Act) (w : World) (Q : Exit → Act → World → Prop), GlobOk C.G ρ → EnvR ρ env nt a.tmps → Emb ρ B H w →
        (∀ ρ' a' w', ρ.le ρ' → EnvR ρ' env' nt a'.tmps → Emb ρ' B H' w' → a'.defers = a.defers → Below B w w' → Q .normal a' w') → wpOpsIn (wf rb) n C.P ops Q l a w) ∧
      tr.length = l.length ∧ (tr.head?.map (·.env)).getD env' = env ∧ (tr.head?.map (·.H)).getD H' = H ∧
      (∀ (k i : Nat) (o : Oper), l[k]? = some i → ops[i]? = some o → ∃ x, tr[k]? = some x ∧ (tr[k + 1]?.map (·.env)).getD env' = put x.env nt o.dst x.v ∧ (tr[k + 1]?.map (·.H)).getD H' = x.H' ∧
        OpS C.G (wf rb) n C.P B nt ops i o x.env x.H x.v x.H' ∧ (isM o.op = false → x.H' = x.H ∧ ∀ H2, Still C.P ops nt o x.env x.v H2 → OpS C.G (wf rb) n C.P B nt ops i o x.env H2 x.v H2))

end Go.Proofs.YtikkokolmipppaaA

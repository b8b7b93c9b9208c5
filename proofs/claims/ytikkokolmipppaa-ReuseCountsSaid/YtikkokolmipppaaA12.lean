/-
  A SMALL HEAP FOR A LARGE ONE (part 12: rows of equations by which the walk goes on by itself). Own text of this session.
-/
import Derived.Test.YtikkokolmipppaaA11
set_option linter.unusedVariables false
set_option linter.unusedSimpArgs false
namespace Go.Proofs.YtikkokolmipppaaA
open Go Go.RowKit

/-- what stands beside a term that simp is not to enter -/
inductive Lock.{u} {α : Type u} (a : α) : Type
  | mk
def onBool (v : Value) (p q : Prop) (_ : Lock p := .mk) (_ : Lock q := .mk) : Prop := match v with
  | .bool true => p
  | .bool false => q
  | _ => False
@[simp] theorem onBool_true (p q : Prop) : onBool (.bool true) p q = p := (rfl)
@[simp] theorem onBool_false (p q : Prop) : onBool (.bool false) p q = q := (rfl)
theorem onBool_if {b : Bool} {p q : Prop} (h1 : b = true → p) (h2 : b = false → q) : onBool (.bool b) p q := by
  cases b
  · exact h2 rfl
  · exact h1 rfl
theorem onBool_dec {d : Prop} [Decidable d] {p q : Prop} (h1 : d → p) (h2 : ¬ d → q) : onBool (.bool (decide d)) p q := onBool_if (fun h => h1 (of_decide_eq_true h)) (fun h => h2 (of_decide_eq_false h))
section
variable {C : Cx} {nt : Nat} {ro : Option Nat}

/-! ### 1. Codes -/
def awL (C : Cx) (nt : Nat) (ro : Option Nat) (a : AC) (Q : Ex → St → Prop) (s : St) (_ : Lock Q := .mk) : Prop := aw C nt ro (.loop a) Q s
def awR (C : Cx) (nt : Nat) (ro : Option Nat) (f : Operand) (ps : Array Tmp) (as bd : Code) (Q : Ex → St → Prop) (s : St) (_ : Lock Q := .mk) : Prop := aw C nt ro (.range f ps as bd) Q s
def CallW (C : Cx) (g : Value) (xs : Array Value) (H : AH) (K : Value → AH → Prop) (_ : Lock K := .mk) : Prop := CallV C g xs H K
@[simp ↓] theorem aw_loop_eq (a : AC) (Q : Ex → St → Prop) (s : St) : aw C nt ro (.loop a) Q s = awL C nt ro a Q s := (rfl)
@[simp ↓] theorem aw_range_eq (f : Operand) (ps : Array Tmp) (as bd : Code) (Q : Ex → St → Prop) (s : St) : aw C nt ro (.range f ps as bd) Q s = awR C nt ro f ps as bd Q s := (rfl)
@[simp ↓] theorem aw_skip (Q : Ex → St → Prop) (s : St) : aw C nt ro .skip Q s = Q .normal s := (rfl)
@[simp ↓] theorem aw_exit (id : Nat) (Q : Ex → St → Prop) (s : St) : aw C nt ro (.exit id) Q s = Q (.exit id) s := (rfl)
@[simp ↓] theorem aw_ret (Q : Ex → St → Prop) (s : St) : aw C nt ro .ret Q s = Q .ret s := (rfl)
@[simp ↓] theorem aw_ops (l : List AO) (Q : Ex → St → Prop) (s : St) : aw C nt ro (.ops l) Q s = awO C nt l s.env s.H fun env H => Q .normal ⟨env, H, s.ds⟩ := (rfl)
@[simp ↓] theorem aw_opsD (l : List AO) (ps : List (Nat × Nat)) (Q : Ex → St → Prop) (s : St) : aw C nt ro (.opsD l ps) Q s = awD C nt l s.env s.H [] fun tr env H => pairsA C nt l tr ps ∧ Q .normal ⟨env, H, s.ds⟩ := (rfl)
@[simp ↓] theorem aw_seq (a b : AC) (Q : Ex → St → Prop) (s : St) : aw C nt ro (.seq a b) Q s = aw C nt ro a (thenE (aw C nt ro b Q) Q) s := (rfl)
@[simp ↓] theorem aw_cond (c : Operand) (a b : AC) (Q : Ex → St → Prop) (s : St) : aw C nt ro (.cond c a b) Q s ↔ onBool (aeval s.env c) (aw C nt ro a Q s) (aw C nt ro b Q s) := by
  show (∃ t, aeval s.env c = .bool t ∧ (t = true → aw C nt ro a Q s) ∧ (t = false → aw C nt ro b Q s)) ↔ _
  cases aeval s.env c with
  | bool t => cases t <;> simp [onBool]
  | _ => simp [onBool]
@[simp ↓] theorem aw_block (id : Nat) (a : AC) (Q : Ex → St → Prop) (s : St) : aw C nt ro (.block id a) Q s = aw C nt ro a (blockE id Q) s := (rfl)
@[simp ↓] theorem thenE_normal (K : St → Prop) (Q : Ex → St → Prop) (s : St) : thenE K Q .normal s = K s := (rfl)
@[simp ↓] theorem thenE_exit (K : St → Prop) (Q : Ex → St → Prop) (s : St) (id : Nat) : thenE K Q (.exit id) s = Q (.exit id) s := (rfl)
@[simp ↓] theorem thenE_ret (K : St → Prop) (Q : Ex → St → Prop) (s : St) : thenE K Q .ret s = Q .ret s := (rfl)
@[simp ↓] theorem blockE_normal (id : Nat) (Q : Ex → St → Prop) (s : St) : blockE id Q .normal s = Q .normal s := (rfl)
@[simp ↓] theorem blockE_ret (id : Nat) (Q : Ex → St → Prop) (s : St) : blockE id Q .ret s = Q .ret s := (rfl)
@[simp ↓] theorem blockE_exit (id i : Nat) (Q : Ex → St → Prop) (s : St) : blockE id Q (.exit i) s = if i = id then Q .normal s else Q (.exit i) s := (rfl)
@[simp ↓] theorem awO_nil (env : Env) (H : AH) (K : Env → AH → Prop) : awO C nt [] env H K = K env H := (rfl)
@[simp ↓] theorem awO_cons (o : AO) (l : List AO) (env : Env) (H : AH) (K : Env → AH → Prop) : awO C nt (o :: l) env H K = awOp C nt o env H fun v H' => awO C nt l (put env nt o.dst v) H' K := (rfl)
@[simp ↓] theorem awD_nil (env : Env) (H : AH) (tr : List Rec) (K : List Rec → Env → AH → Prop) : awD C nt [] env H tr K = K tr env H := (rfl)
@[simp ↓] theorem awD_cons (o : AO) (l : List AO) (env : Env) (H : AH) (tr : List Rec) (K : List Rec → Env → AH → Prop) : awD C nt (o :: l) env H tr K = awOp C nt o env H fun v H' => awD C nt l (put env nt o.dst v) H' (tr ++ [⟨env, H, v, H'⟩]) K := (rfl)
@[simp ↓] theorem pairsA_nil (l : List AO) (tr : List Rec) : pairsA C nt l tr [] = True := (rfl)
/-- one operation, with no call -/
theorem awOp_go {d : Option Tmp} {op : Op} {ty : TypeId} {gd : Option (Tmp × Bool)} {env : Env} {H : AH} {K : Value → AH → Prop} (hop : ∀ g a t, op ≠ .call ⟨.value g, a, t⟩) :
    awOp C nt ⟨d, op, ty, gd⟩ env H K = if yieldedA env nt gd = true then (match aop C.P op ty (aeval env) H with | some (v, H') => K v H' | none => False) else K Go.undef H := by
  unfold awOp
  split
  · split
    · rename_i g a t e; exact absurd e (hop g a t)
    · rfl
  · rfl
theorem awOp_call {d : Option Tmp} {g : Operand} {args : Array Operand} {ats : Array TypeId} {ty : TypeId} {gd : Option (Tmp × Bool)} {env : Env} {H : AH} {K : Value → AH → Prop} :
    awOp C nt ⟨d, .call ⟨.value g, args, ats⟩, ty, gd⟩ env H K = if yieldedA env nt gd = true then CallV C (aeval env g) (args.map (aeval env)) H K else K Go.undef H := rfl
@[simp] theorem yieldedA_none (env : Env) : yieldedA env nt none = true := (rfl)
@[simp] theorem yieldedA_some (env : Env) (d : Tmp) (b : Bool) : yieldedA env nt (some (d, b)) = if d < nt then (match env d with | .bool c => c == b | _ => false) else false := (rfl)
@[simp] theorem put_at (env : Env) (d : Tmp) (v : Value) (t : Nat) : put env nt (some d) v t = if t = d ∧ d < nt then v else env t := (rfl)
@[simp] theorem put_no (env : Env) (v : Value) : put env nt none v = env := (rfl)
@[simp] theorem aeval_tmp (env : Env) (t : Tmp) : aeval env (.tmp t) = env t := (rfl)
@[simp] theorem aeval_const (env : Env) (v : Value) : aeval env (.const v) = v := (rfl)
@[simp] theorem aeval_func (env : Env) (f : FuncId) : aeval env (.func f) = .func (.func f) #[] #[] := (rfl)
@[simp] theorem aeval_global (env : Env) (g : Nat) : aeval env (.global g) = .pointer (some ⟨g, 0, none⟩) := (rfl)
@[simp] theorem env1 (a : Value) : envOf #[a] 0 = a := (rfl)
@[simp] theorem env2_0 (a b : Value) : envOf #[a, b] 0 = a := (rfl)
@[simp] theorem env2_1 (a b : Value) : envOf #[a, b] 1 = b := (rfl)
@[simp] theorem env3_0 (a b c : Value) : envOf #[a, b, c] 0 = a := (rfl)
@[simp] theorem env3_1 (a b c : Value) : envOf #[a, b, c] 1 = b := (rfl)
@[simp] theorem env3_2 (a b c : Value) : envOf #[a, b, c] 2 = c := (rfl)
@[simp] theorem env4_0 (a b c d : Value) : envOf #[a, b, c, d] 0 = a := (rfl)
@[simp] theorem env4_1 (a b c d : Value) : envOf #[a, b, c, d] 1 = b := (rfl)
@[simp] theorem env4_2 (a b c d : Value) : envOf #[a, b, c, d] 2 = c := (rfl)
@[simp] theorem env4_3 (a b c d : Value) : envOf #[a, b, c, d] 3 = d := (rfl)

/-! ### 2. Operations -/
variable {P : Program}
section
variable {d : Option Tmp} {ty : TypeId} {gd : Option (Tmp × Bool)} {env : Env} {H : AH} {K : Value → AH → Prop}
/-- on with what came of an operation -/
def goOn (r : Option (Value × AH)) (K : Value → AH → Prop) (_ : Lock K := .mk) : Prop := match r with | some (v, H') => K v H' | none => False
@[simp] theorem goOn_some (v : Value) (H : AH) (K : Value → AH → Prop) : goOn (some (v, H)) K = K v H := (rfl)
/-- guarded, or not -/
def gdIf (b : Bool) (p q : Prop) (_ : Lock p := .mk) (_ : Lock q := .mk) : Prop := if b = true then p else q
@[simp] theorem gdIf_true (p q : Prop) : gdIf true p q = p := (rfl)
@[simp] theorem gdIf_false (p q : Prop) : gdIf false p q = q := (rfl)
theorem awOp_goOn {op : Op} (hop : ∀ g a t, op ≠ .call ⟨.value g, a, t⟩) : awOp C nt ⟨d, op, ty, gd⟩ env H K = gdIf (yieldedA env nt gd) (goOn (aop C.P op ty (aeval env) H) K) (K Go.undef H) := awOp_go hop
@[simp ↓] theorem op_move (x : Operand) : awOp C nt ⟨d, .move x, ty, gd⟩ env H K = gdIf (yieldedA env nt gd) (K (aeval env x) H) (K Go.undef H) := awOp_goOn (by simp)
@[simp ↓] theorem op_assign (x : Operand) : awOp C nt ⟨d, .assign x, ty, gd⟩ env H K = gdIf (yieldedA env nt gd) (K (aeval env x) H) (K Go.undef H) := awOp_goOn (by simp)
def aPick (c a b : Value) : Option Value := match c with | .bool t => some (if t = true then a else b) | _ => none
@[simp] theorem aPick_bool (t : Bool) (a b : Value) : aPick (.bool t) a b = some (if t = true then a else b) := (rfl)
@[simp ↓] theorem op_pick (c a b : Operand) : awOp C nt ⟨d, .pick c a b, ty, gd⟩ env H K = gdIf (yieldedA env nt gd) (goOn ((aPick (aeval env c) (aeval env a) (aeval env b)).map fun v => (v, H)) K) (K Go.undef H) := by
  have e : aop C.P (.pick c a b) ty (aeval env) H = (aPick (aeval env c) (aeval env a) (aeval env b)).map fun v => (v, H) := by
    simp only [aop, aPick]
    cases aeval env c <;> rfl
  rw [awOp_goOn (by simp), e]
@[simp ↓] theorem op_alloc (t : TypeId) : awOp C nt ⟨d, .alloc t, ty, gd⟩ env H K = gdIf (yieldedA env nt gd) (goOn (aAlloc C.P t H) K) (K Go.undef H) := awOp_goOn (by simp)
@[simp ↓] theorem op_box (t : TypeId) (x : Operand) : awOp C nt ⟨d, .box t x, ty, gd⟩ env H K = gdIf (yieldedA env nt gd) (K (aBox t (aeval env x) H).1 (aBox t (aeval env x) H).2) (K Go.undef H) := awOp_goOn (by simp)
@[simp ↓] theorem op_build (t : TypeId) (ps : Array (Nat × Operand)) : awOp C nt ⟨d, .build t ps, ty, gd⟩ env H K = gdIf (yieldedA env nt gd) (goOn ((aBuild C.P t (ps.toList.map fun x => (x.1, aeval env x.2))).map fun v => (v, H)) K) (K Go.undef H) := awOp_goOn (by simp)
@[simp ↓] theorem op_buildSlice (t : TypeId) (n : Nat) (ps : Array (Nat × Operand)) : awOp C nt ⟨d, .buildSlice t n ps, ty, gd⟩ env H K = gdIf (yieldedA env nt gd) (goOn (aBuildSlice C.P t n (ps.toList.map fun x => (x.1, aeval env x.2)) H) K) (K Go.undef H) := awOp_goOn (by simp)
@[simp ↓] theorem op_load (t : TypeId) (x : Operand) : awOp C nt ⟨d, .load t x, ty, gd⟩ env H K = gdIf (yieldedA env nt gd) (goOn ((aLoad C.P t (aeval env x) H).map fun v => (v, H)) K) (K Go.undef H) := awOp_goOn (by simp)
@[simp ↓] theorem op_store (t : TypeId) (x y : Operand) : awOp C nt ⟨d, .store t x y, ty, gd⟩ env H K = gdIf (yieldedA env nt gd) (goOn ((aStore C.P t (aeval env x) (aeval env y) H).map fun H' => (Go.undef, H')) K) (K Go.undef H) := awOp_goOn (by simp)
def aNilCheck (x : Value) : Option Value := match x with | .pointer (some a) => some (.pointer (some a)) | .func (.func f) fs cs => some (.func (.func f) fs cs) | .func (.yield l) fs cs => some (.func (.yield l) fs cs) | _ => none
@[simp] theorem aNilCheck_ptr (a : Addr) : aNilCheck (.pointer (some a)) = some (.pointer (some a)) := (rfl)
@[simp] theorem aNilCheck_func (f : FuncId) (fs cs : Array Value) : aNilCheck (.func (.func f) fs cs) = some (.func (.func f) fs cs) := (rfl)
@[simp] theorem aNilCheck_yield (l : Nat) (fs cs : Array Value) : aNilCheck (.func (.yield l) fs cs) = some (.func (.yield l) fs cs) := (rfl)
@[simp ↓] theorem op_nilCheck (x : Operand) : awOp C nt ⟨d, .nilCheck x, ty, gd⟩ env H K = gdIf (yieldedA env nt gd) (goOn ((aNilCheck (aeval env x)).map fun v => (v, H)) K) (K Go.undef H) := by
  have e : aop C.P (.nilCheck x) ty (aeval env) H = (aNilCheck (aeval env x)).map fun v => (v, H) := by
    simp only [aop, aNilCheck]
    cases aeval env x with
    | pointer a => cases a <;> rfl
    | func fn fs cs => cases fn <;> rfl
    | _ => rfl
  rw [awOp_goOn (by simp), e]
@[simp ↓] theorem op_binOp (op : BinOp) (t t2 : TypeId) (x y : Operand) : awOp C nt ⟨d, .binOp op t x y t2, ty, gd⟩ env H K = gdIf (yieldedA env nt gd) (goOn ((chk (aBin C.P op t x y (aeval env x) (aeval env y))).map fun v => (v, H)) K) (K Go.undef H) := awOp_goOn (by simp)
@[simp ↓] theorem op_unOp (op : UnOp) (t : TypeId) (x : Operand) : awOp C nt ⟨d, .unOp op t x, ty, gd⟩ env H K = gdIf (yieldedA env nt gd) (goOn ((chk (aUn C.P op (aeval env x))).map fun v => (v, H)) K) (K Go.undef H) := awOp_goOn (by simp)
@[simp ↓] theorem op_convert (t1 t2 : TypeId) (x : Operand) : awOp C nt ⟨d, .convert t1 t2 x, ty, gd⟩ env H K = gdIf (yieldedA env nt gd) (goOn (if isStrB t1 t2 = true then aBytes C.P t1 t2 (aeval env x) H else (chk (aConv C.P t1 t2 (aeval env x) H)).map fun v => (v, H)) K) (K Go.undef H) := awOp_goOn (by simp)
@[simp ↓] theorem op_makeFunc (f : FuncId) (fs cs : Array Operand) : awOp C nt ⟨d, .makeFunc (.func f) fs cs, ty, gd⟩ env H K = gdIf (yieldedA env nt gd) (K (.func (.func f) (fs.map (aeval env)) (cs.map (aeval env))) H) (K Go.undef H) := awOp_goOn (by simp)
@[simp ↓] theorem op_makeSlice (t : TypeId) (x y : Operand) : awOp C nt ⟨d, .makeSlice t x y, ty, gd⟩ env H K = gdIf (yieldedA env nt gd) (goOn (aMakeSlice C.P t (aeval env x) (aeval env y) H) K) (K Go.undef H) := awOp_goOn (by simp)
@[simp ↓] theorem op_makeMap (t : TypeId) : awOp C nt ⟨d, .makeMap t none, ty, gd⟩ env H K = gdIf (yieldedA env nt gd) (goOn (aMakeMap C.P t H) K) (K Go.undef H) := awOp_goOn (by simp)
@[simp ↓] theorem op_lookup (t : TypeId) (x i : Operand) (ok : Bool) : awOp C nt ⟨d, .lookup t x i ok, ty, gd⟩ env H K = gdIf (yieldedA env nt gd) (goOn ((aLookup C.P t (aeval env x) (aeval env i) ok H).map fun v => (v, H)) K) (K Go.undef H) := awOp_goOn (by simp)
@[simp ↓] theorem op_mapUpdate (t : TypeId) (m k v : Operand) : awOp C nt ⟨d, .mapUpdate t m k v, ty, gd⟩ env H K = gdIf (yieldedA env nt gd) (goOn ((aMapUpdate C.P t (aeval env m) (aeval env k) (aeval env v) H).map fun H' => (Go.undef, H')) K) (K Go.undef H) := awOp_goOn (by simp)
@[simp ↓] theorem op_mapEntry (t : TypeId) (m k : Operand) : awOp C nt ⟨d, .mapEntry t m k, ty, gd⟩ env H K = gdIf (yieldedA env nt gd) (goOn (aMapEntry C.P t (aeval env m) (aeval env k) H) K) (K Go.undef H) := awOp_goOn (by simp)
@[simp ↓] theorem op_entryStore (t : TypeId) (m s v : Operand) : awOp C nt ⟨d, .entryStore t m s v, ty, gd⟩ env H K = gdIf (yieldedA env nt gd) (goOn ((aEntryStore (aeval env m) (aeval env s) (aeval env v) H).map fun H' => (Go.undef, H')) K) (K Go.undef H) := awOp_goOn (by simp)
@[simp ↓] theorem op_slice (t : TypeId) (x : Operand) (lo hi : Option Operand) : awOp C nt ⟨d, .slice t x lo hi none, ty, gd⟩ env H K = gdIf (yieldedA env nt gd) (goOn ((aSlice C.P t (aeval env x) (lo.map (aeval env)) (hi.map (aeval env)) H).map fun v => (v, H)) K) (K Go.undef H) := awOp_goOn (by simp)
@[simp ↓] theorem op_fieldAddr (t : TypeId) (x : Operand) (f : Nat) : awOp C nt ⟨d, .fieldAddr t x f, ty, gd⟩ env H K = gdIf (yieldedA env nt gd) (goOn ((aFieldAddr C.P t (aeval env x) f).map fun v => (v, H)) K) (K Go.undef H) := awOp_goOn (by simp)
@[simp ↓] theorem op_field (t : TypeId) (x : Operand) (f : Nat) : awOp C nt ⟨d, .field t x f, ty, gd⟩ env H K = gdIf (yieldedA env nt gd) (goOn ((aField C.P t (aeval env x) f).map fun v => (v, H)) K) (K Go.undef H) := awOp_goOn (by simp)
@[simp ↓] theorem op_indexAddr (t : TypeId) (x y : Operand) : awOp C nt ⟨d, .indexAddr t x y, ty, gd⟩ env H K = gdIf (yieldedA env nt gd) (goOn ((aIndexAddr C.P t (aeval env x) (aeval env y)).map fun v => (v, H)) K) (K Go.undef H) := awOp_goOn (by simp)
@[simp ↓] theorem op_index (t : TypeId) (x y : Operand) : awOp C nt ⟨d, .index t x y, ty, gd⟩ env H K = gdIf (yieldedA env nt gd) (goOn ((aIndex C.P t (aeval env x) (aeval env y)).map fun v => (v, H)) K) (K Go.undef H) := awOp_goOn (by simp)
@[simp ↓] theorem op_extract (x : Operand) (i : Nat) : awOp C nt ⟨d, .extract x i, ty, gd⟩ env H K = gdIf (yieldedA env nt gd) (goOn ((aExtract (aeval env x) i).map fun v => (v, H)) K) (K Go.undef H) := awOp_goOn (by simp)
@[simp ↓] theorem op_builtin (b : Builtin) (args : Array Operand) (ats : Array TypeId) : awOp C nt ⟨d, .call ⟨.builtin b, args, ats⟩, ty, gd⟩ env H K = gdIf (yieldedA env nt gd) (goOn (aBuiltin C.P b ats ty (args.map (aeval env)) H) K) (K Go.undef H) := awOp_goOn (by simp)
@[simp ↓] theorem op_call (g : Operand) (args : Array Operand) (ats : Array TypeId) : awOp C nt ⟨d, .call ⟨.value g, args, ats⟩, ty, gd⟩ env H K = gdIf (yieldedA env nt gd) (CallW C (aeval env g) (args.map (aeval env)) H K) (K Go.undef H) := (rfl)
end

/-! ### 3. What the operations come to -/
@[simp] theorem aExtract_tuple (vs : Array Value) (i : Nat) : aExtract (.tuple vs) i = vs[i]? := (rfl)
theorem aLoad_s {t : TypeId} (h : aggT P t = some false) (l o : Nat) (H : AH) : aLoad P t (.pointer (some ⟨l, o, none⟩)) H = H.rd l o := by simp [aLoad, h]
theorem aLoad_a {t : TypeId} {n : Nat} (h : aggT P t = some true) (hs : sz P t = some n) (l o : Nat) (H : AH) : aLoad P t (.pointer (some ⟨l, o, none⟩)) H = (H.row l o n).map fun vs => .agg vs.toArray := by simp [aLoad, h, hs]
theorem aStore_s {t : TypeId} (h : sz P t = some 1) {v : Value} (hv : isCell v = true) (l o : Nat) (H : AH) : aStore P t (.pointer (some ⟨l, o, none⟩)) v H = H.wrs l o [v] := by
  cases v <;> simp [isCell] at hv <;> simp [aStore, Value.cells, h]
theorem aStore_a {t : TypeId} {n : Nat} (h : sz P t = some n) {cs : Array Value} (hn : cs.size = n) (l o : Nat) (H : AH) : aStore P t (.pointer (some ⟨l, o, none⟩)) (.agg cs) H = H.wrs l o cs.toList := by
  simp [aStore, Value.cells, h, hn]
theorem rd_of {H : AH} {l o : Nat} {cs : List Value} {T : TypeId} {own : Bool} {z : Nat} (h : H.get l = some (.cells cs T own z)) : H.rd l o = cs[o]? := by simp [AH.rd, h]
theorem row_of {H : AH} {l o n : Nat} {cs : List Value} {T : TypeId} {own : Bool} {z : Nat} (h : H.get l = some (.cells cs T own z)) (hl : o + n ≤ cs.length) : H.row l o n = some ((cs.drop o).take n) := by simp [AH.row, h, hl]
theorem wr_of {H : AH} {l o : Nat} {v : Value} {cs : List Value} {T : TypeId} {z : Nat} (h : H.get l = some (.cells cs T true z)) (ho : o < cs.length) (hv : isCell v = true) : H.wrs l o [v] = some ⟨H.next, upd H.get l (.cells (cs.set o v) T true z)⟩ := by
  have : o + 1 ≤ cs.length := ho
  simp [AH.wrs, h, hv, setAll, this]
theorem wrs_of {H : AH} {l o : Nat} {vs : List Value} {cs : List Value} {T : TypeId} {z : Nat} (h : H.get l = some (.cells cs T true z)) (ho : o + vs.length ≤ cs.length) (hv : vs.all isCell = true) : H.wrs l o vs = some ⟨H.next, upd H.get l (.cells (setAll cs o vs) T true z)⟩ := by
  simp only [AH.wrs, h]
  rw [if_pos ⟨trivial, ho, hv⟩]
@[simp] theorem isCell_int (k : IntKind) (n : Int) : isCell (.int k n) = true := (rfl)
@[simp] theorem isCell_bool (b : Bool) : isCell (.bool b) = true := (rfl)
@[simp] theorem isCell_string (s : ByteArray) : isCell (.string s) = true := (rfl)
@[simp] theorem isCell_pointer (a : Option Addr) : isCell (.pointer a) = true := (rfl)
@[simp] theorem isCell_slice (a : Option Addr) (n c : Nat) : isCell (.slice a n c) = true := (rfl)
@[simp] theorem isCell_func (f : Fn) (a c : Array Value) : isCell (.func f a c) = true := (rfl)
@[simp] theorem isCell_nilFunc : isCell .nilFunc = true := (rfl)
@[simp] theorem isCell_map (r : Option Nat) : isCell (.map r) = true := (rfl)
@[simp] theorem isCell_iface (t : TypeId) (v : Value) : isCell (.iface t v) = true := (rfl)
@[simp] theorem isCell_nilIface : isCell .nilIface = true := (rfl)
@[simp] theorem chk_bool (b : Bool) : chk (some (.bool b)) = some (.bool b) := (rfl)
@[simp] theorem chk_int (k : IntKind) (n : Int) : chk (some (.int k n)) = some (.int k n) := (rfl)
@[simp] theorem chk_string (s : ByteArray) : chk (some (.string s)) = some (.string s) := (rfl)
section
variable (t : TypeId) (ox oy : Operand)
theorem aBin_data (op : BinOp) {x y : Value} (hn : aNil P op t x y = none) (hx : plain x = true) (hy : plain y = true) : aBin P op t ox oy x y = Sem.val P (do eqGuard op t ox oy x y; binOp op t x y) := by simp [aBin, hn, hx, hy]
theorem aNil_int (op : BinOp) (k k' : IntKind) (a b : Int) : aNil P op t (.int k a) (.int k' b) = none := by
  unfold aNil
  split <;> (try split) <;> rfl
theorem aBin_int (op : BinOp) (k : IntKind) (a b : Int) : aBin P op t ox oy (.int k a) (.int k b) = Sem.val P (do eqGuard op t ox oy (.int k a) (.int k b); binOp op t (.int k a) (.int k b)) := aBin_data t ox oy op (aNil_int t op k k a b) rfl rfl
@[simp] theorem val_pure {α : Type} (a : α) : Sem.val P (Pure.pure a : Sem α) = some a := (rfl)
@[simp] theorem aBin_add (k : IntKind) (a b : Int) : aBin P .add t ox oy (.int k a) (.int k b) = some (.int k (k.wrap (a + b))) := by rw [aBin_int]; cases k <;> rfl
@[simp] theorem aBin_sub (k : IntKind) (a b : Int) : aBin P .sub t ox oy (.int k a) (.int k b) = some (.int k (k.wrap (a - b))) := by rw [aBin_int]; cases k <;> rfl
@[simp] theorem aBin_mul (k : IntKind) (a b : Int) : aBin P .mul t ox oy (.int k a) (.int k b) = some (.int k (k.wrap (a * b))) := by rw [aBin_int]; cases k <;> rfl
@[simp] theorem aBin_eql (k : IntKind) (a b : Int) : aBin P .eql t ox oy (.int k a) (.int k b) = some (.bool (decide (a = b))) := by
  rw [aBin_int, eqGuard_at_int, binOp_eql]
  show some (Value.bool (a == b)) = _
  by_cases h : a = b <;> simp [h]
@[simp] theorem aBin_neq (k : IntKind) (a b : Int) : aBin P .neq t ox oy (.int k a) (.int k b) = some (.bool (decide (a ≠ b))) := by
  rw [aBin_int, eqGuard_at_int, binOp_neq]
  show some (Value.bool (a != b)) = _
  by_cases h : a = b <;> simp [h]
@[simp] theorem aBin_lss (k : IntKind) (a b : Int) : aBin P .lss t ox oy (.int k a) (.int k b) = some (.bool (decide (a < b))) := by rw [aBin_int, eqGuard_at_int, binOp_lss]; rfl
@[simp] theorem aBin_leq (k : IntKind) (a b : Int) : aBin P .leq t ox oy (.int k a) (.int k b) = some (.bool (decide (a ≤ b))) := by rw [aBin_int, eqGuard_at_int, binOp_leq]; rfl
@[simp] theorem aBin_gtr (k : IntKind) (a b : Int) : aBin P .gtr t ox oy (.int k a) (.int k b) = some (.bool (decide (b < a))) := by rw [aBin_int, eqGuard_at_int, binOp_gtr]; rfl
@[simp] theorem aBin_geq (k : IntKind) (a b : Int) : aBin P .geq t ox oy (.int k a) (.int k b) = some (.bool (decide (b ≤ a))) := by rw [aBin_int, eqGuard_at_int, binOp_geq]; rfl
theorem aBin_rem (k : IntKind) (a b : Int) (h : b ≠ 0) : aBin P .rem t ox oy (.int k a) (.int k b) = some (.int k (a.tmod b)) := by
  rw [aBin_int, eqGuard_at_int, binOp_rem]
  simp [Op.intDiv, h]
theorem aBin_quo (k : IntKind) (a b : Int) (h : b ≠ 0) : aBin P .quo t ox oy (.int k a) (.int k b) = some (.int k (k.wrap (a.tdiv b))) := by
  rw [aBin_int, eqGuard_at_int, binOp_quo]
  simp [Op.intDiv, h]
@[simp] theorem aBin_and (k : IntKind) (a b : Int) : aBin P .and t ox oy (.int k a) (.int k b) = some (.int k (bits .and k a b)) := by rw [aBin_int, eqGuard_at_int, binOp_and]; rfl
@[simp] theorem aBin_or (k : IntKind) (a b : Int) : aBin P .or t ox oy (.int k a) (.int k b) = some (.int k (bits .or k a b)) := by rw [aBin_int, eqGuard_at_int, binOp_or]; rfl
@[simp] theorem aBin_xor (k : IntKind) (a b : Int) : aBin P .xor t ox oy (.int k a) (.int k b) = some (.int k (bits .xor k a b)) := by rw [aBin_int, eqGuard_at_int, binOp_xor]; rfl
@[simp] theorem aBin_andNot (k : IntKind) (a b : Int) : aBin P .andNot t ox oy (.int k a) (.int k b) = some (.int k (bits .andNot k a b)) := by rw [aBin_int, eqGuard_at_int, binOp_andNot]; rfl
theorem aBin_shift (op : BinOp) (k k' : IntKind) (a b : Int) : aBin P op t ox oy (.int k a) (.int k' b) = Sem.val P (do eqGuard op t ox oy (.int k a) (.int k' b); binOp op t (.int k a) (.int k' b)) := aBin_data t ox oy op (aNil_int t op k k' a b) rfl rfl
theorem aBin_shl (k k' : IntKind) (a b : Int) (h : 0 ≤ b) : aBin P .shl t ox oy (.int k a) (.int k' b) = some (.int k (k.wrap (a * 2 ^ min b.toNat k.bits))) := by
  rw [aBin_shift, eqGuard_at_int, binOp_shl]
  have : ¬ b < 0 := by omega
  simp [Op.shift, this]
theorem aBin_shr (k k' : IntKind) (a b : Int) (h : 0 ≤ b) : aBin P .shr t ox oy (.int k a) (.int k' b) = some (.int k (a / 2 ^ min b.toNat k.bits)) := by
  rw [aBin_shift, eqGuard_at_int, binOp_shr]
  have : ¬ b < 0 := by omega
  simp only [Op.shift, this, if_false]
  have e : a.fdiv (2 ^ min b.toNat k.bits) = a / 2 ^ min b.toNat k.bits := Int.fdiv_eq_ediv_of_nonneg _ (by exact_mod_cast Nat.zero_le _)
  rw [e]
  rfl
theorem aBin_ptrnil {e : TypeId} (h : P.underlying t = some (.pointer e)) (a : Option Addr) : aBin P .eql t ox oy (.pointer a) (.pointer none) = some (.bool a.isNone) := by simp [aBin, aNil, h, nilFits, nilCmp]
theorem aBin_ptrnnil {e : TypeId} (h : P.underlying t = some (.pointer e)) (a : Option Addr) : aBin P .neq t ox oy (.pointer a) (.pointer none) = some (.bool (!a.isNone)) := by simp [aBin, aNil, h, nilFits, nilCmp]
theorem aBin_funcnil {p r : Array TypeId} {va : Bool} (h : P.underlying t = some (.func p r va)) (f : Fn) (a c : Array Value) : aBin P .eql t ox oy (.func f a c) .nilFunc = some (.bool false) := by simp [aBin, aNil, h, nilFits, nilCmp]
theorem toList_inj {a b : ByteArray} (h : a.toList = b.toList) : a = b := by
  have ha : a.data.toList = b.data.toList := by simpa [ByteArray.toList_eq] using h
  cases a; cases b; simp at ha; simp [ha]
theorem aBin_streq (h : P.underlying t = some .string) (a b : ByteArray) : aBin P .eql t ox oy (.string a) (.string b) = some (.bool (decide (a = b))) := by
  rw [aBin_data t ox oy .eql (by simp [aNil, h, nilFits]) rfl rfl, eqGuard_at_string]
  show some (Value.bool (a.toList == b.toList)) = _
  by_cases hab : a = b
  · subst hab; simp
  · rw [decide_eq_false hab, beq_eq_false_iff_ne.mpr (fun h => hab (toList_inj h))]
end
theorem aBin_strne (t : TypeId) (ox oy : Operand) (h : P.underlying t = some .string) (a b : ByteArray) : aBin P .neq t ox oy (.string a) (.string b) = some (.bool (decide (a ≠ b))) := by
  rw [aBin_data t ox oy .neq (by simp [aNil, h, nilFits]) rfl rfl, eqGuard_at_string]
  show some (Value.bool (!(a.toList == b.toList))) = _
  by_cases hab : a = b
  · subst hab; simp
  · rw [decide_eq_true (show a ≠ b from hab), beq_eq_false_iff_ne.mpr (fun h => hab (toList_inj h))]; rfl
theorem aLen_slice {t e : TypeId} (h : P.underlying t = some (.slice e)) (a : Option Addr) (n c : Nat) : aLen P t (.slice a n c) = some (.int .i64 n) := by simp [aLen, h]
theorem aLen_string {t : TypeId} (h : P.underlying t = some .string) (s : ByteArray) : aLen P t (.string s) = some (.int .i64 s.size) := by simp [aLen, h]
@[simp] theorem aBuiltin_len1 (t ty : TypeId) (x : Value) (H : AH) : aBuiltin P .len #[t] ty #[x] H = (aLenH P t x H).map fun v => (v, H) := (rfl)
theorem aLenH_slice {t e : TypeId} (h : P.underlying t = some (.slice e)) (a : Option Addr) (n c : Nat) (H : AH) : aLenH P t (.slice a n c) H = some (.int .i64 n) := aLenH_some (aLen_slice h a n c)
theorem aLenH_string {t : TypeId} (h : P.underlying t = some .string) (s : ByteArray) (H : AH) : aLenH P t (.string s) H = some (.int .i64 s.size) := aLenH_some (aLen_string h s)
theorem aLenH_map {t k e : TypeId} (hc : mapTs.contains t = true) (h : P.underlying t = some (.map k e)) {l : Nat} {kk vk : IntKind} {es : List (Int × Int)} {H : AH} (hg : H.get l = some (.map kk vk es)) : aLenH P t (.map (some l)) H = some (.int .i64 (es.length : Nat)) := by simp [aLenH, aLen, h, List.contains_iff_mem.1 hc, hg]
@[simp] theorem aBuiltin_copy2 (st xt ty : TypeId) (s x : Value) (H : AH) : aBuiltin P .copy #[st, xt] ty #[s, x] H = aCopy P st s x H := (rfl)
@[simp] theorem isStrB_eq (s d : TypeId) : isStrB s d = (s == 9 && d != 9) := (rfl)
@[simp] theorem aBuiltin_append2 (st xt ty : TypeId) (s x : Value) (H : AH) : aBuiltin P .append #[st, xt] ty #[s, x] H = aAppend P st xt s x H := (rfl)
@[simp] theorem aBuiltin_min2 (t t' ty : TypeId) (k : IntKind) (a b : Int) (H : AH) : aBuiltin P .min #[t, t'] ty #[.int k a, .int k b] H = some (.int k (min a b), H) := by
  simp only [aBuiltin]
  rw [if_pos (by simp [plain, plain1])]
  have : Sem.val P (Builtin.min_ #[t, t'] ty #[.int k a, .int k b]) = some (.int k (if b < a then b else a)) := rfl
  rw [this]
  simp only [chk_int, Option.map_some]
  congr 3
  split <;> omega
@[simp] theorem aBuiltin_max2 (t t' ty : TypeId) (k : IntKind) (a b : Int) (H : AH) : aBuiltin P .max #[t, t'] ty #[.int k a, .int k b] H = some (.int k (max a b), H) := by
  simp only [aBuiltin]
  rw [if_pos (by simp [plain, plain1])]
  have : Sem.val P (Builtin.max_ #[t, t'] ty #[.int k a, .int k b]) = some (.int k (if b > a then b else a)) := rfl
  rw [this]
  simp only [chk_int, Option.map_some]
  congr 3
  split <;> omega
theorem aIndexAddr_slice {t e : TypeId} {s : Nat} (h : P.underlying t = some (.slice e)) (hs : sz P e = some s) (l o n c : Nat) (k : IntKind) (j : Int) (h0 : 0 ≤ j) (h1 : j < n) :
    aIndexAddr P t (.slice (some ⟨l, o, none⟩) n c) (.int k j) = some (.pointer (some ⟨l, o + j.toNat * s, none⟩)) := by simp [aIndexAddr, h, hs, h0, h1]
theorem aIndexAddr_array {t e : TypeId} {s m : Nat} (h : P.underlying t = some (.array m e)) (hs : sz P e = some s) (l o : Nat) (k : IntKind) (j : Int) (h0 : 0 ≤ j) (h1 : j < m) :
    aIndexAddr P t (.pointer (some ⟨l, o, none⟩)) (.int k j) = some (.pointer (some ⟨l, o + j.toNat * s, none⟩)) := by simp [aIndexAddr, h, hs, h0, h1]
/-- calls -/
theorem callV_func {f : FuncId} {fs cs xs : Array Value} {H H' : AH} {v : Value} {K : Value → AH → Prop} (hf : callable C.P f = true) (h : Run C (.call f (fs ++ xs ++ cs) H v H')) (hK : K v H') : CallV C (.func (.func f) fs cs) xs H K :=
  ⟨v, H', .inl ⟨f, fs, cs, rfl, hf, h⟩, hK⟩
theorem callV_plain {f : FuncId} {xs : Array Value} {H H' : AH} {v : Value} {K : Value → AH → Prop} (hf : callable C.P f = true) (h : Run C (.call f xs H v H')) (hK : K v H') : CallV C (.func (.func f) #[] #[]) xs H K :=
  callV_func hf (by simpa using h) hK
@[simp] theorem takeMarks_nil (H : AH) : takeMarks [] H = some H := (rfl)
@[simp] theorem aResults_nil (env : Env) (H : AH) : aResults P [] env H = some [] := (rfl)
@[simp] theorem aResults_1 (t : Tmp) (env : Env) (H : AH) : aResults P [.tmp t] env H = some [env t] := (rfl)
@[simp] theorem aResults_2 (t u : Tmp) (env : Env) (H : AH) : aResults P [.tmp t, .tmp u] env H = some [env t, env u] := (rfl)
@[simp] theorem aResults_3 (t u x : Tmp) (env : Env) (H : AH) : aResults P [.tmp t, .tmp u, .tmp x] env H = some [env t, env u, env x] := (rfl)
@[simp] theorem tupleOf_0 : tupleOf [] = .tuple #[] := (rfl)
@[simp] theorem tupleOf_1 (a : Value) : tupleOf [a] = a := (rfl)
@[simp] theorem tupleOf_2 (a b : Value) : tupleOf [a, b] = .tuple #[a, b] := (rfl)
@[simp] theorem tupleOf_3 (a b c : Value) : tupleOf [a, b, c] = .tuple #[a, b, c] := (rfl)
end
end Go.Proofs.YtikkokolmipppaaA

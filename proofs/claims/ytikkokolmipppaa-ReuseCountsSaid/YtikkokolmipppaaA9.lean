/-
  A SMALL HEAP FOR A LARGE ONE (part 9: each rule of a run holds of the machine). Own text of this session.
-/
import Derived.Test.YtikkokolmipppaaA8
import Derived.Laws.Externs
set_option linter.unusedVariables false
set_option linter.unusedSimpArgs false
namespace Go.Proofs.YtikkokolmipppaaA
open Go Go.RowKit

section
variable {C : Cx}

/-! ### 1. One operation -/
theorem yielded_eq {ρ : LMap} {env : Env} {nt : Nat} {tmps : Array Value} (hE : EnvR ρ env nt tmps) (ops : Array Oper) (j : Nat) : yielded ops tmps j = ayielded ops env nt j := by
  unfold yielded ayielded
  cases hd : (ops[j]?).bind (·.dst) with
  | none => rfl
  | some d =>
    simp only [Option.bind_some]
    have hv := hE.2 d
    simp only [Array.getD_eq_getD_getElem?] at hv
    by_cases hlt : d < nt
    · rw [if_pos hlt]
      have hs : d < tmps.size := by rw [hE.1]; exact hlt
      rw [Array.getElem?_eq_getElem hs] at hv ⊢
      simp only [Option.getD_some] at hv
      generalize tmps[d] = x at hv
      generalize env d = y at hv
      cases hv <;> rfl
    · rw [if_neg hlt]
      have hs : ¬ d < tmps.size := by rw [hE.1]; exact hlt
      rw [Array.getElem?_eq_none (Nat.le_of_not_lt hs)]
theorem wanted_of {ρ : LMap} {env env2 : Env} {nt : Nat} {tmps : Array Value} (hE : EnvR ρ env2 nt tmps) {ops : Array Oper} {o : Oper} (hag : ∀ t ∈ o.looksAt ops, env2 t = env t) :
    Region.wanted o (yielded ops tmps) = Region.wanted o (ayielded ops env nt) := by
  unfold Region.wanted
  cases hg : o.guard with
  | none => rfl
  | some x =>
    obtain ⟨j, b⟩ := x
    simp only
    rw [yielded_eq hE]
    congr 1
    unfold ayielded
    cases hd : (ops[j]?).bind (·.dst) with
    | none => rfl
    | some d =>
      simp only
      rw [hag d (by simp [Oper.looksAt, hg, hd])]
theorem aeval_agree {ops : Array Oper} {o : Oper} {env env2 : Env} (hag : ∀ t ∈ o.looksAt ops, env2 t = env t) {x : Operand} (hx : x ∈ o.op.operands) : aeval env2 x = aeval env x := by
  cases x with
  | tmp t =>
    refine hag t ?_
    simp only [Oper.looksAt, List.mem_append, List.mem_filterMap]
    exact .inl ⟨.tmp t, by simpa using hx, rfl⟩
  | _ => rfl
theorem evR_agree {ρ : LMap} {ops : Array Oper} {o : Oper} {env env2 : Env} {nt : Nat} {a : Act} (hG : GlobOk C.G ρ) (hE : EnvR ρ env2 nt a.tmps) (hok : opsOk C.G o.op = true) (hag : ∀ t ∈ o.looksAt ops, env2 t = env t) : EvR ρ o.op (aeval env) a.eval := by
  intro x hx
  rw [← aeval_agree hag hx]
  exact evR_of hG hE hok x hx

theorem opSkip_ok {nt : Nat} {ops : Array Oper} {i : Nat} {env : Env} {o : Oper} (ho : ops[i]? = some o) (hw : Region.wanted o (ayielded ops env nt) = false) (H : AH) (rb : Option Nat) (n B : Nat) :
    OpS C.G (wf rb) n C.P B nt ops i o env H Go.undef H := by
  intro env2 hag ρ a w hG hE hH Q K hK
  unfold wpOpIn
  rw [ho]
  simp only
  rw [wanted_of hE hag, hw, if_neg (by simp)]
  exact ⟨fun _ _ => trivial, hK ρ Go.undef w (LMap.le_refl _) (VR.undef ρ) hH (Below.refl _ _)⟩
theorem notDefer {op : Op} {ty : TypeId} {e : Operand → Value} {H : AH} {P : Program} {r : Value × AH} (h : aop P op ty e H = some r) : ∀ c, op ≠ .defer c := by
  intro c e
  subst e
  cases h
theorem opPure_ok {nt : Nat} {ops : Array Oper} {i : Nat} {env : Env} {o : Oper} {H H' : AH} {v : Value} (ho : ops[i]? = some o) (hw : Region.wanted o (ayielded ops env nt) = true) (hok : opsOk C.G o.op = true)
    (h : aop C.P o.op o.type (aeval env) H = some (v, H')) (rb : Option Nat) (n B : Nat) : OpS C.G (wf rb) n C.P B nt ops i o env H v H' := by
  intro env2 hag ρ a w hG hE hH Q K hK
  unfold wpOpIn
  rw [ho]
  simp only
  rw [wanted_of hE hag, hw, if_pos rfl]
  refine ⟨fun _ _ => trivial, ?_⟩
  rw [Oper.semAt_plain (wf rb) a.eval o (notDefer h)]
  obtain ⟨v', w', ρ', hr, hv, hle, hE', hB⟩ := aop_sim h (evR_agree hG hE hok hag) hH
  rcases hr with hr | ⟨hr, rfl⟩
  · rw [hr]
    exact hK ρ' v' w' hle hv hE' hB
  · rw [hr]
    exact hK ρ' Go.undef w' hle hv hE' hB
theorem aBuiltin_len (P : Program) (ats : Array TypeId) (ty : TypeId) (xs : Array Value) (H : AH) :
    aBuiltin P .len ats ty xs H = (match ats.toList, xs.toList with | [t], [x] => aLenH P t x H | _, _ => none).map fun v => (v, H) := by
  unfold aBuiltin
  generalize ats.toList = L
  generalize xs.toList = M
  cases L with
  | nil => rfl
  | cons t L =>
    cases L with
    | nil =>
      cases M with
      | nil => rfl
      | cons x M => cases M <;> rfl
    | cons u L =>
      cases M with
      | nil => cases L <;> rfl
      | cons x M => cases L <;> (cases M with | nil => rfl | cons y M => cases M <;> rfl)
theorem aop_calm {P : Program} {op : Op} {ty : TypeId} {e : Operand → Value} {H H' : AH} {v : Value} (hm : isM op = false) (h : aop P op ty e H = some (v, H')) :
    H' = H ∧ ∀ H2, (isR op = false ∨ (aop P op ty e H2).map (·.1) = some v) → aop P op ty e H2 = some (v, H2) := by
  have keep : ∀ (f : AH → Option Value), (∀ H, aop P op ty e H = (f H).map fun v => (v, H)) → (isR op = false → ∀ H H2, f H = f H2) → H' = H ∧ ∀ H2, (isR op = false ∨ (aop P op ty e H2).map (·.1) = some v) → aop P op ty e H2 = some (v, H2) := by
    intro f hf hi
    rw [hf] at h
    obtain ⟨u, hu, he⟩ := map_some h
    cases he
    refine ⟨rfl, fun H2 h2 => ?_⟩
    rw [hf] at h2 ⊢
    rcases h2 with h2 | h2
    · rw [hi h2 H2 H, hu]; rfl
    · cases hx : f H2 with
      | none => rw [hx] at h2; cases h2
      | some u2 =>
        rw [hx] at h2
        simp only [Option.map_some] at h2
        cases h2
        rfl
  cases op with
  | move x => exact keep (fun _ => some (e x)) (fun _ => rfl) (fun _ _ _ => rfl)
  | assign x => exact keep (fun _ => some (e x)) (fun _ => rfl) (fun _ _ _ => rfl)
  | pick c a b =>
    refine keep (fun _ => match e c with | .bool t => some (if t = true then e a else e b) | _ => none) (fun H => ?_) (fun _ _ _ => rfl)
    simp only [aop]
    cases e c <;> rfl
  | alloc t => cases hm
  | box t x => cases hm
  | build t ps => exact keep (fun _ => aBuild P t (ps.toList.map fun x => (x.1, e x.2))) (fun _ => rfl) (fun _ _ _ => rfl)
  | buildSlice t n ps => cases hm
  | load t a => exact keep (fun H => aLoad P t (e a) H) (fun _ => rfl) (fun hr => by cases hr)
  | store t a v => cases hm
  | nilCheck x =>
    refine keep (fun _ => match e x with | .pointer (some a) => some (.pointer (some a)) | .func (.func f) fs cs => some (.func (.func f) fs cs) | .func (.yield l) fs cs => some (.func (.yield l) fs cs) | _ => none) (fun H => ?_) (fun _ _ _ => rfl)
    simp only [aop]
    cases e x with
    | pointer a => cases a <;> rfl
    | func fn fs cs => cases fn <;> rfl
    | _ => rfl
  | binOp op t x y yt => exact keep (fun _ => chk (aBin P op t x y (e x) (e y))) (fun _ => rfl) (fun _ _ _ => rfl)
  | unOp op t x => exact keep (fun _ => chk (aUn P op (e x))) (fun _ => rfl) (fun _ _ _ => rfl)
  | convert src dst x =>
    have hb : isStrB src dst = false := hm
    refine keep (fun H => chk (aConv P src dst (e x) H)) (fun _ => ?_) (fun hr => by cases hr)
    simp only [aop, hb]
    rfl
  | makeFunc fn fs cs =>
    cases fn with
    | func f => exact keep (fun _ => some (.func (.func f) (fs.map e) (cs.map e))) (fun _ => rfl) (fun _ _ _ => rfl)
    | _ => cases h
  | makeSlice t l c => cases hm
  | makeMap t r => cases hm
  | lookup t x i ok => exact keep (fun H => aLookup P t (e x) (e i) ok H) (fun _ => rfl) (fun hr => by cases hr)
  | mapUpdate t m k v => cases hm
  | mapEntry t m k => cases hm
  | entryStore t m s v => cases hm
  | slice t x lo hi mx =>
    cases mx with
    | none => exact keep (fun H => aSlice P t (e x) (lo.map e) (hi.map e) H) (fun _ => rfl) (fun hr => by cases hr)
    | some m => cases h
  | fieldAddr t x f => exact keep (fun _ => aFieldAddr P t (e x) f) (fun _ => rfl) (fun _ _ _ => rfl)
  | field t x f => exact keep (fun _ => aField P t (e x) f) (fun _ => rfl) (fun _ _ _ => rfl)
  | indexAddr t x i => exact keep (fun _ => aIndexAddr P t (e x) (e i)) (fun _ => rfl) (fun _ _ _ => rfl)
  | index t x i => exact keep (fun _ => aIndex P t (e x) (e i)) (fun _ => rfl) (fun _ _ _ => rfl)
  | extract x i => exact keep (fun _ => aExtract (e x) i) (fun _ => rfl) (fun _ _ _ => rfl)
  | call c =>
    obtain ⟨callee, args, ats⟩ := c
    cases callee with
    | builtin b =>
      cases b with
      | len =>
        refine keep (fun H => match ats.toList, (args.map e).toList with | [t], [x] => aLenH P t x H | _, _ => none) (fun H => ?_) (fun hr H H2 => ?_)
        · exact aBuiltin_len P ats ty (args.map e) H
        · have hr' : (ats.toList.any fun t => mapTs.contains t) = false := hr
          generalize ats.toList = L at hr' ⊢
          generalize (args.map e).toList = M
          cases L with
          | nil => rfl
          | cons t L =>
            cases L with
            | cons u L => cases M <;> rfl
            | nil =>
              cases M with
              | nil => rfl
              | cons x M =>
                cases M with
                | cons y M => rfl
                | nil => exact aLenH_off (by simpa using hr') H H2
      | min =>
        refine keep (fun _ => if (args.map e).all plain = true then chk (Sem.val P (Builtin.min_ ats ty (args.map e))) else none) (fun H => ?_) (fun _ _ _ => rfl)
        simp only [aop, aBuiltin]
        split <;> rfl
      | max =>
        refine keep (fun _ => if (args.map e).all plain = true then chk (Sem.val P (Builtin.max_ ats ty (args.map e))) else none) (fun H => ?_) (fun _ _ _ => rfl)
        simp only [aop, aBuiltin]
        split <;> rfl
      | _ => cases hm
    | _ => cases h
  | _ => cases h

theorem run_callFunc {P : Program} {f : FuncId} {args : Array Value} {w : World} (h : callable P f = true) : (callFunc f args).run P w = .ok (.enter f args) w := by
  unfold callable at h
  cases hf : P.funcs[f]? with
  | none => rw [hf] at h; cases h
  | some fn =>
    rw [hf] at h
    simp only [Bool.and_eq_true, bne_iff_ne, ne_eq] at h
    obtain ⟨h1, h2⟩ := h
    obtain ⟨c, hc⟩ := Option.isSome_iff_exists.1 h2
    simp [callFunc, hf, h1, hc]
theorem execOp_callFn {P : Program} {o : Oper} {e : Operand → Value} {g : Operand} {args : Array Operand} {ats : Array TypeId} {f : FuncId} {fs cs : Array Value} (hop : o.op = .call ⟨.value g, args, ats⟩) (hg : e g = .func (.func f) fs cs) (hf : callable P f = true) (w : World) :
    (execOp e o).run P w = .ok (.enter f (fs ++ args.map e ++ cs)) w := by
  simp [execOp, hop, resolve, hg, Deferred.ofValue, invoke, run_callFunc hf]
theorem VR.func_inv {ρ : LMap} {f : FuncId} {fs cs : Array Value} {v' : Value} (h : VR ρ (.func (.func f) fs cs) v') : ∃ fs' cs', v' = .func (.func f) fs' cs' ∧ VRA ρ fs fs' ∧ VRA ρ cs cs' := by
  cases h with
  | func f fs fs' cs cs' h1 h2 h3 h4 => exact ⟨fs', cs', rfl, ⟨h1, h2⟩, ⟨h3, h4⟩⟩
theorem VR.yield_inv {ρ : LMap} {l : Nat} {v' : Value} (h : VR ρ (.func (.yield l) #[] #[]) v') : ∃ p, ρ l = some p ∧ v' = .func (.yield p.blk) #[] #[] := by
  cases h with
  | yield l p h => exact ⟨p, h, rfl⟩
theorem opCall_ok {nt : Nat} {ops : Array Oper} {i : Nat} {env : Env} {o : Oper} {H H' : AH} {v : Value} {g : Operand} {args : Array Operand} {ats : Array TypeId} {f : FuncId} {fs cs : Array Value}
    (ho : ops[i]? = some o) (hw : Region.wanted o (ayielded ops env nt) = true) (hok : opsOk C.G o.op = true) (hop : o.op = .call ⟨.value g, args, ats⟩) (hg : aeval env g = .func (.func f) fs cs) (hf : callable C.P f = true)
    (h : JOk C (.call f (fs ++ args.map (aeval env) ++ cs) H v H')) (rb : Option Nat) (n B : Nat) : OpS C.G (wf rb) n C.P B nt ops i o env H v H' := by
  intro env2 hag ρ a w hG hE hH Q K hK
  unfold wpOpIn
  rw [ho]
  simp only
  rw [wanted_of hE hag, hw, if_pos rfl]
  refine ⟨fun _ _ => trivial, ?_⟩
  rw [Oper.semAt_plain (wf rb) a.eval o (fun c e => by rw [hop] at e; cases e)]
  have hev := evR_agree hG hE hok hag
  have hgv := hev g (by rw [hop]; simp [Op.operands, Call.operands])
  rw [hg] at hgv
  obtain ⟨fs', cs', hgv', hfs, hcs⟩ := hgv.func_inv
  rw [execOp_callFn hop hgv' hf w]
  simp only [Oper.uponIn]
  refine ⟨fun h => by simp [wf, Fence.wide] at h, ?_⟩
  have hargs : VRA ρ (fs ++ args.map (aeval env) ++ cs) (fs' ++ args.map a.eval ++ cs') := (hfs.append (map_vra args (fun x hx => hev x (by rw [hop]; simp only [Op.operands, Call.operands, Array.mem_append]; exact .inr hx)))).append hcs
  have := h ρ B (fs' ++ args.map a.eval ++ cs') w hG hargs hH
  have hin : CallsIn (wf rb) (n - 1) C.P f (fs' ++ args.map a.eval ++ cs') w (CallPost ρ B v H' w) := callsIn_wide.2 this
  refine hin.mono (fun e w' hp => ?_)
  obtain ⟨v', ρ', rfl, hle, hv, hE', hB⟩ := hp
  exact hK ρ' v' w' hle hv hE' hB

theorem run_callExt {P : Program} {f : FuncId} {xs : Array Value} {v : Value} (h : aExt P f xs = some v) (w : World) : (callFunc f xs).run P w = .ok (.value v) w ∧ xs.all plain = true ∧ constOk v = true := by
  unfold aExt at h
  cases hf : P.funcs[f]? with
  | none => rw [hf] at h; cases h
  | some fn =>
    rw [hf] at h
    simp only at h
    split at h
    · rename_i hc
      cases he : Extern.find fn with
      | none => rw [he] at h; cases h
      | some e =>
        rw [he] at h
        obtain ⟨hv, hcv⟩ := chk_inv h
        refine ⟨?_, hc.2.2.2, hcv⟩
        rw [run_callFunc_extern hf hc.1 hc.2.1 (Option.isNone_iff_eq_none.1 hc.2.2.1) he, val_run P _ _ hv w]
        rfl
    · cases h
theorem opExt_ok {nt : Nat} {ops : Array Oper} {i : Nat} {env : Env} {o : Oper} {H : AH} {v : Value} {g : Operand} {args : Array Operand} {ats : Array TypeId} {f : FuncId}
    (ho : ops[i]? = some o) (hw : Region.wanted o (ayielded ops env nt) = true) (hok : opsOk C.G o.op = true) (hop : o.op = .call ⟨.value g, args, ats⟩) (hg : aeval env g = .func (.func f) #[] #[])
    (h : aExt C.P f (args.map (aeval env)) = some v) (rb : Option Nat) (n B : Nat) : OpS C.G (wf rb) n C.P B nt ops i o env H v H := by
  intro env2 hag ρ a w hG hE hH Q K hK
  unfold wpOpIn
  rw [ho]
  simp only
  rw [wanted_of hE hag, hw, if_pos rfl]
  refine ⟨fun _ _ => trivial, ?_⟩
  rw [Oper.semAt_plain (wf rb) a.eval o (fun c e => by rw [hop] at e; cases e)]
  have hev := evR_agree hG hE hok hag
  have hgv := hev g (by rw [hop]; simp [Op.operands, Call.operands])
  rw [hg] at hgv
  obtain ⟨fs', cs', hgv', hfs, hcs⟩ := hgv.func_inv
  obtain rfl : fs' = #[] := by have := hfs.1; simpa using this.symm
  obtain rfl : cs' = #[] := by have := hcs.1; simpa using this.symm
  obtain ⟨hr, hp, hcv⟩ := run_callExt h w
  have hargs : VRA ρ (args.map (aeval env)) (args.map a.eval) := map_vra args (fun x hx => hev x (by rw [hop]; simp only [Op.operands, Call.operands, Array.mem_append]; exact .inr hx))
  have hsame := vra_plain hargs hp
  have hex : (execOp a.eval o).run C.P w = .ok (.value v) w := by
    have : (callFunc f (args.map a.eval)).run C.P w = .ok (.value v) w := by rw [hsame]; exact hr
    simp [execOp, hop, resolve, hgv', Deferred.ofValue, invoke, this]
  rw [hex]
  exact hK ρ v w (LMap.le_refl _) (VR.const ρ hcv) hH (Below.refl _ _)

/-! ### 2. A round -/
theorem bindAll_sim {ρ : LMap} {nt : Nat} : ∀ (ts : List Tmp) (vs vs' : List Value) (env : Env) (tmps : Array Value), VRL ρ vs vs' → EnvR ρ env nt tmps →
    EnvR ρ (bindAll nt ts vs env) nt ((ts.zip vs').foldl (fun tmps x => tmps.setIfInBounds x.1 x.2) tmps)
  | [], vs, vs', env, tmps, hv, hE => by cases vs <;> exact hE
  | t :: ts, [], vs', env, tmps, hv, hE => by
    obtain rfl : vs' = [] := List.eq_nil_of_length_eq_zero hv.1.symm
    exact hE
  | t :: ts, v :: vs, [], env, tmps, hv, hE => by have := hv.1; simp at this
  | t :: ts, v :: vs, v' :: vs', env, tmps, hv, hE => by
    obtain ⟨u, hu, hr⟩ := hv.2 0 v rfl
    simp at hu
    subst hu
    simp only [bindAll, List.zip_cons_cons, List.foldl_cons]
    have h1 := EnvR.put (a := { tmps := tmps, defers := [] }) hE (some t) hr
    exact bindAll_sim ts vs vs' _ _ ⟨by have := hv.1; simpa using this, fun j u hj => by
      obtain ⟨u', a, b⟩ := hv.2 (j + 1) u (by simpa using hj)
      exact ⟨u', by simpa using a, b⟩⟩ h1
theorem zip_fold (ps : Array Tmp) (args : Array Value) (tmps : Array Value) : (ps.zip args).foldl (fun tmps (x : Tmp × Value) => tmps.setIfInBounds x.1 x.2) tmps = (ps.toList.zip args.toList).foldl (fun tmps x => tmps.setIfInBounds x.1 x.2) tmps := by
  rw [← Array.foldl_toList, Array.toList_zip]
theorem loop_obj {ρ : LMap} {B : Nat} {H : AH} {w : World} (hE : Emb ρ B H w) {l : Nat} {env : Env} {nt : Nat} {ps : Array Tmp} {as bd : Code} {st : LoopState} {pd : Option Code} {dl : Nat} (h : H.get l = some (.loop env nt ps as bd st pd dl)) {p : Place} (hp : ρ l = some p) :
    B ≤ p.blk ∧ ∃ fn tmps q, ρ dl = some q ∧ w.heap[p.blk]? = some (.loop { state := st, pending := pd, fn := fn, tmps := tmps, params := ps, assign := as, body := bd, defers := q.blk }) ∧ EnvR ρ env nt tmps := by
  obtain ⟨q, hq, hk⟩ := hE.blk l _ h
  rw [hp] at hq
  cases hq
  exact hk
/-- The record turns. -/
theorem loop_turn {ρ : LMap} {B : Nat} {H : AH} {w : World} (hE : Emb ρ B H w) {l : Nat} {env : Env} {nt : Nat} {ps : Array Tmp} {as bd : Code} {st : LoopState} {pd : Option Code} {dl : Nat} (h : H.get l = some (.loop env nt ps as bd st pd dl)) {p : Place} (hp : ρ l = some p)
    (st' : LoopState) (pd' : Option Code) : ∃ r : Loop, w.heap[p.blk]? = some (.loop r) ∧ r.state = st ∧ r.pending = pd ∧ Emb ρ B ⟨H.next, upd H.get l (.loop env nt ps as bd st' pd' dl)⟩ (w.putObj p.blk (.loop { r with state := st', pending := pd' })) ∧
      Below B w (w.putObj p.blk (.loop { r with state := st', pending := pd' })) := by
  obtain ⟨hB, fn, tmps, q, hq, ho, hT⟩ := loop_obj hE h hp
  have hlt : p.blk < w.heap.size := (Array.getElem?_eq_some_iff.1 ho).1
  refine ⟨_, ho, rfl, rfl, ?_, ⟨rfl, rfl, rfl, by simp, fun k hk => World.putObj_heap_other (by omega)⟩⟩
  refine hE.turn h hp rfl rfl ⟨hB, fn, tmps, q, hq, ?_, hT⟩ (by simp) (fun k hk => World.putObj_heap_other hk)
  rw [World.putObj_heap_same hlt]

theorem opYield_ok {nt : Nat} {ops : Array Oper} {i : Nat} {env : Env} {o : Oper} {H : AH} {g : Operand} {args : Array Operand} {ats : Array TypeId} {l : Nat}
    {env0 env1 env2 : Env} {nt0 nt1 nt2 : Nat} {ps ps1 ps2 : Array Tmp} {as as1 as2 bd bd1 bd2 : Code} {st0 st2 : LoopState} {pd0 pd1 pd2 : Option Code} {dl0 dl1 dl2 : Nat} {s1 s2 : St} {e : Ex}
    (ho : ops[i]? = some o) (hw : Region.wanted o (ayielded ops env nt) = true) (hok : opsOk C.G o.op = true) (hop : o.op = .call ⟨.value g, args, ats⟩) (hg : aeval env g = .func (.yield l) #[] #[])
    (hl : H.get l = some (.loop env0 nt0 ps as bd st0 pd0 dl0)) (hs : args.size = ps.size) (hca : codeOk C.G as = true) (hcb : codeOk C.G bd = true)
    (h1 : JOk C (.ex nt0 (some l) as ⟨bindAll nt0 ps.toList (args.map (aeval env)).toList env0, H, []⟩ .normal s1))
    (hl1 : s1.H.get l = some (.loop env1 nt1 ps1 as1 bd1 .ready pd1 dl1))
    (h2 : JOk C (.ex nt0 (some l) bd ⟨s1.env, ⟨s1.H.next, upd s1.H.get l (.loop env1 nt1 ps1 as1 bd1 .busy pd1 dl1)⟩, s1.ds⟩ e s2))
    (hl2 : s2.H.get l = some (.loop env2 nt2 ps2 as2 bd2 st2 pd2 dl2)) (rb : Option Nat) (n B : Nat) :
    OpS C.G (wf rb) n C.P B nt ops i o env H (.bool e.isNormal) ⟨s2.H.next, upd s2.H.get l (.loop env2 nt2 ps2 as2 bd2 (if e.isNormal = true then .ready else .done) e.jump dl2)⟩ := by
  intro envx hag ρ a w hG hE hH Q K hK
  unfold wpOpIn
  rw [ho]
  simp only
  rw [wanted_of hE hag, hw, if_pos rfl]
  refine ⟨fun _ _ => trivial, ?_⟩
  rw [Oper.semAt_plain (wf rb) a.eval o (fun c e => by rw [hop] at e; cases e)]
  have hev := evR_agree hG hE hok hag
  have hgv := hev g (by rw [hop]; simp [Op.operands, Call.operands])
  rw [hg] at hgv
  obtain ⟨p, hp, hgv'⟩ := hgv.yield_inv
  obtain ⟨hBp, fn, tmps, q, hq, hobj, hT⟩ := loop_obj hH hl hp
  have hrun : (execOp a.eval o).run C.P w = .ok (.round p.blk fn ((ps.zip (args.map a.eval)).foldl (fun tmps (x : Tmp × Value) => tmps.setIfInBounds x.1 x.2) tmps) as bd) w := by
    have := run_yield (P := C.P) (args := args.map a.eval) hobj (by simpa using hs)
    simp only [execOp, hop, resolve, hgv', Deferred.ofValue]
    simpa [invoke] using this
  rw [hrun]
  simp only [Oper.uponIn]
  refine ⟨fun h => by simp [wf, Fence.wide] at h, ?_⟩
  have hargs : VRA ρ (args.map (aeval env)) (args.map a.eval) := map_vra args (fun x hx => hev x (by rw [hop]; simp only [Op.operands, Call.operands, Array.mem_append]; exact .inr hx))
  have henv : EnvR ρ (bindAll nt0 ps.toList (args.map (aeval env)).toList env0) nt0 ((ps.zip (args.map a.eval)).foldl (fun tmps (x : Tmp × Value) => tmps.setIfInBounds x.1 x.2) tmps) := by
    rw [zip_fold]
    exact bindAll_sim _ _ _ _ _ hargs.vrl hT
  refine RoundIn.mono (R := fun e' w' => ∃ v' ρ', e' = .returned v' ∧ ρ.le ρ' ∧ VR ρ' (.bool e.isNormal) v' ∧ Emb ρ' B ⟨s2.H.next, upd s2.H.get l (.loop env2 nt2 ps2 as2 bd2 (if e.isNormal = true then .ready else .done) e.jump dl2)⟩ w' ∧ Below B w w') ?_ ?_
  · refine roundIn_of_wpIn (F := wf rb) trivial ?_
    have k1 := h1.1 hca (n - 1) ρ B (some p.blk) { tmps := (ps.zip (args.map a.eval)).foldl (fun tmps (x : Tmp × Value) => tmps.setIfInBounds x.1 x.2) tmps, defers := [] } w ⟨p, hp, rfl⟩ hG henv hH trivial
    refine wpIn_mono (F := wf (some p.blk)) k1 ?_
    rintro e1 a1 w1 ⟨rfl, ρ1, hle1, hE1, hH1, hD1, hB1⟩
    have hp1 := hle1 _ _ hp
    obtain ⟨r, hr, hrs, hrp, hH1', hB1'⟩ := loop_turn hH1 hl1 hp1 .busy pd1
    refine ⟨_, run_beginRound hr hrs, ?_⟩
    have hre : ({ r with state := .busy } : Loop) = { r with state := .busy, pending := pd1 } := by rw [← hrp]
    rw [hre]
    have k2 := h2.1 hcb (n - 1) ρ1 B (some p.blk) a1 _ ⟨p, hp1, rfl⟩ (hG.mono hle1) hE1 hH1' hD1
    refine wpIn_mono (F := wf (some p.blk)) k2 ?_
    rintro e2 a2 w2 ⟨rfl, ρ2, hle2, hE2, hH2, hD2, hB2⟩
    have hp2 := hle2 _ _ hp1
    obtain ⟨r2, hr2, hrs2, hrp2, hH2', hB2'⟩ := loop_turn hH2 hl2 hp2 (if e.isNormal = true then .ready else .done) e.jump
    have fin : ∀ jump : Option Code, jump = e.jump → ∃ v w', (Instr.endRound p.blk jump).run C.P w2 = .ok v w' ∧
        (∃ v' ρ', Ending.returned v = .returned v' ∧ ρ.le ρ' ∧ VR ρ' (.bool e.isNormal) v' ∧ Emb ρ' B ⟨s2.H.next, upd s2.H.get l (.loop env2 nt2 ps2 as2 bd2 (if e.isNormal = true then .ready else .done) e.jump dl2)⟩ w' ∧ Below B w w') := by
      rintro _ rfl
      have hn : e.jump.isNone = e.isNormal := by cases e <;> rfl
      refine ⟨_, _, run_endRound e.jump hr2, _, ρ2, rfl, LMap.le_trans hle1 hle2, ?_, ?_, ?_⟩
      · rw [hn]; exact .bool _
      · rw [hn]; exact hH2'
      · rw [hn]; exact ((hB1.trans hB1').trans hB2).trans hB2'
    cases e with
    | normal => exact fin none rfl
    | exit id => exact fin _ rfl
    | goto l => exact fin _ rfl
    | ret => exact fin _ rfl
  · rintro e' w' ⟨v', ρ', rfl, hle, hv, hE', hB⟩
    exact hK ρ' v' w' hle hv hE' hB

end
end Go.Proofs.YtikkokolmipppaaA

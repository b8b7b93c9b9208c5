/-
  A SMALL HEAP FOR A LARGE ONE (part 10: what has a run over the small heap, the machine's call ends so). Own text of this session.
-/
import Derived.Test.YtikkokolmipppaaA9
set_option linter.unusedVariables false
set_option linter.unusedSimpArgs false
namespace Go.Proofs.YtikkokolmipppaaA
open Go Go.RowKit

section
variable {C : Cx}

/-! ### 1. Rows of operations -/
theorem opsNil_ok {nt : Nat} {ops : Array Oper} {env : Env} {H : AH} : JOk C (.ops nt ops [] env H [] env H) := by
  intro hok rb n B
  refine ⟨fun ρ a w Q hG hE hH hQ => ?_, rfl, rfl, rfl, fun k i o hk => by simp at hk⟩
  exact hQ ρ a w (LMap.le_refl _) hE hH rfl (Below.refl _ _)
theorem opsCons_ok {nt : Nat} {ops : Array Oper} {i : Nat} {l : List Nat} {env env' : Env} {H H1 H' : AH} {v : Value} {o : Oper} {tr : List Rec} (ho : ops[i]? = some o)
    (h1 : JOk C (.op nt ops i env H v H1)) (h2 : JOk C (.ops nt ops l (put env nt o.dst v) H1 tr env' H')) : JOk C (.ops nt ops (i :: l) env H (⟨env, H, v, H1⟩ :: tr) env' H') := by
  intro hok rb n B
  obtain ⟨k1, k2⟩ := h1 o ho (hok o (Array.mem_of_getElem? ho)) rb n B
  obtain ⟨m1, m2, m3, m4, m5⟩ := h2 hok rb n B
  refine ⟨fun ρ a w Q hG hE hH hQ => ?_, by simp [m2], rfl, rfl, ?_⟩
  · rw [wpOpsIn_cons]
    refine k1 env (fun _ _ => rfl) ρ a w hG hE hH Q _ (fun ρ' v' w' hle hv hE' hB => ?_)
    refine m1 ρ' (a.put o.dst v') w' Q (hG.mono hle) ((hE.mono hle).put o.dst hv) hE' (fun ρ2 a2 w2 hle2 hE2 hH2 hd hB2 => ?_)
    exact hQ ρ2 a2 w2 (LMap.le_trans hle hle2) hE2 hH2 (by rw [hd, Act.put_defers']) (hB.trans hB2)
  · intro k j x hk hx
    cases k with
    | zero =>
      simp at hk
      subst hk
      rw [ho] at hx
      cases hx
      refine ⟨_, rfl, ?_, ?_, k1, k2⟩
      · rw [← m3]
        simp [List.head?_eq_getElem?]
      · rw [← m4]
        simp [List.head?_eq_getElem?]
    | succ k =>
      obtain ⟨y, hy, q⟩ := m5 k j x (by simpa using hk) hx
      exact ⟨y, by simpa using hy, by simpa using q⟩

/-! ### 2. Regions -/
theorem region_ok {nt : Nat} {ro : Option Nat} {s : St} {id : Nat} {ops : Array Oper} {tr : List Rec} {env' : Env} {H' : AH} (h : JOk C (.ops nt ops (List.range ops.size) s.env s.H tr env' H')) :
    ExOk C nt ro (.region id ops false) s .normal ⟨env', H', s.ds⟩ := by
  intro hok n ρ B rb a w hro hG hE hH hD
  obtain ⟨m1, _⟩ := h (fun o ho => Array.all_eq_true_iff_forall_mem.1 hok o ho) rb n B
  refine wpIn_region (m1 ρ a w _ hG hE hH (fun ρ' a' w' hle hE' hH' hd hB => ?_))
  exact ⟨rfl, ρ', hle, hE', hH', by rw [hd]; exact hD.mono hle, hB⟩

theorem Lst_none (n i : Nat) : ¬ Lst (Array.replicate n false) i := by
  unfold Lst
  rw [Array.getD_eq_getD_getElem?, Array.getElem?_replicate]
  split <;> simp
theorem envAt_none {nt : Nat} {ops : Array Oper} {env : Nat → Env} {v : Nat → Value} (n : Nat) : ∀ k, envAt nt ops env v (Array.replicate n false) k = env 0 := by
  intro k
  induction k with
  | zero => rfl
  | succ k ih =>
    simp only [envAt]
    split
    · rw [if_neg (Lst_none n k)]; exact ih
    · exact ih
theorem unl_le (listed : Array Bool) : ∀ k, unl listed k ≤ k
  | 0 => Nat.le_refl _
  | k + 1 => by
    simp only [unl]
    have := unl_le listed k
    split <;> omega
theorem mem_openPairs {ops : Array Oper} {r m : Nat} {x y : Oper} (hx : ops[r]? = some x) (hy : ops[m]? = some y) (h1 : isR x.op = true) (h2 : isM y.op = true)
    (h3 : ¬ Anc ops r m) (h4 : ¬ Anc ops m r) : (r, m) ∈ openPairs ops := by
  unfold openPairs
  simp only [List.mem_flatMap, List.mem_range]
  refine ⟨r, (Array.getElem?_eq_some_iff.1 hx).1, ?_⟩
  rw [hx]
  simp only [h1, if_true, List.mem_filterMap, List.mem_range]
  refine ⟨m, (Array.getElem?_eq_some_iff.1 hy).1, ?_⟩
  rw [hy]
  have e1 : ((Region.before ops).getD r 0).testBit m = false := by
    cases hb : ((Region.before ops).getD r 0).testBit m with
    | false => rfl
    | true => exact absurd (before_anc ops r m hb) h3
  have e2 : ((Region.before ops).getD m 0).testBit r = false := by
    cases hb : ((Region.before ops).getD m 0).testBit r with
    | false => rfl
    | true => exact absurd (before_anc ops m r hb) h4
  simp only [h2, e1, e2, Bool.not_false, Bool.and_true, if_true]

theorem regionD_ok (hmix : C.P.follows .mixedOrders = true) {nt : Nat} {ro : Option Nat} {s : St} {id : Nat} {ops : Array Oper} {tr : List Rec} {env' : Env} {H' : AH} (hr : regOk ops = true) (h : JOk C (.ops nt ops (List.range ops.size) s.env s.H tr env' H'))
    (hp : ∀ x ∈ openPairs ops, PairOk C.P ops nt tr x) : ExOk C nt ro (.region id ops true) s .normal ⟨env', H', s.ds⟩ := by
  intro hok n ρ B rb a w hro hG hE hH hD
  obtain ⟨_, hlen, hhe, hhh, m5⟩ := h (fun o ho => Array.all_eq_true_iff_forall_mem.1 hok o ho) rb n B
  rw [List.length_range] at hlen
  have at_ : ∀ k o, ops[k]? = some o → ∃ x, tr[k]? = some x ∧ (tr[k + 1]?.map (·.env)).getD env' = put x.env nt o.dst x.v ∧ (tr[k + 1]?.map (·.H)).getD H' = x.H' ∧
        OpS C.G (wf rb) n C.P B nt ops k o x.env x.H x.v x.H' ∧ (isM o.op = false → x.H' = x.H ∧ ∀ H2, Still C.P ops nt o x.env x.v H2 → OpS C.G (wf rb) n C.P B nt ops k o x.env H2 x.v H2) := by
    intro k o hk
    refine m5 k k o ?_ hk
    rw [List.getElem?_range (Array.getElem?_eq_some_iff.1 hk).1]
  have T : Trace C.G (wf rb) n C.P B nt ops (fun k => (tr[k]?.map (·.env)).getD env') (fun k => (tr[k]?.map (·.H)).getD H') (fun k => (tr[k]?.map (·.v)).getD Go.undef) := by
    refine ⟨?_, ?_, ?_, ?_, ?_⟩
    · intro i o ho
      obtain ⟨x, h1, h2, h3, h4, h5⟩ := at_ i o ho
      simp only [h1, Option.map_some, Option.getD_some]
      exact h2
    · intro i o ho
      obtain ⟨x, h1, h2, h3, h4, h5⟩ := at_ i o ho
      simp only [h1, Option.map_some, Option.getD_some]
      rw [h3]
      exact h4
    · intro i o ho hm
      obtain ⟨x, h1, h2, h3, h4, h5⟩ := at_ i o ho
      simp only [h1, Option.map_some, Option.getD_some]
      rw [h3]
      exact (h5 hm).1
    · intro r m o q ho hq hm hqm hlt hna
      obtain ⟨x, h1, h2, h3, h4, h5⟩ := at_ r o ho
      obtain ⟨y, g1, g2, g3, g4, g5⟩ := at_ m q hq
      simp only [h1, Option.map_some, Option.getD_some]
      rw [g3]
      refine (h5 hm).2 _ ?_
      cases hir : isR o.op with
      | false => exact .inr (.inl hir)
      | true =>
        obtain ⟨o', a', b', e1, e2, e3, e4⟩ := hp _ (mem_openPairs ho hq hir hqm (fun ha => by have := Anc.lt hr ha; omega) hna)
        simp only at e1 e2 e3 e4
        rw [ho] at e1
        rw [h1] at e2
        rw [g1] at e3
        cases e1
        cases e2
        cases e3
        rw [if_pos hlt] at e4
        exact e4
    · intro r m o q ho hq hm hqm hlt hna
      obtain ⟨x, h1, h2, h3, h4, h5⟩ := at_ r o ho
      obtain ⟨y, g1, g2, g3, g4, g5⟩ := at_ m q hq
      simp only [h1, g1, Option.map_some, Option.getD_some]
      refine (h5 hm).2 _ ?_
      cases hir : isR o.op with
      | false => exact .inr (.inl hir)
      | true =>
        obtain ⟨o', a', b', e1, e2, e3, e4⟩ := hp _ (mem_openPairs ho hq hir hqm hna (fun ha => by have := Anc.lt hr ha; omega))
        simp only at e1 e2 e3 e4
        rw [ho] at e1
        rw [h1] at e2
        rw [g1] at e3
        cases e1
        cases e2
        cases e3
        rw [if_neg (by omega)] at e4
        exact e4
  have e0 : ∀ (k : Nat), k = ops.size → (tr[k]?.map (·.env)).getD env' = env' ∧ (tr[k]?.map (·.H)).getD H' = H' := by
    intro k hk
    have : tr[k]? = none := List.getElem?_eq_none (by omega)
    rw [this]
    exact ⟨rfl, rfl⟩
  refine wpIn_region_any hmix ?_
  refine region_trace T hr ops.size (Array.replicate ops.size false) 0 ρ a w.drew (by simp) (fun j o e hj => absurd hj (Lst_none _ _)) (unl_le _ _) (fun m q hq hm => ⟨fun h => absurd h (Lst_none _ _), fun h => by omega⟩) (Nat.zero_le _) hG ?_ ?_ ?_
  · rw [envAt_none]
    rw [List.head?_eq_getElem?] at hhe
    rw [hhe]
    exact hE
  · rw [List.head?_eq_getElem?] at hhh
    rw [hhh]
    exact hH.drew
  · intro ρ' a' w' hle hE' hH' hd hB
    rw [(e0 _ rfl).1] at hE'
    rw [(e0 _ rfl).2] at hH'
    exact ⟨rfl, ρ', hle, hE', hH', by rw [hd]; exact hD.mono hle, ((Below.refl B w).drew).trans hB⟩

/-! ### 3. The other codes -/
theorem ExPost.up {ρ ρ1 : LMap} {B nt : Nat} {e : Ex} {s' : St} {w w1 : World} (hle : ρ.le ρ1) (hB : Below B w w1) {e' : Exit} {a' : Act} {w' : World} (h : ExPost ρ1 B nt e s' w1 e' a' w') : ExPost ρ B nt e s' w e' a' w' := by
  obtain ⟨rfl, ρ', h1, h2, h3, h4, h5⟩ := h
  exact ⟨rfl, ρ', LMap.le_trans hle h1, h2, h3, h4, hB.trans h5⟩
theorem roundsIn_mono {F : Fence} {n : Nat} {P : Program} {c : Code} {Q Q' : Exit → Act → World → Prop} (hq : ∀ e a w, Q e a w → Q' e a w) : ∀ (m : Nat) (a : Act) (w : World), Code.roundsIn F n P c Q m a w → Code.roundsIn F n P c Q' m a w := by
  intro m
  induction m with
  | zero => intro a w h; exact h
  | succ m ih =>
    intro a w h
    rw [roundsIn_succ] at h ⊢
    refine wpIn_mono h (fun e a w hh => ?_)
    cases e <;> first | exact ih a w hh | exact hq _ a w hh
theorem here {ρ : LMap} {B nt : Nat} {e : Ex} {s : St} {a : Act} {w : World} (hE : EnvR ρ s.env nt a.tmps) (hH : Emb ρ B s.H w) (hD : DefR ρ s.ds a.defers) : ExPost ρ B nt e s w e.toExit a w :=
  ⟨rfl, ρ, LMap.le_refl _, hE, hH, hD, Below.refl _ _⟩
theorem seq_ok {nt : Nat} {ro : Option Nat} {a b : Code} {s s1 s2 : St} {e : Ex} (h1 : ExOk C nt ro a s .normal s1) (h2 : ExOk C nt ro b s1 e s2) : ExOk C nt ro (.seq a b) s e s2 := by
  intro hok n ρ B rb x w hro hG hE hH hD
  simp only [codeOk, Bool.and_eq_true] at hok
  refine wpIn_seq (wpIn_mono (h1 hok.1 n ρ B rb x w hro hG hE hH hD) ?_)
  rintro e' a' w' ⟨rfl, ρ1, hle, hE1, hH1, hD1, hB1⟩
  exact wpIn_mono (h2 hok.2 n ρ1 B rb a' w' (hro.mono hle) (hG.mono hle) hE1 hH1 hD1) (fun e a w h => h.up hle hB1)
theorem then_of {K : Act → World → Prop} {Q : Exit → Act → World → Prop} {e : Ex} (he : e.isNormal = false) {a : Act} {w : World} (h : Q e.toExit a w) : Exit.then K Q e.toExit a w := by
  cases e <;> first | exact h | cases he
theorem seqJump_ok {nt : Nat} {ro : Option Nat} {a b : Code} {s s1 : St} {e : Ex} (h1 : ExOk C nt ro a s e s1) (he : e.isNormal = false) : ExOk C nt ro (.seq a b) s e s1 := by
  intro hok n ρ B rb x w hro hG hE hH hD
  simp only [codeOk, Bool.and_eq_true] at hok
  refine wpIn_seq (wpIn_mono (h1 hok.1 n ρ B rb x w hro hG hE hH hD) ?_)
  intro e' a' w' h
  have h' := h
  obtain ⟨rfl, _⟩ := h'
  exact then_of he h
theorem cond_ok {nt : Nat} {ro : Option Nat} {c : Operand} {x y : Code} {s s' : St} {e : Ex} {t : Bool} (hc : aeval s.env c = .bool t) (h : ExOk C nt ro (if t = true then x else y) s e s') : ExOk C nt ro (.cond c x y) s e s' := by
  intro hok n ρ B rb a w hro hG hE hH hD
  simp only [codeOk, Bool.and_eq_true] at hok
  have hv := aeval_sim hG hE hok.1.1
  rw [hc] at hv
  refine wpIn_cond (t := t) (by cases hx : a.eval c <;> rw [hx] at hv <;> cases hv; rfl) ?_
  exact h (by cases t <;> simp [hok.1.2, hok.2]) n ρ B rb a w hro hG hE hH hD
theorem block_ok {nt : Nat} {ro : Option Nat} {id : Nat} {c : Code} {s s' : St} {e : Ex} (h : ExOk C nt ro c s e s') (he : ∀ id', e = .exit id' → id' ≠ id) : ExOk C nt ro (.block id c) s e s' := by
  intro hok n ρ B rb a w hro hG hE hH hD
  refine wpIn_block (wpIn_mono (h hok n ρ B rb a w hro hG hE hH hD) ?_)
  intro e' a' w' h
  have h' := h
  obtain ⟨rfl, _⟩ := h'
  cases e with
  | exit id' =>
    show (if id' = id then _ else _)
    rw [if_neg (he id' rfl)]
    exact h
  | _ => exact h
theorem blockExit_ok {nt : Nat} {ro : Option Nat} {id : Nat} {c : Code} {s s' : St} (h : ExOk C nt ro c s (.exit id) s') : ExOk C nt ro (.block id c) s .normal s' := by
  intro hok n ρ B rb a w hro hG hE hH hD
  refine wpIn_block (wpIn_mono (h hok n ρ B rb a w hro hG hE hH hD) ?_)
  rintro e' a' w' ⟨rfl, hr⟩
  show (if id = id then _ else _)
  rw [if_pos rfl]
  exact ⟨rfl, hr⟩
theorem loop_ok {nt : Nat} {ro : Option Nat} {c : Code} {s s1 s' : St} {e : Ex} (h1 : ExOk C nt ro c s .normal s1) (h2 : LoopOk C nt ro c s1 e s') : LoopOk C nt ro c s e s' := by
  intro hok
  obtain ⟨m, hm⟩ := h2 hok
  refine ⟨m + 1, fun n ρ B rb a w hro hG hE hH hD => ?_⟩
  rw [roundsIn_succ]
  refine wpIn_mono (h1 hok n ρ B rb a w hro hG hE hH hD) ?_
  rintro e' a' w' ⟨rfl, ρ1, hle, hE1, hH1, hD1, hB1⟩
  exact roundsIn_mono (fun e a w h => h.up hle hB1) m a' w' (hm n ρ1 B rb a' w' (hro.mono hle) (hG.mono hle) hE1 hH1 hD1)
theorem loopJump_ok {nt : Nat} {ro : Option Nat} {c : Code} {s s' : St} {e : Ex} (h1 : ExOk C nt ro c s e s') (he : e.isNormal = false) : LoopOk C nt ro c s e s' := by
  intro hok
  refine ⟨1, fun n ρ B rb a w hro hG hE hH hD => ?_⟩
  rw [roundsIn_succ]
  refine wpIn_mono (h1 hok n ρ B rb a w hro hG hE hH hD) ?_
  intro e' a' w' h
  have h' := h
  obtain ⟨rfl, _⟩ := h'
  exact then_of he h
theorem loop_of {nt : Nat} {ro : Option Nat} {c : Code} {s s' : St} {e : Ex} (h : LoopOk C nt ro c s e s') : ExOk C nt ro (.loop c) s e s' := by
  intro hok n ρ B rb a w hro hG hE hH hD
  obtain ⟨m, hm⟩ := h hok
  exact wpIn_loop_rounds m (hm n ρ B rb a w hro hG hE hH hD)
theorem exGc_ok {nt : Nat} {e : Ex} {env' : Env} {H1 H2 : AH} {ds' : List Nat} (hs : Sub H2 H1) {ρ : LMap} {B : Nat} {w : World} {e' : Exit} {a' : Act} {w' : World} (h : ExPost ρ B nt e ⟨env', H1, ds'⟩ w e' a' w') : ExPost ρ B nt e ⟨env', H2, ds'⟩ w e' a' w' := by
  obtain ⟨rfl, ρ', h1, h2, h3, h4, h5⟩ := h
  exact ⟨rfl, ρ', h1, h2, h3.sub hs, h4, h5⟩

/-! ### 4. A range over a function -/
theorem mark_new {ρ : LMap} {B : Nat} {H : AH} {w : World} (hH : Emb ρ B H w) : Emb (ρ.put H.next ⟨w.heap.size, 0, 0, 0⟩) B (H.new .mark) (w.alloc (.deferred (some []))) :=
  hH.alloc .mark _ _ rfl ⟨hH.size, World.alloc_heap_new _ _⟩
theorem loop_new {ρ : LMap} {B : Nat} {H : AH} {w : World} (hH : Emb ρ B H w) {env : Env} {nt : Nat} {tmps : Array Value} (hE : EnvR ρ env nt tmps) (fn : FuncId) (ps : Array Tmp) (as bd : Code) {dl : Nat} {q : Place} (hq : ρ dl = some q) :
    Emb (ρ.put H.next ⟨w.heap.size, 0, 0, 0⟩) B (H.new (.loop env nt ps as bd .ready none dl)) (w.alloc (.loop { state := .ready, pending := none, fn := fn, tmps := tmps, params := ps, assign := as, body := bd, defers := q.blk })) := by
  have hle : ρ.le (ρ.put H.next ⟨w.heap.size, 0, 0, 0⟩) := LMap.le_put (hH.fresh _ (Nat.le_refl _))
  exact hH.alloc _ _ _ rfl ⟨hH.size, fn, tmps, q, hle _ _ hq, World.alloc_heap_new _ _, hE.mono hle⟩
theorem run_enterLoop_inner {P : Program} {w : World} {b : Nat} {r : Loop} (h : w.heap[b]? = some (.loop r)) (fn : FuncId) (tmps : Array Value) (ps : Array Tmp) (assign body : Code) :
    (Instr.enterLoop fn tmps ps assign body (some b)).run P w = .ok (w.heap.size, []) (w.alloc (.loop { state := .ready, pending := none, fn := fn, tmps := tmps, params := ps, assign := assign, body := body, defers := r.defers })) := by
  unfold Instr.enterLoop
  simp only [Sem.run_bind, run_getLoop h, Result.andThen, Sem.run_pure, run_newObj_alloc]
theorem run_rangeCall {P : Program} {w : World} {a : Act} {g : Operand} {l : Nat} {f : FuncId} {fs cs : Array Value} (hg : a.eval g = .func (.func f) fs cs) :
    (resolve a.eval (rangeCall g l) 0).run P w = .ok { target := .fn (.func f) cs, args := fs ++ #[.func (.yield l) #[] #[]] } w := by
  simp only [resolve, rangeCall]
  rw [hg]
  simp [Deferred.ofValue, Act.eval]
theorem run_invokeFn {P : Program} {w : World} {f : FuncId} {args cs : Array Value} (h : callable P f = true) : (invoke (.fn (.func f) cs) args).run P w = .ok (.enter f (args ++ cs)) w := run_callFunc h
theorem jump_ok {rb : Option Nat} {n : Nat} {P : Program} {Q : Exit → Act → World → Prop} {a : Act} {w : World} {e : Ex} (h : Q e.toExit a w) : (match e.jump with | none => Q .normal a w | some c => c.wpIn (wf rb) n P Q a w) := by
  cases e with
  | normal => exact h
  | exit id => exact wpIn_exit h
  | goto l => exact wpIn_goto h
  | ret => exact wpIn_ret h
theorem VRA.yield {ρ : LMap} {l : Nat} {p : Place} (h : ρ l = some p) : VRA ρ #[.func (.yield l) #[] #[]] #[.func (.yield p.blk) #[] #[]] :=
  ⟨rfl, fun i hi => by
    obtain rfl : i = 0 := by simp at hi; omega
    exact .yield l p h⟩
/-- what stands behind the call of the function that is ranged over -/
theorem range_back {ρ ρ2 : LMap} {B : Nat} {w w2 w3 : World} {H3 : AH} {l : Nat} {p : Place} {rb : Option Nat} {n : Nat} {Q : Exit → Act → World → Prop} {a' : Act} {v : Value} {e : Ex}
    {env2 : Env} {nt2 : Nat} {ps2 : Array Tmp} {as2 bd2 : Code} {st2 : LoopState} {pd2 : Option Code} {dl2 : Nat} (hle : ρ.le ρ2) (hp : ρ2 l = some p) (hB2 : Below B w w2)
    (hl : H3.get l = some (.loop env2 nt2 ps2 as2 bd2 st2 pd2 dl2)) (hst : st2 ≠ .busy) (he : e.jump = pd2)
    {e' : Ending} (hc : CallPost ρ2 B v H3 w2 e' w3)
    (hQ : ∀ ρ3 w4, ρ2.le ρ3 → Emb ρ3 B ⟨H3.next, YtikkokolmipppaaA.del H3.get l⟩ w4 → Below B w w4 → Q e.toExit a' w4) : rangePost (wf rb) n C.P p.blk Q a' e' w3 := by
  obtain ⟨v', ρ3, rfl, hle3, hv, hE3, hB3⟩ := hc
  have hp3 := hle3 _ _ hp
  obtain ⟨hBp, fn, tmps, q, hq, hobj, hT⟩ := loop_obj hE3 hl hp3
  refine ⟨_, _, run_endLoop hobj hst, ?_⟩
  simp only
  rw [← he]
  refine jump_ok ?_
  refine hQ ρ3 _ hle3 (hE3.del hl hp3 rfl (by simp) (fun k hk => World.putObj_heap_other hk)) ?_
  exact (hB2.trans hB3).trans ⟨rfl, rfl, rfl, by simp, fun k hk => World.putObj_heap_other (by omega)⟩
theorem rangeOuter_ok {nt : Nat} {g : Operand} {ps : Array Tmp} {as bd : Code} {s : St} {f : FuncId} {fs cs : Array Value} {v : Value} {H3 : AH} {env2 : Env} {nt2 : Nat} {ps2 : Array Tmp} {as2 bd2 : Code} {st2 : LoopState} {pd2 : Option Code} {dl2 : Nat} {e : Ex}
      (hg : aeval s.env g = .func (.func f) fs cs) (hf : callable C.P f = true)
      (h : JOk C (.call f (fs ++ #[.func (.yield (s.H.next + 1)) #[] #[]] ++ cs) ((s.H.new .mark).new (.loop s.env nt ps as bd .ready none s.H.next)) v H3))
      (hl : H3.get (s.H.next + 1) = some (.loop env2 nt2 ps2 as2 bd2 st2 pd2 dl2)) (hst : st2 ≠ .busy) (he : e.jump = pd2) :
      ExOk C nt none (.rangeFunc g ps as bd) s e ⟨s.env, ⟨H3.next, YtikkokolmipppaaA.del H3.get (s.H.next + 1)⟩, s.H.next :: s.ds⟩ := by
  intro hok n ρ B rb a w hro hG hE hH hD
  cases rb with
  | some b => exact hro.elim
  | none =>
    simp only [codeOk, Bool.and_eq_true] at hok
    have hgv := aeval_sim hG hE hok.1.1
    rw [hg] at hgv
    obtain ⟨fs', cs', hgv', hfs, hcs⟩ := hgv.func_inv
    have hle1 : ρ.le (ρ.put s.H.next ⟨w.heap.size, 0, 0, 0⟩) := LMap.le_put (hH.fresh _ (Nat.le_refl _))
    have hE1 := mark_new hH
    have hle2 : (ρ.put s.H.next ⟨w.heap.size, 0, 0, 0⟩).le ((ρ.put s.H.next ⟨w.heap.size, 0, 0, 0⟩).put (s.H.next + 1) ⟨w.heap.size + 1, 0, 0, 0⟩) := LMap.le_put (hE1.fresh _ (Nat.le_refl _))
    refine wpIn_rangeFunc (fun fn _ => ?_)
    have hE2 := loop_new hE1 (hE.mono hle1) fn ps as bd (LMap.put_same ρ s.H.next ⟨w.heap.size, 0, 0, 0⟩)
    simp only [World.size_alloc] at hE2
    have hle := LMap.le_trans hle1 hle2
    have hB2 : Below B w ((w.alloc (.deferred (some []))).alloc (.loop { state := .ready, pending := none, fn := fn, tmps := a.tmps, params := ps, assign := as, body := bd, defers := w.heap.size })) :=
      ((Below.refl B w).alloc hH.size _).alloc (by have := hH.size; simp; omega) _
    refine ⟨w.heap.size + 1, _, _, _, _, f, fs' ++ #[.func (.yield (w.heap.size + 1)) #[] #[]] ++ cs', _, run_enterLoop_outer fn a.tmps ps as bd, run_rangeCall hgv', fun _ _ => trivial, run_invokeFn hf, fun h => by simp [wf, Fence.wide] at h, ?_⟩
    have hargs := ((hfs.mono hle).append (VRA.yield (ρ := (ρ.put s.H.next ⟨w.heap.size, 0, 0, 0⟩).put (s.H.next + 1) ⟨w.heap.size + 1, 0, 0, 0⟩) (LMap.put_same _ _ _))).append (hcs.mono hle)
    have hc := h _ B _ _ (hG.mono hle) hargs hE2
    have hin : CallsIn (wf none) (n - 1) C.P f _ _ _ := callsIn_wide.2 hc
    refine hin.mono (fun e' w3 hp => ?_)
    refine range_back (p := ⟨w.heap.size + 1, 0, 0, 0⟩) hle (LMap.put_same _ _ _) hB2 hl hst he hp (fun ρ3 w4 hle3 hE3 hB4 => ?_)
    refine ⟨rfl, ρ3, LMap.le_trans hle hle3, hE.mono (LMap.le_trans hle hle3), hE3, ?_, hB4⟩
    exact ⟨⟨_, hle3 _ _ (hle2 _ _ (LMap.put_same _ _ _)), rfl⟩, hD.mono (LMap.le_trans hle hle3)⟩
theorem rangeInner_ok {nt : Nat} {l0 : Nat} {g : Operand} {ps : Array Tmp} {as bd : Code} {s : St} {f : FuncId} {fs cs : Array Value} {v : Value} {H3 : AH} {env2 : Env} {nt2 : Nat} {ps2 : Array Tmp} {as2 bd2 : Code} {st2 : LoopState} {pd2 : Option Code} {dl2 : Nat} {e : Ex}
      {env0 : Env} {nt0 : Nat} {ps0 : Array Tmp} {as0 bd0 : Code} {st0 : LoopState} {pd0 : Option Code} {dl0 : Nat}
      (hl0 : s.H.get l0 = some (.loop env0 nt0 ps0 as0 bd0 st0 pd0 dl0)) (hg : aeval s.env g = .func (.func f) fs cs) (hf : callable C.P f = true)
      (h : JOk C (.call f (fs ++ #[.func (.yield s.H.next) #[] #[]] ++ cs) (s.H.new (.loop s.env nt ps as bd .ready none dl0)) v H3))
      (hl : H3.get s.H.next = some (.loop env2 nt2 ps2 as2 bd2 st2 pd2 dl2)) (hst : st2 ≠ .busy) (he : e.jump = pd2) :
      ExOk C nt (some l0) (.rangeFunc g ps as bd) s e ⟨s.env, ⟨H3.next, YtikkokolmipppaaA.del H3.get s.H.next⟩, s.ds⟩ := by
  intro hok n ρ B rb a w hro hG hE hH hD
  cases rb with
  | none => exact hro.elim
  | some b =>
    obtain ⟨p0, hp0, rfl⟩ := hro
    simp only [codeOk, Bool.and_eq_true] at hok
    have hgv := aeval_sim hG hE hok.1.1
    rw [hg] at hgv
    obtain ⟨fs', cs', hgv', hfs, hcs⟩ := hgv.func_inv
    obtain ⟨hBp, fn0, tmps0, q, hq, hobj, hT⟩ := loop_obj hH hl0 hp0
    have hle : ρ.le (ρ.put s.H.next ⟨w.heap.size, 0, 0, 0⟩) := LMap.le_put (hH.fresh _ (Nat.le_refl _))
    refine wpIn_rangeFunc (fun fn _ => ?_)
    have hE2 := loop_new hH hE fn ps as bd hq
    have hB2 : Below B w (w.alloc (.loop { state := .ready, pending := none, fn := fn, tmps := a.tmps, params := ps, assign := as, body := bd, defers := q.blk })) := (Below.refl B w).alloc hH.size _
    refine ⟨w.heap.size, _, _, _, _, f, fs' ++ #[.func (.yield w.heap.size) #[] #[]] ++ cs', _, run_enterLoop_inner hobj fn a.tmps ps as bd, run_rangeCall hgv', fun _ _ => trivial, run_invokeFn hf, fun h => by simp [wf, Fence.wide] at h, ?_⟩
    have hargs := ((hfs.mono hle).append (VRA.yield (ρ := ρ.put s.H.next ⟨w.heap.size, 0, 0, 0⟩) (LMap.put_same _ _ _))).append (hcs.mono hle)
    have hc := h _ B _ _ (hG.mono hle) hargs hE2
    have hin : CallsIn (wf (some p0.blk)) (n - 1) C.P f _ _ _ := callsIn_wide.2 hc
    refine hin.mono (fun e' w3 hp => ?_)
    refine range_back (p := ⟨w.heap.size, 0, 0, 0⟩) hle (LMap.put_same _ _ _) hB2 hl hst he hp (fun ρ3 w4 hle3 hE3 hB4 => ?_)
    exact ⟨rfl, ρ3, LMap.le_trans hle hle3, hE.mono (LMap.le_trans hle hle3), hE3, hD.mono (LMap.le_trans hle hle3), hB4⟩

/-! ### 5. A function's body -/
theorem envOf_sim {ρ : LMap} {args args' : Array Value} (h : VRA ρ args args') (k : Nat) : EnvR ρ (envOf args) (args.size + (k - args.size)) (args' ++ Array.replicate (k - args'.size) Go.undef) := by
  refine ⟨by simp [h.1], fun t => ?_⟩
  have := h.get t
  simp only [envOf, Array.getD_eq_getD_getElem?, Array.getElem?_append, Array.getElem?_replicate] at this ⊢
  split
  · exact this
  · rename_i ht
    rw [Array.getElem?_eq_none (Nat.le_of_not_lt ht)] at this
    split <;> exact this
theorem aResult_sim {ρ : LMap} {B : Nat} {H : AH} {w : World} {env : Env} {nt : Nat} {tmps : Array Value} (hE : EnvR ρ env nt tmps) (hH : Emb ρ B H w) {F : ResultVar → Sem Value} (hF1 : ∀ t, F (.tmp t) = pure (tmps.getD t Go.undef))
    (hF2 : ∀ a t, F (.cell a t) = (do loadVar t (← asAddr (tmps.getD a Go.undef)))) {r : ResultVar} {v : Value} (h : aResult C.P env H r = some v) :
    ∃ v', (F r).run C.P w = .ok v' w ∧ VR ρ v v' := by
  cases r with
  | tmp t => cases h; exact ⟨_, by rw [hF1]; rfl, hE.2 t⟩
  | cell a t =>
    simp only [aResult] at h
    have hv := hE.2 a
    have hp : ∃ l o, env a = .pointer (some ⟨l, o, none⟩) := by
      unfold aLoad at h
      split at h
      · rename_i l o e; exact ⟨l, o, e⟩
      · cases h
    obtain ⟨l, o, he⟩ := hp
    have h0 := h
    rw [he] at hv
    obtain ⟨p, hp, hx⟩ := hv.ptr_inv
    have hv2 : VR ρ (env a) (tmps.getD a Go.undef) := hE.2 a
    -- a load changes nothing: the same world is handed back
    unfold aLoad at h
    rw [he] at h
    simp only at h
    rw [hF2, hx]
    unfold aggT at h
    cases hu : C.P.underlying t with
    | none => rw [hu] at h; simp at h
    | some d =>
      rw [hu] at h
      simp only [Option.map_some] at h
      cases hd : isAggD d with
      | false =>
        rw [hd] at h
        simp only at h
        obtain ⟨v', hv', hr⟩ := rd_sim hH h hp
        exact ⟨v', by simp [asAddr, loadVar, run_isAgg hu, hd, hv'], hr⟩
      | true =>
        rw [hd] at h
        simp only at h
        cases hs : sz C.P t with
        | none => rw [hs] at h; simp at h
        | some n =>
          rw [hs] at h
          simp only [Option.bind_some] at h
          cases hr : H.row l o n with
          | none => rw [hr] at h; simp at h
          | some vs =>
            rw [hr] at h
            simp only [Option.map_some] at h
            cases h
            obtain ⟨i, hi, hn⟩ := sz_inv hs
            obtain ⟨vs', hc, hvr, hlen⟩ := row_sim hH hr hp
            have ha := hvr.vra
            refine ⟨.agg vs'.toArray, ?_, .agg _ _ ha.1 ha.2⟩
            simp [asAddr, loadVar, run_isAgg hu, hd, run_size hi, hn]
            rw [← hlen, run_loadCells hc]
            rfl
theorem aResults_sim {ρ : LMap} {B : Nat} {H : AH} {w : World} {env : Env} {nt : Nat} {tmps : Array Value} (hE : EnvR ρ env nt tmps) (hH : Emb ρ B H w) {F : ResultVar → Sem Value} (hF1 : ∀ t, F (.tmp t) = pure (tmps.getD t Go.undef))
    (hF2 : ∀ a t, F (.cell a t) = (do loadVar t (← asAddr (tmps.getD a Go.undef)))) : ∀ (rs : List ResultVar) (vs : List Value), aResults C.P rs env H = some vs →
    ∃ vs', (rs.mapM F).run C.P w = .ok vs' w ∧ VRL ρ vs vs' := by
  intro rs
  induction rs with
  | nil =>
    intro vs h
    simp [aResults] at h
    subst h
    exact ⟨[], by simp, VRL.nil ρ⟩
  | cons r rs ih =>
    intro vs h
    simp only [aResults, List.mapM_cons] at h
    cases hr : aResult C.P env H r with
    | none => rw [hr] at h; cases h
    | some v =>
      rw [hr] at h
      cases hrs : rs.mapM (aResult C.P env H) with
      | none => rw [hrs] at h; cases h
      | some us =>
        rw [hrs] at h
        cases h
        obtain ⟨v', h1, h2⟩ := aResult_sim hE hH hF1 hF2 hr
        obtain ⟨us', k1, k2⟩ := ih us hrs
        refine ⟨v' :: us', ?_, VRL.cons h2 k2⟩
        rw [List.mapM_cons]
        simp only [Sem.run_bind, h1, k1, Result.andThen_ok, Sem.run_pure]
theorem results_gen {ρ : LMap} {B : Nat} {H : AH} {w : World} {env : Env} {nt : Nat} {tmps : Array Value} (hE : EnvR ρ env nt tmps) (hH : Emb ρ B H w) {F : ResultVar → Sem Value} (hF1 : ∀ t, F (.tmp t) = pure (tmps.getD t Go.undef))
    (hF2 : ∀ a t, F (.cell a t) = (do loadVar t (← asAddr (tmps.getD a Go.undef)))) {rs : Array ResultVar} {vs : List Value} (h : aResults C.P rs.toList env H = some vs) :
    ∃ vs' : List Value, ((do let vs ← rs.mapM F; pure (if h : vs.size = 1 then vs[0] else .tuple vs)) : Sem Value).run C.P w = .ok (if h : vs'.toArray.size = 1 then vs'.toArray[0] else .tuple vs'.toArray) w ∧ VRL ρ vs vs' := by
  obtain ⟨vs', h1, h2⟩ := aResults_sim hE hH hF1 hF2 rs.toList vs h
  refine ⟨vs', ?_, h2⟩
  rw [Array.mapM_eq_mapM_toList]
  simp only [Sem.run_bind, Sem.run_map, h1, Result.andThen_ok, Sem.run_pure]
theorem results_sim {ρ : LMap} {B : Nat} {H : AH} {w : World} {env : Env} {nt : Nat} {tmps : Array Value} (hE : EnvR ρ env nt tmps) (hH : Emb ρ B H w) {fn : Func} {vs : List Value} (h : aResults C.P fn.results.toList env H = some vs) :
    ∃ v', (results fn tmps).run C.P w = .ok v' w ∧ VR ρ (tupleOf vs) v' := by
  suffices hs : ∃ vs', (results fn tmps).run C.P w = .ok (if h : vs'.toArray.size = 1 then vs'.toArray[0] else .tuple vs'.toArray) w ∧ VRL ρ vs vs' by
    obtain ⟨vs', h1, h2⟩ := hs
    refine ⟨_, h1, ?_⟩
    have hl := h2.1
    match vs, vs', hl, h2 with
    | [], [], _, _ => exact .tuple #[] #[] rfl (fun i h => absurd h (by simp))
    | [v], [v'], _, h2 =>
      obtain ⟨u, hu, hr⟩ := h2.2 0 v rfl
      simp at hu
      subst hu
      exact hr
    | v :: u :: vs, v' :: u' :: vs', _, h2 =>
      have ha := h2.vra
      rw [dif_neg (by simp)]
      exact .tuple _ _ ha.1 ha.2
  unfold results
  exact results_gen hE hH (fun _ => rfl) (fun _ _ => rfl) h
theorem leaves_ok {ρ : LMap} {B : Nat} {n : Nat} {fn : Func} {tmps : Array Value} {R : Ending → World → Prop} {H2 : AH} : ∀ (ds : List Nat) (defers : List Deferred) (H : AH) (w : World), DefR ρ ds defers → Emb ρ B H w → takeMarks ds H = some H2 →
    (∀ w', Emb ρ B H2 w' → Below B w w' → ∃ v, (results fn tmps).run C.P w' = .ok v w' ∧ R (.returned v) w') → LeavesInM (wf none) n C.P fn tmps R defers .returning w
  | [], [], H, w, hd, hE, hm, hR => by
    cases hm
    exact hR w hE (Below.refl _ _)
  | [], _ :: _, H, w, hd, _, _, _ => hd.elim
  | _ :: _, [], H, w, hd, _, _, _ => hd.elim
  | l :: ds, d :: defers, H, w, hd, hE, hm, hR => by
    obtain ⟨⟨p, hp, rfl⟩, hd⟩ := hd
    simp only [takeMarks] at hm
    split at hm
    · rename_i hl
      obtain ⟨q, hq, hk⟩ := hE.blk l _ hl
      rw [hp] at hq
      cases hq
      refine ⟨by simp, .inl ⟨p.blk, _, rfl, run_takeDeferred hk.2, ?_⟩⟩
      have hB : Below B w (w.putObj p.blk (.deferred none)) := ⟨rfl, rfl, rfl, by simp, fun k hk' => World.putObj_heap_other (by have := hk.1; omega)⟩
      exact leaves_ok ds defers _ _ hd (hE.del hl hp rfl (by simp) (fun k hk => World.putObj_heap_other hk)) hm (fun w' hE' hB' => hR w' hE' (hB.trans hB'))
    · cases hm
theorem body_ok (hP : ∀ (f : FuncId) (fn : Func) (c : Code), C.P.funcs[f]? = some fn → fn.body = some c → codeOk C.G c = true) {f : FuncId} {fn : Func} {c : Code} {args : Array Value} {H H2 : AH} {e : Ex} {s' : St} {vs : List Value} (hf : C.P.funcs[f]? = some fn) (hb : fn.body = some c)
      (h : ExOk C (args.size + (fn.ntmps - args.size)) none c ⟨envOf args, H, []⟩ e s') (he : e = .normal ∨ e = .ret) (hm : takeMarks s'.ds s'.H = some H2) (hr : aResults C.P fn.results.toList s'.env H2 = some vs) :
      JOk C (.call f args H (tupleOf vs) H2) := by
  intro ρ B args' w hG hargs hH
  have hin : CallsIn Fence.wide 0 C.P f args' w (CallPost ρ B (tupleOf vs) H2 w) := callsIn_of_wp_marks (F := wf none) hf hb trivial ?_
  · exact callsIn_wide.1 hin
  have k := h (hP f fn c hf hb) 0 ρ B none { tmps := args' ++ Array.replicate (fn.ntmps - args'.size) Go.undef, defers := [] } w trivial hG (envOf_sim hargs fn.ntmps) hH trivial
  refine wpIn_mono k ?_
  rintro e' a' w' ⟨rfl, ρ', hle, hE', hH', hD', hB'⟩
  have := leaves_ok (C := C) (n := 0) (fn := fn) (tmps := a'.tmps) (R := CallPost ρ B (tupleOf vs) H2 w) s'.ds a'.defers s'.H w' hD' hH' hm (fun w2 hE2 hB2 => by
    obtain ⟨v', h1, h2⟩ := results_sim hE' hE2 hr
    exact ⟨v', h1, v', ρ', rfl, hle, h2, hE2, hB'.trans hB2⟩)
  rcases he with rfl | rfl <;> exact this

/-! ### 6. Whatever has a run -/
theorem sound (hmix : C.P.follows .mixedOrders = true) (hP : ∀ (f : FuncId) (fn : Func) (c : Code), C.P.funcs[f]? = some fn → fn.body = some c → codeOk C.G c = true) (hO : ∀ f args H v H', C.orc f args H v H' → JOk C (.call f args H v H')) {j : Judg} (h : Run C j) : JOk C j := by
  induction h with
  | opSkip ho hw =>
    intro o' ho' hok rb n B
    rw [ho] at ho'
    cases ho'
    exact ⟨opSkip_ok ho hw _ rb n B, fun _ => ⟨rfl, fun H2 _ => opSkip_ok ho hw H2 rb n B⟩⟩
  | opPure ho hw h =>
    intro o' ho' hok rb n B
    rw [ho] at ho'
    cases ho'
    refine ⟨opPure_ok ho hw hok h rb n B, fun hm => ?_⟩
    obtain ⟨rfl, hk⟩ := aop_calm hm h
    refine ⟨rfl, fun H2 hs => ?_⟩
    rcases hs with hs | hs | hs
    · rw [hw] at hs; cases hs
    · exact opPure_ok ho hw hok (hk H2 (.inl hs)) rb n B
    · exact opPure_ok ho hw hok (hk H2 (.inr hs)) rb n B
  | opExt ho hw hop hg h =>
    intro o' ho' hok rb n B
    rw [ho] at ho'
    cases ho'
    exact ⟨opExt_ok ho hw hok hop hg h rb n B, fun hm => by rw [hop] at hm; cases hm⟩
  | opCall ho hw hop hg hf h ih =>
    intro o' ho' hok rb n B
    rw [ho] at ho'
    cases ho'
    exact ⟨opCall_ok ho hw hok hop hg hf ih rb n B, fun hm => by rw [hop] at hm; cases hm⟩
  | opYield ho hw hop hg hl hs hca hcb h1 hl1 h2 hl2 ih1 ih2 =>
    intro o' ho' hok rb n B
    rw [ho] at ho'
    cases ho'
    exact ⟨opYield_ok ho hw hok hop hg hl hs hca hcb ih1 hl1 ih2 hl2 rb n B, fun hm => by rw [hop] at hm; cases hm⟩
  | opsNil => exact opsNil_ok
  | opsCons ho h1 h2 ih1 ih2 => exact opsCons_ok ho ih1 ih2
  | skip => exact ⟨fun hok n ρ B rb a w hro hG hE hH hD => wpIn_skip (here hE hH hD), fun c0 e => by cases e⟩
  | label => exact ⟨fun hok n ρ B rb a w hro hG hE hH hD => wpIn_label (here hE hH hD), fun c0 e => by cases e⟩
  | exit => exact ⟨fun hok n ρ B rb a w hro hG hE hH hD => wpIn_exit (here (e := .exit _) hE hH hD), fun c0 e => by cases e⟩
  | goto => exact ⟨fun hok n ρ B rb a w hro hG hE hH hD => wpIn_goto (here (e := .goto _) hE hH hD), fun c0 e => by cases e⟩
  | ret => exact ⟨fun hok n ρ B rb a w hro hG hE hH hD => wpIn_ret (here (e := .ret) hE hH hD), fun c0 e => by cases e⟩
  | region h ih => exact ⟨region_ok ih, fun c0 e => by cases e⟩
  | regionD hr h hp ih => exact ⟨regionD_ok hmix hr ih hp, fun c0 e => by cases e⟩
  | seq h1 h2 ih1 ih2 => exact ⟨seq_ok ih1.1 ih2.1, fun c0 e => by cases e⟩
  | seqJump h1 he ih => exact ⟨seqJump_ok ih.1 he, fun c0 e => by cases e⟩
  | cond hc h ih => exact ⟨cond_ok hc ih.1, fun c0 e => by cases e⟩
  | block h he ih => exact ⟨block_ok ih.1 he, fun c0 e => by cases e⟩
  | blockExit h ih => exact ⟨blockExit_ok ih.1, fun c0 e => by cases e⟩
  | loop h1 h2 ih1 ih2 =>
    have := loop_ok ih1.1 (ih2.2 _ rfl)
    exact ⟨loop_of this, fun c0 e => by cases e; exact this⟩
  | loopJump h1 he ih =>
    have := loopJump_ok ih.1 he
    exact ⟨loop_of this, fun c0 e => by cases e; exact this⟩
  | rangeOuter hg hf h hl hst he ih => exact ⟨rangeOuter_ok hg hf ih hl hst he, fun c0 e => by cases e⟩
  | rangeInner hl0 hg hf h hl hst he ih => exact ⟨rangeInner_ok hl0 hg hf ih hl hst he, fun c0 e => by cases e⟩
  | exGc h hs ih =>
    refine ⟨fun hok n ρ B rb a w hro hG hE hH hD => wpIn_mono (ih.1 hok n ρ B rb a w hro hG hE hH hD) (fun e a w h => exGc_ok hs h), fun c0 e => ?_⟩
    intro hok
    obtain ⟨m, hm⟩ := ih.2 c0 e hok
    exact ⟨m, fun n ρ B rb a w hro hG hE hH hD => roundsIn_mono (fun e a w h => exGc_ok hs h) m a w (hm n ρ B rb a w hro hG hE hH hD)⟩
  | body hf hb h he hm hr ih => exact body_ok hP hf hb ih.1 he hm hr
  | orc h => exact hO _ _ _ _ _ h
  | gc h hs ih =>
    intro ρ B args' w hG hargs hH
    refine (ih ρ B args' w hG hargs hH).mono (fun e w' hc => ?_)
    obtain ⟨v', ρ', rfl, h1, h2, h3, h4⟩ := hc
    exact ⟨v', ρ', rfl, h1, h2, h3.sub hs, h4⟩

end
end Go.Proofs.YtikkokolmipppaaA

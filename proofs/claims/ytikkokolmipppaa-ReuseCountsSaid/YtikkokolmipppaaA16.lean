/-
  A SMALL HEAP FOR A LARGE ONE (part 16: a run by reckoning; what a function without arguments comes to, at any heap). Own text of this session.
-/
import Derived.Test.YtikkokolmipppaaA15
set_option linter.unusedVariables false
set_option linter.unusedSimpArgs false
namespace Go.Proofs.YtikkokolmipppaaA
open Go Go.RowKit

/-! ### 1. Reckoning -/
def veq1 : Value → Value → Bool
  | .int k n, .int k' n' => decide (k = k') && decide (n = n')
  | .bool a, .bool b => a == b
  | .string a, .string b => decide (a = b)
  | .pointer a, .pointer b => decide (a = b)
  | .slice a n c, .slice a' n' c' => decide (a = a') && decide (n = n') && decide (c = c')
  | .nilFunc, .nilFunc => true
  | _, _ => false
theorem veq1_eq {a b : Value} (h : veq1 a b = true) : a = b := by
  unfold veq1 at h
  split at h <;> simp_all
def veqL : List Value → List Value → Bool
  | [], [] => true
  | a :: l, b :: m => veq1 a b && veqL l m
  | _, _ => false
theorem veqL_eq : ∀ {a b : List Value}, veqL a b = true → a = b
  | [], [], _ => rfl
  | a :: l, b :: m, h => by
    simp only [veqL, Bool.and_eq_true] at h
    rw [veq1_eq h.1, veqL_eq h.2]
  | [], _ :: _, h => by cases h
  | _ :: _, [], h => by cases h
def veq : Value → Value → Bool
  | .agg a, .agg b => veqL a.toList b.toList
  | a, b => veq1 a b
theorem veq_eq {a b : Value} (h : veq a b = true) : a = b := by
  unfold veq at h
  split at h
  · have := veqL_eq h
    rename_i x y
    cases x; cases y; simp at this; simp [this]
  · exact veq1_eq h

abbrev FE := FuncId → Array Value → AH → Option (Value × AH)
abbrev CE := Nat → Option Nat → Code → St → Option (Ex × St)
def unjump : Option Code → Option Ex
  | none => some .normal
  | some (.exit id) => some (.exit id)
  | some (.goto l) => some (.goto l)
  | some .ret => some .ret
  | _ => none
theorem unjump_eq {c : Option Code} {e : Ex} (h : unjump c = some e) : e.jump = c := by
  unfold unjump at h
  split at h <;> cases h <;> rfl
section
variable (P : Program) (G : Nat → Bool) (F : FE) (E : CE)
def xG (g : Value) (xs : Array Value) (H : AH) : Option (Value × AH) :=
  match g with
  | .func (.func f) fs cs => if callable P f = true then F f (fs ++ xs ++ cs) H else if fs.isEmpty = true ∧ cs.isEmpty = true then (match aExt P f xs with | some v => some (v, H) | none => none) else none
  | .func (.yield l) fs cs =>
    if fs.isEmpty = true ∧ cs.isEmpty = true then
      match H.get l with
      | some (.loop env0 nt0 ps as bd st0 pd0 dl0) =>
        if xs.size = ps.size ∧ codeOk G as = true ∧ codeOk G bd = true then
          match E nt0 (some l) as ⟨bindAll nt0 ps.toList xs.toList env0, H, []⟩ with
          | some (.normal, s1) => match s1.H.get l with
            | some (.loop env1 nt1 ps1 as1 bd1 .ready pd1 dl1) => match E nt0 (some l) bd ⟨s1.env, ⟨s1.H.next, upd s1.H.get l (.loop env1 nt1 ps1 as1 bd1 .busy pd1 dl1)⟩, s1.ds⟩ with
              | some (e, s2) => match s2.H.get l with
                | some (.loop env2 nt2 ps2 as2 bd2 st2 pd2 dl2) => some (.bool e.isNormal, ⟨s2.H.next, upd s2.H.get l (.loop env2 nt2 ps2 as2 bd2 (if e.isNormal = true then .ready else .done) e.jump dl2)⟩)
                | _ => none
              | none => none
            | _ => none
          | _ => none
        else none
      | _ => none
    else none
  | _ => none
def xOp (nt : Nat) (o : AO) (env : Env) (H : AH) : Option (Value × AH) :=
  if yieldedA env nt o.gd = true then
    match o.op with
    | .call ⟨.value g, args, _⟩ => xG P G F E (aeval env g) (args.map (aeval env)) H
    | op => aop P op o.ty (aeval env) H
  else some (Go.undef, H)
def xOps (nt : Nat) : List AO → Env → AH → Option (Env × AH)
  | [], env, H => some (env, H)
  | o :: l, env, H => match xOp P G F E nt o env H with
    | some (v, H') => xOps nt l (put env nt o.dst v) H'
    | none => none
def xOpsD (nt : Nat) : List AO → Env → AH → List Rec → Option (List Rec × Env × AH)
  | [], env, H, tr => some (tr, env, H)
  | o :: l, env, H, tr => match xOp P G F E nt o env H with
    | some (v, H') => xOpsD nt l (put env nt o.dst v) H' (tr ++ [⟨env, H, v, H'⟩])
    | none => none
def xStill (nt : Nat) (o : AO) (env : Env) (v : Value) (H2 : AH) : Bool := if yieldedA env nt o.gd = true then (match aop P o.op o.ty (aeval env) H2 with | some (v', _) => veq v' v | none => false) else true
def xPairs (nt : Nat) (l : List AO) (tr : List Rec) : List (Nat × Nat) → Bool
  | [] => true
  | (r, m) :: ps => (match l[r]?, tr[r]?, tr[m]? with | some o, some a, some b => xStill P nt o a.env a.v (if r < m then b.H' else b.H) | _, _, _ => false) && xPairs nt l tr ps
def xRounds (body : St → Option (Ex × St)) : Nat → St → Option (Ex × St)
  | 0, _ => none
  | n + 1, s => match body s with
    | some (.normal, s1) => xRounds body n s1
    | r => r
def xAC (m nt : Nat) (ro : Option Nat) : AC → St → Option (Ex × St)
  | .skip, s => some (.normal, s)
  | .exit id, s => some (.exit id, s)
  | .ret, s => some (.ret, s)
  | .ops l, s => match xOps P G F E nt l s.env s.H with
    | some (env, H) => some (.normal, ⟨env, H, s.ds⟩)
    | none => none
  | .opsD l ps, s => match xOpsD P G F E nt l s.env s.H [] with
    | some (tr, env, H) => if xPairs P nt l tr ps = true then some (.normal, ⟨env, H, s.ds⟩) else none
    | none => none
  | .seq a b, s => match xAC m nt ro a s with
    | some (.normal, s1) => xAC m nt ro b s1
    | r => r
  | .cond c a b, s => match aeval s.env c with
    | .bool true => xAC m nt ro a s
    | .bool false => xAC m nt ro b s
    | _ => none
  | .block id a, s => match xAC m nt ro a s with
    | some (.exit i, s1) => if i = id then some (.normal, s1) else some (.exit i, s1)
    | r => r
  | .loop a, s => xRounds (xAC m nt ro a) m s
  | .range g ps as bd, s => match aeval s.env g with
    | .func (.func f) fs cs => if callable P f = true then
        match ro with
        | none => match F f (fs ++ #[.func (.yield (s.H.next + 1)) #[] #[]] ++ cs) ((s.H.new .mark).new (.loop s.env nt ps as bd .ready none s.H.next)) with
          | some (_, H3) => match H3.get (s.H.next + 1) with
            | some (.loop env2 nt2 ps2 as2 bd2 st2 pd2 dl2) => match st2, unjump pd2 with
              | .busy, _ => none
              | _, some e => some (e, ⟨s.env, ⟨H3.next, YtikkokolmipppaaA.del H3.get (s.H.next + 1)⟩, s.H.next :: s.ds⟩)
              | _, none => none
            | _ => none
          | none => none
        | some l0 => match s.H.get l0 with
          | some (.loop env0 nt0 ps0 as0 bd0 st0 pd0 dl0) => match F f (fs ++ #[.func (.yield s.H.next) #[] #[]] ++ cs) (s.H.new (.loop s.env nt ps as bd .ready none dl0)) with
            | some (_, H3) => match H3.get s.H.next with
              | some (.loop env2 nt2 ps2 as2 bd2 st2 pd2 dl2) => match st2, unjump pd2 with
                | .busy, _ => none
                | _, some e => some (e, ⟨s.env, ⟨H3.next, YtikkokolmipppaaA.del H3.get s.H.next⟩, s.ds⟩)
                | _, none => none
              | _ => none
            | none => none
          | _ => none
      else none
    | _ => none
def xE (m : Nat) : CE := fun nt ro c s => match compile c with
  | some x => xAC P G F E m nt ro x s
  | none => none
def xF (E' : CE) : FE := fun f args H => match P.funcs[f]? with
  | some fn => match fn.body with
    | some c => match E' (args.size + (fn.ntmps - args.size)) none c ⟨envOf args, H, []⟩ with
      | some (.normal, s) | some (.ret, s) => match takeMarks s.ds s.H with
        | some H2 => match aResults P fn.results.toList s.env H2 with
          | some vs => some (tupleOf vs, H2)
          | none => none
        | none => none
      | _ => none
    | none => none
  | none => none
end
def lev (P : Program) (G : Nat → Bool) (m : Nat) : Nat → FE × CE
  | 0 => (fun _ _ _ => none, fun _ _ _ _ => none)
  | n + 1 => (xF P (xE P G (lev P G m n).1 (lev P G m n).2 m), xE P G (lev P G m n).1 (lev P G m n).2 m)

/-! ### 2. What is reckoned is a run -/
section
variable {C : Cx}
def FOk (C : Cx) (F : FE) : Prop := ∀ f args H v H', F f args H = some (v, H') → Run C (.call f args H v H')
def EOk (C : Cx) (E : CE) : Prop := ∀ nt ro c s e s', E nt ro c s = some (e, s') → Run C (.ex nt ro c s e s')
variable {F : FE} {E : CE}
theorem xG_ok (hF : FOk C F) (hE : EOk C E) {g : Value} {xs : Array Value} {H H' : AH} {v : Value} (h : xG C.P C.G F E g xs H = some (v, H')) : CallG C g xs H v H' := by
  unfold xG at h
  split at h
  · split at h
    · rename_i f fs cs hc
      exact .inl ⟨f, fs, cs, rfl, hc, hF _ _ _ _ _ h⟩
    · split at h
      · rename_i f fs cs _ hfc
        obtain rfl : fs = #[] := by simpa [Array.isEmpty] using hfc.1
        obtain rfl : cs = #[] := by simpa [Array.isEmpty] using hfc.2
        split at h
        · rename_i v hv
          cases h
          exact .inr (.inl ⟨f, rfl, hv, rfl⟩)
        · cases h
      · cases h
  · rename_i l fs cs
    split at h
    · rename_i hfc
      obtain rfl : fs = #[] := by simpa [Array.isEmpty] using hfc.1
      obtain rfl : cs = #[] := by simpa [Array.isEmpty] using hfc.2
      split at h
      · rename_i env0 nt0 ps as bd st0 pd0 dl0 hl
        split at h
        · rename_i hc
          split at h
          · rename_i s1 h1
            split at h
            · rename_i env1 nt1 ps1 as1 bd1 pd1 dl1 hl1
              split at h
              · rename_i e s2 h2
                split at h
                · rename_i env2 nt2 ps2 as2 bd2 st2 pd2 dl2 hl2
                  cases h
                  exact .inr (.inr ⟨l, env0, env1, env2, nt0, nt1, nt2, ps, ps1, ps2, as, as1, as2, bd, bd1, bd2, st0, st2, pd0, pd1, pd2, dl0, dl1, dl2, s1, s2, e, rfl, hl, hc.1, hc.2.1, hc.2.2, hE _ _ _ _ _ _ h1, hl1, hE _ _ _ _ _ _ h2, hl2, rfl, rfl⟩)
                · cases h
              · cases h
            · cases h
          · cases h
        · cases h
      · cases h
    · cases h
  · cases h
theorem xOp_ok (hF : FOk C F) (hE : EOk C E) {nt : Nat} {o : AO} {env : Env} {H H' : AH} {v : Value} {K : Value → AH → Prop} (h : xOp C.P C.G F E nt o env H = some (v, H')) (hK : K v H') : awOp C nt o env H K := by
  unfold xOp at h
  unfold awOp
  split at h
  · rename_i hy
    rw [if_pos hy]
    generalize o.op = op at h ⊢
    split at h
    · exact ⟨v, H', xG_ok hF hE h, hK⟩
    · split
      · rename_i hne
        exact (hne _ _ _ rfl).elim
      · rw [h]; exact hK
  · rename_i hy
    cases h
    rw [if_neg hy]
    exact hK
theorem xOps_ok (hF : FOk C F) (hE : EOk C E) {nt : Nat} : ∀ (l : List AO) {env env' : Env} {H H' : AH} {K : Env → AH → Prop}, xOps C.P C.G F E nt l env H = some (env', H') → K env' H' → awO C nt l env H K
  | [], _, _, _, _, _, h, hK => by cases h; exact hK
  | o :: l, env, env', H, H', K, h, hK => by
    simp only [xOps] at h
    split at h
    · rename_i v H1 h1
      exact xOp_ok hF hE h1 (xOps_ok hF hE l h hK)
    · cases h
theorem xOpsD_ok (hF : FOk C F) (hE : EOk C E) {nt : Nat} : ∀ (l : List AO) {env env' : Env} {H H' : AH} {tr tr' : List Rec} {K : List Rec → Env → AH → Prop}, xOpsD C.P C.G F E nt l env H tr = some (tr', env', H') → K tr' env' H' → awD C nt l env H tr K
  | [], _, _, _, _, _, _, _, h, hK => by cases h; exact hK
  | o :: l, env, env', H, H', tr, tr', K, h, hK => by
    simp only [xOpsD] at h
    split at h
    · rename_i v H1 h1
      exact xOp_ok hF hE h1 (xOpsD_ok hF hE l h hK)
    · cases h
theorem xStill_ok {nt : Nat} {o : AO} {env : Env} {v : Value} {H2 : AH} (h : xStill C.P nt o env v H2 = true) : StillA C nt o env v H2 := by
  intro hy
  unfold xStill at h
  rw [if_pos hy] at h
  split at h
  · rename_i v' _ he
    rw [he, veq_eq h]
    rfl
  · cases h
theorem xPairs_ok {nt : Nat} {l : List AO} {tr : List Rec} : ∀ (ps : List (Nat × Nat)), xPairs C.P nt l tr ps = true → pairsA C nt l tr ps
  | [], _ => trivial
  | (r, m) :: ps, h => by
    simp only [xPairs, Bool.and_eq_true] at h
    refine ⟨?_, xPairs_ok ps h.2⟩
    have h1 := h.1
    split at h1
    · rename_i o a b e1 e2 e3
      exact ⟨o, a, b, e1, e2, e3, xStill_ok h1⟩
    · cases h1
theorem xRounds_ok {body : St → Option (Ex × St)} {bw : (Ex → St → Prop) → St → Prop} (hb : ∀ s e s' Q, body s = some (e, s') → Q e s' → bw Q s) : ∀ (n : Nat) {s s' : St} {e : Ex} {Q : Ex → St → Prop}, xRounds body n s = some (e, s') → Q e s' → roundsA bw Q n s
  | 0, _, _, _, _, h, _ => by cases h
  | n + 1, s, s', e, Q, h, hQ => by
    simp only [xRounds] at h
    split at h
    · rename_i s1 h1
      exact hb _ _ _ _ h1 (xRounds_ok hb n h hQ)
    · rename_i hne
      refine hb _ _ _ _ h ?_
      cases e with
      | normal => exact (hne _ h).elim
      | _ => exact hQ
theorem xAC_ok (hF : FOk C F) (hE : EOk C E) {m nt : Nat} {ro : Option Nat} : ∀ (x : AC) {s s' : St} {e : Ex} {Q : Ex → St → Prop}, xAC C.P C.G F E m nt ro x s = some (e, s') → Q e s' → aw C nt ro x Q s
  | .skip, _, _, _, _, h, hQ => by cases h; exact hQ
  | .exit _, _, _, _, _, h, hQ => by cases h; exact hQ
  | .ret, _, _, _, _, h, hQ => by cases h; exact hQ
  | .ops l, s, s', e, Q, h, hQ => by
    simp only [xAC] at h
    split at h
    · rename_i env H h1
      cases h
      exact xOps_ok hF hE l h1 hQ
    · cases h
  | .opsD l ps, s, s', e, Q, h, hQ => by
    simp only [xAC] at h
    split at h
    · rename_i tr env H h1
      split at h
      · rename_i hp
        cases h
        exact xOpsD_ok hF hE l h1 ⟨xPairs_ok ps hp, hQ⟩
      · cases h
    · cases h
  | .seq a b, s, s', e, Q, h, hQ => by
    simp only [xAC] at h
    split at h
    · rename_i s1 h1
      exact xAC_ok hF hE a (Q := thenE (aw C nt ro b Q) Q) h1 (xAC_ok hF hE b h hQ)
    · rename_i hne
      refine xAC_ok hF hE a (Q := thenE (aw C nt ro b Q) Q) h ?_
      cases e with
      | normal => exact (hne _ h).elim
      | _ => exact hQ
  | .cond c a b, s, s', e, Q, h, hQ => by
    simp only [xAC] at h
    split at h
    · rename_i hc
      exact ⟨true, hc, fun _ => xAC_ok hF hE a h hQ, fun e => (by cases e)⟩
    · rename_i hc
      exact ⟨false, hc, fun e => (by cases e), fun _ => xAC_ok hF hE b h hQ⟩
    · cases h
  | .block id a, s, s', e, Q, h, hQ => by
    simp only [xAC] at h
    split at h
    · rename_i i s1 h1
      refine xAC_ok hF hE a (Q := blockE id Q) h1 ?_
      simp only [blockE]
      split at h
      · rename_i hi; cases h; rw [if_pos hi]; exact hQ
      · rename_i hi; cases h; rw [if_neg hi]; exact hQ
    · rename_i hne
      refine xAC_ok hF hE a (Q := blockE id Q) h ?_
      cases e with
      | exit i => exact (hne _ _ h).elim
      | _ => exact hQ
  | .loop a, s, s', e, Q, h, hQ => by
    simp only [xAC] at h
    exact ⟨m, xRounds_ok (bw := aw C nt ro a) (fun s e s' Q h hQ => xAC_ok hF hE a h hQ) m h hQ⟩
  | .range g ps as bd, s, s', e, Q, h, hQ => by
    simp only [xAC] at h
    split at h
    · rename_i f fs cs hg
      split at h
      · rename_i hc
        split at h
        · split at h
          · rename_i v H3 h1
            split at h
            · rename_i env2 nt2 ps2 as2 bd2 st2 pd2 dl2 hl
              split at h
              · cases h
              · rename_i e' hne hu
                cases h
                exact ⟨_, _, .rangeOuter hg hc (hF _ _ _ _ _ h1) hl (fun e => by subst e; exact (hne rfl).elim) (unjump_eq hu), hQ⟩
              · cases h
            · cases h
          · cases h
        · split at h
          · rename_i l0 env0 nt0 ps0 as0 bd0 st0 pd0 dl0 hl0
            split at h
            · rename_i v H3 h1
              split at h
              · rename_i env2 nt2 ps2 as2 bd2 st2 pd2 dl2 hl
                split at h
                · cases h
                · rename_i e' hne hu
                  cases h
                  exact ⟨_, _, .rangeInner hl0 hg hc (hF _ _ _ _ _ h1) hl (fun e => by subst e; exact (hne rfl).elim) (unjump_eq hu), hQ⟩
                · cases h
              · cases h
            · cases h
          · cases h
      · cases h
    · cases h
theorem xE_ok (hF : FOk C F) (hE : EOk C E) (m : Nat) : EOk C (xE C.P C.G F E m) := by
  intro nt ro c s e s' h
  unfold xE at h
  split at h
  · rename_i x hx
    obtain ⟨e1, s1, h1, h2⟩ := aw_run c x hx (AtE e s') s (xAC_ok hF hE x h ⟨rfl, rfl⟩)
    obtain ⟨rfl, rfl⟩ := h2
    exact h1
  · cases h
theorem xF_ok (hE : EOk C E) : FOk C (xF C.P E) := by
  intro f args H v H' h
  unfold xF at h
  split at h
  · rename_i fn hf
    split at h
    · rename_i c hb
      split at h
      · rename_i s h1
        split at h
        · rename_i H2 hm
          split at h
          · rename_i vs hr
            cases h
            exact .body hf hb (hE _ _ _ _ _ _ h1) (.inl rfl) hm hr
          · cases h
        · cases h
      · rename_i s h1
        split at h
        · rename_i H2 hm
          split at h
          · rename_i vs hr
            cases h
            exact .body hf hb (hE _ _ _ _ _ _ h1) (.inr rfl) hm hr
          · cases h
        · cases h
      · cases h
    · cases h
  · cases h
theorem lev_ok (m : Nat) : ∀ n, FOk C (lev C.P C.G m n).1 ∧ EOk C (lev C.P C.G m n).2
  | 0 => ⟨fun _ _ _ _ _ h => (by cases h), fun _ _ _ _ _ _ h => (by cases h)⟩
  | n + 1 => by
    obtain ⟨h1, h2⟩ := lev_ok m n
    exact ⟨xF_ok (xE_ok h1 h2 m), xE_ok h1 h2 m⟩
end

/-! ### 3. A function without arguments that comes to true -/
/-- reckoned at the empty heap -/
def comesTrue (P : Program) (G : Nat → Bool) (m n : Nat) (f : FuncId) : Bool := match (lev P G m n).1 f #[] H00 with
  | some (.bool true, _) => true
  | _ => false
theorem comesTrue_run {C : Cx} {m n : Nat} {f : FuncId} (h : comesTrue C.P C.G m n f = true) : CallR C f #[] H00 (fun v _ => v = .bool true) := by
  unfold comesTrue at h
  split at h
  · rename_i H' h1
    exact ⟨_, _, (lev_ok m n).1 _ _ _ _ _ h1, rfl⟩
  · cases h
/-- the same, with arguments -/
def comesTrueA (P : Program) (G : Nat → Bool) (m n : Nat) (f : FuncId) (args : Array Value) : Bool := match (lev P G m n).1 f args H00 with
  | some (.bool true, _) => true
  | _ => false
theorem comesTrueA_run {C : Cx} {m n : Nat} {f : FuncId} {args : Array Value} (h : comesTrueA C.P C.G m n f args = true) : CallR C f args H00 (fun v _ => v = .bool true) := by
  unfold comesTrueA at h
  split at h
  · rename_i H' h1
    exact ⟨_, _, (lev_ok m n).1 _ _ _ _ _ h1, rfl⟩
  · cases h
/-- what a function that comes to true may be taken to do -/
def trueOrc (A : FuncId) : FuncId → Array Value → AH → Value → AH → Prop := fun f args H v H' => f = A ∧ args = #[] ∧ v = .bool true ∧ H' = H
theorem trueOrc_ok {P : Program} {m n : Nat} {A : FuncId} {orc : FuncId → Array Value → AH → Value → AH → Prop} (hmix : P.follows .mixedOrders = true) (hP : progOk P (fun _ => false) = true) (h : comesTrue P (fun _ => false) m n A = true) :
    ∀ f args H v H', trueOrc A f args H v H' → JOk ⟨P, fun _ => false, orc⟩ (.call f args H v H') := by
  rintro f args H v H' ⟨rfl, rfl, rfl, rfl⟩ ρ B args' w hG ha hE
  have h0 : args' = #[] := by have := ha.1; simpa using this.symm
  subst h0
  refine (law_call (P := P) (G := fun _ => false) (orc := fun _ _ _ _ _ => False) hmix hP (fun _ _ _ _ _ h => h.elim) (H := H00) (ρ := fun _ => none) (comesTrue_run (C := ⟨P, fun _ => false, fun _ _ _ _ _ => False⟩) h) (fun _ h => (by cases h)) ⟨rfl, fun i hi => by simp at hi⟩ (emb00 (Nat.le_refl _))).mono ?_
  rintro e w' ⟨rfl, hb⟩
  exact ⟨.bool true, ρ, rfl, LMap.le_refl _, .bool _, hE.below hb, hb.mono hE.size⟩
end Go.Proofs.YtikkokolmipppaaA

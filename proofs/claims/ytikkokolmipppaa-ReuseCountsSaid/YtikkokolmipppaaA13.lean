/-
  A SMALL HEAP FOR A LARGE ONE (part 13: rules for loops, yields and ranges; words for what a heap has). Own text of this session.
-/
import Derived.Test.YtikkokolmipppaaA12
set_option linter.unusedVariables false
set_option linter.unusedSimpArgs false
namespace Go.Proofs.YtikkokolmipppaaA
open Go Go.RowKit

section
variable {C : Cx} {nt : Nat}

/-! ### 1. A walk has one end -/
theorem awOp_ang {o : AO} {env : Env} {H : AH} {K : Value → AH → Prop} (h : awOp C nt o env H K) : ∃ v H', awOp C nt o env H (fun v1 H1 => v1 = v ∧ H1 = H') ∧ K v H' := by
  unfold awOp at h ⊢
  split at h
  · rename_i hy
    simp only [hy, if_true]
    split at h
    · obtain ⟨v, H', h1, h2⟩ := h
      exact ⟨v, H', ⟨v, H', h1, rfl, rfl⟩, h2⟩
    · rename_i hne
      split at h
      · rename_i v H' he
        refine ⟨v, H', ?_, h⟩
        simp only [he]
        exact ⟨trivial, trivial⟩
      · exact h.elim
  · rename_i hy
    simp only [hy, if_false]
    exact ⟨_, _, ⟨rfl, rfl⟩, h⟩
theorem awOp_mono {o : AO} {env : Env} {H : AH} {K K' : Value → AH → Prop} (h : awOp C nt o env H K) (hk : ∀ v H, K v H → K' v H) : awOp C nt o env H K' := by
  unfold awOp at h ⊢
  split at h
  · rename_i hy
    simp only [hy, if_true]
    split at h
    · obtain ⟨v, H', h1, h2⟩ := h
      exact ⟨v, H', h1, hk _ _ h2⟩
    · split at h
      · rename_i v H' he
        exact hk _ _ h
      · exact h.elim
  · rename_i hy
    simp only [hy, if_false]
    exact hk _ _ h
theorem awO_mono : ∀ (l : List AO) {env : Env} {H : AH} {K K' : Env → AH → Prop}, awO C nt l env H K → (∀ e H, K e H → K' e H) → awO C nt l env H K'
  | [], _, _, _, _, h, hk => hk _ _ h
  | o :: l, _, _, _, _, h, hk => awOp_mono h fun _ _ h => awO_mono l h hk
theorem awD_mono : ∀ (l : List AO) {env : Env} {H : AH} {tr : List Rec} {K K' : List Rec → Env → AH → Prop}, awD C nt l env H tr K → (∀ t e H, K t e H → K' t e H) → awD C nt l env H tr K'
  | [], _, _, _, _, _, h, hk => hk _ _ _ h
  | o :: l, _, _, _, _, _, h, hk => awOp_mono h fun _ _ h => awD_mono l h hk
theorem awO_ang : ∀ (l : List AO) {env : Env} {H : AH} {K : Env → AH → Prop}, awO C nt l env H K → ∃ e' H', awO C nt l env H (fun e1 H1 => e1 = e' ∧ H1 = H') ∧ K e' H'
  | [], _, _, _, h => ⟨_, _, ⟨rfl, rfl⟩, h⟩
  | o :: l, _, _, _, h => by
    obtain ⟨v, H1, h1, h2⟩ := awOp_ang h
    obtain ⟨e', H', h3, h4⟩ := awO_ang l h2
    refine ⟨e', H', awOp_mono h1 ?_, h4⟩
    rintro _ _ ⟨rfl, rfl⟩
    exact h3
theorem awD_ang : ∀ (l : List AO) {env : Env} {H : AH} {tr : List Rec} {K : List Rec → Env → AH → Prop}, awD C nt l env H tr K → ∃ t' e' H', awD C nt l env H tr (fun t1 e1 H1 => t1 = t' ∧ e1 = e' ∧ H1 = H') ∧ K t' e' H'
  | [], _, _, _, _, h => ⟨_, _, _, ⟨rfl, rfl, rfl⟩, h⟩
  | o :: l, _, _, _, _, h => by
    obtain ⟨v, H1, h1, h2⟩ := awOp_ang h
    obtain ⟨t', e', H', h3, h4⟩ := awD_ang l h2
    refine ⟨t', e', H', awOp_mono h1 ?_, h4⟩
    rintro _ _ ⟨rfl, rfl⟩
    exact h3
variable {ro : Option Nat}
theorem thenE_mono {K K' : St → Prop} {Q Q' : Ex → St → Prop} (hk : ∀ s, K s → K' s) (hq : ∀ e s, Q e s → Q' e s) : ∀ e s, thenE K Q e s → thenE K' Q' e s := by
  intro e s h
  cases e with
  | normal => exact hk _ h
  | _ => exact hq _ _ h
theorem blockE_mono {id : Nat} {Q Q' : Ex → St → Prop} (hq : ∀ e s, Q e s → Q' e s) : ∀ e s, blockE id Q e s → blockE id Q' e s := by
  intro e s h
  cases e with
  | exit i =>
    simp only [blockE] at h ⊢
    split at h
    · rename_i hi; rw [if_pos hi]; exact hq _ _ h
    · rename_i hi; rw [if_neg hi]; exact hq _ _ h
  | _ => exact hq _ _ h
theorem rounds_mono {body : (Ex → St → Prop) → St → Prop} (hb : ∀ Q Q' s, (∀ e s, Q e s → Q' e s) → body Q s → body Q' s) {Q Q' : Ex → St → Prop} (hq : ∀ e s, Q e s → Q' e s) : ∀ n s, roundsA body Q n s → roundsA body Q' n s
  | 0, _, h => h
  | n + 1, s, h => hb _ _ _ (thenE_mono (rounds_mono hb hq n) hq) h
theorem aw_mono : ∀ (x : AC) {Q Q' : Ex → St → Prop} {s : St}, (∀ e s, Q e s → Q' e s) → aw C nt ro x Q s → aw C nt ro x Q' s
  | .skip, _, _, _, hq, h => hq _ _ h
  | .exit _, _, _, _, hq, h => hq _ _ h
  | .ret, _, _, _, hq, h => hq _ _ h
  | .ops l, _, _, _, hq, h => awO_mono l h fun _ _ h => hq _ _ h
  | .opsD l ps, _, _, _, hq, h => awD_mono l h fun _ _ _ h => ⟨h.1, hq _ _ h.2⟩
  | .seq a b, _, _, _, hq, h => aw_mono a (thenE_mono (fun _ h => aw_mono b hq h) hq) h
  | .cond c a b, _, _, _, hq, h => let ⟨t, h0, h1, h2⟩ := h; ⟨t, h0, fun e => aw_mono a hq (h1 e), fun e => aw_mono b hq (h2 e)⟩
  | .block id a, _, _, _, hq, h => aw_mono a (blockE_mono hq) h
  | .loop a, _, _, _, hq, h => let ⟨n, h⟩ := h; ⟨n, rounds_mono (body := aw C nt ro a) (fun _ _ _ hq h => aw_mono a hq h) hq n _ h⟩
  | .range f ps as bd, _, _, _, hq, h => W_mono h hq
def AtE (e : Ex) (s : St) : Ex → St → Prop := fun e1 s1 => e1 = e ∧ s1 = s
theorem thenE_at {K : St → Prop} {Q : Ex → St → Prop} {e : Ex} {s : St} (h : thenE K Q e s) : (e = .normal ∧ K s) ∨ (e ≠ .normal ∧ Q e s ∧ ∀ (K' : St → Prop) (Q' : Ex → St → Prop), thenE K' Q' e s = Q' e s) := by
  cases e with
  | normal => exact .inl ⟨rfl, h⟩
  | _ => exact .inr ⟨fun e => (by cases e), h, fun _ _ => rfl⟩
theorem rounds_ang {body : (Ex → St → Prop) → St → Prop} (hm : ∀ Q Q' s, (∀ e s, Q e s → Q' e s) → body Q s → body Q' s) (hb : ∀ Q s, body Q s → ∃ e s', body (AtE e s') s ∧ Q e s') {Q : Ex → St → Prop} : ∀ n s, roundsA body Q n s → ∃ e s', roundsA body (AtE e s') n s ∧ Q e s'
  | 0, _, h => h.elim
  | n + 1, s, h => by
    obtain ⟨e1, s1, h1, h2⟩ := hb _ _ h
    rcases thenE_at h2 with ⟨rfl, h3⟩ | ⟨_, h3, h4⟩
    · obtain ⟨e, s', h5, h6⟩ := rounds_ang hm hb n _ h3
      refine ⟨e, s', hm _ _ _ ?_ h1, h6⟩
      rintro _ _ ⟨rfl, rfl⟩
      exact h5
    · refine ⟨e1, s1, hm _ _ _ ?_ h1, h3⟩
      rintro _ _ ⟨rfl, rfl⟩
      rw [h4]
      exact ⟨rfl, rfl⟩
theorem aw_ang : ∀ (x : AC) {Q : Ex → St → Prop} {s : St}, aw C nt ro x Q s → ∃ e s', aw C nt ro x (AtE e s') s ∧ Q e s'
  | .skip, _, _, h => ⟨_, _, ⟨rfl, rfl⟩, h⟩
  | .exit _, _, _, h => ⟨_, _, ⟨rfl, rfl⟩, h⟩
  | .ret, _, _, h => ⟨_, _, ⟨rfl, rfl⟩, h⟩
  | .ops l, _, _, h => by
    obtain ⟨e', H', h1, h2⟩ := awO_ang l h
    refine ⟨_, _, awO_mono l h1 ?_, h2⟩
    rintro _ _ ⟨rfl, rfl⟩
    exact ⟨rfl, rfl⟩
  | .opsD l ps, _, _, h => by
    obtain ⟨t', e', H', h1, h2, h3⟩ := awD_ang l h
    refine ⟨_, _, awD_mono l h1 ?_, h3⟩
    rintro _ _ _ ⟨rfl, rfl, rfl⟩
    exact ⟨h2, rfl, rfl⟩
  | .seq a b, _, _, h => by
    obtain ⟨e1, s1, h1, h2⟩ := aw_ang a h
    rcases thenE_at h2 with ⟨rfl, h3⟩ | ⟨_, h3, h4⟩
    · obtain ⟨e, s', h5, h6⟩ := aw_ang b h3
      refine ⟨e, s', aw_mono a ?_ h1, h6⟩
      rintro _ _ ⟨rfl, rfl⟩
      exact h5
    · refine ⟨e1, s1, aw_mono a ?_ h1, h3⟩
      rintro _ _ ⟨rfl, rfl⟩
      rw [h4]
      exact ⟨rfl, rfl⟩
  | .cond c a b, _, _, h => by
    obtain ⟨t, h0, h1, h2⟩ := h
    cases t with
    | true =>
      obtain ⟨e, s', h3, h4⟩ := aw_ang a (h1 rfl)
      exact ⟨e, s', ⟨true, h0, fun _ => h3, fun e => (by cases e)⟩, h4⟩
    | false =>
      obtain ⟨e, s', h3, h4⟩ := aw_ang b (h2 rfl)
      exact ⟨e, s', ⟨false, h0, fun e => (by cases e), fun _ => h3⟩, h4⟩
  | .block id a, Q, _, h => by
    obtain ⟨e1, s1, h1, h2⟩ := aw_ang a h
    cases e1 with
    | exit i =>
      simp only [blockE] at h2
      split at h2
      · rename_i hi
        refine ⟨.normal, s1, aw_mono a ?_ h1, h2⟩
        rintro _ _ ⟨rfl, rfl⟩
        simp only [blockE, hi, if_true]
        exact ⟨rfl, rfl⟩
      · rename_i hi
        refine ⟨.exit i, s1, aw_mono a ?_ h1, h2⟩
        rintro _ _ ⟨rfl, rfl⟩
        simp only [blockE, hi, if_false]
        exact ⟨rfl, rfl⟩
    | normal => exact ⟨_, s1, aw_mono a (by rintro _ _ ⟨rfl, rfl⟩; exact ⟨rfl, rfl⟩) h1, h2⟩
    | goto l => exact ⟨_, s1, aw_mono a (by rintro _ _ ⟨rfl, rfl⟩; exact ⟨rfl, rfl⟩) h1, h2⟩
    | ret => exact ⟨_, s1, aw_mono a (by rintro _ _ ⟨rfl, rfl⟩; exact ⟨rfl, rfl⟩) h1, h2⟩
  | .loop a, _, _, h => by
    obtain ⟨n, h⟩ := h
    obtain ⟨e, s', h1, h2⟩ := rounds_ang (body := aw C nt ro a) (fun _ _ _ hq h => aw_mono a hq h) (fun _ _ h => aw_ang a h) n _ h
    exact ⟨e, s', ⟨n, h1⟩, h2⟩
  | .range f ps as bd, _, _, h => by
    obtain ⟨e, s', h1, h2⟩ := h
    exact ⟨e, s', ⟨e, s', h1, rfl, rfl⟩, h2⟩

theorem aw_cut {C : Cx} {nt : Nat} {ro : Option Nat} {a b : AC} {Q : Ex → St → Prop} {s : St} (M : St → Prop) (h : aw C nt ro a (thenE M Q) s) (hk : ∀ s, M s → aw C nt ro b Q s) : aw C nt ro (.seq a b) Q s := aw_mono a (thenE_mono hk fun _ _ h => h) h
/-- two branches that come together again: what holds behind both -/
theorem onBool_join {C : Cx} {nt : Nat} {ro : Option Nat} {a b : AC} {v : Value} {K : St → Prop} {Q : Ex → St → Prop} {s : St} (M : St → Prop) (h : onBool v (aw C nt ro a (thenE M Q) s) (aw C nt ro b (thenE M Q) s)) (hk : ∀ s, M s → K s) : onBool v (aw C nt ro a (thenE K Q) s) (aw C nt ro b (thenE K Q) s) := by
  cases v with
  | bool t => cases t with
    | true => exact aw_mono a (thenE_mono hk fun _ _ h => h) h
    | false => exact aw_mono b (thenE_mono hk fun _ _ h => h) h
  | _ => exact h.elim

/-! ### 2. Loops -/
/-- a loop whose rounds lower a number -/
theorem aw_loop {a : AC} {Q : Ex → St → Prop} (I : Nat → St → Prop) (hstep : ∀ k s, I k s → aw C nt ro a (thenE (fun s' => ∃ j, j < k ∧ I j s') Q) s) {k : Nat} {s : St} (h : I k s) : aw C nt ro (.loop a) Q s := by
  show ∃ n, roundsA (aw C nt ro a) Q n s
  induction k using Nat.strongRecOn generalizing s with
  | _ k ih =>
    obtain ⟨e, s', h1, h2⟩ := aw_ang a (hstep k s h)
    rcases thenE_at h2 with ⟨rfl, j, hj, h3⟩ | ⟨_, h3, h4⟩
    · obtain ⟨n, hn⟩ := ih j hj h3
      refine ⟨n + 1, aw_mono a ?_ h1⟩
      rintro _ _ ⟨rfl, rfl⟩
      exact hn
    · refine ⟨1, aw_mono a ?_ h1⟩
      rintro _ _ ⟨rfl, rfl⟩
      rw [h4]
      exact h3
/-- a loop that counts up to n -/
theorem aw_loop_to {a : AC} {Q : Ex → St → Prop} (n : Nat) (I : Nat → St → Prop) (hstep : ∀ k s, k < n → I k s → aw C nt ro a (thenE (fun s' => I (k + 1) s') Q) s) (hend : ∀ s, I n s → aw C nt ro a (thenE (fun s' => False) Q) s) {s : St} (h : I 0 s) : aw C nt ro (.loop a) Q s := by
  refine aw_loop (fun m s => m ≤ n ∧ I (n - m) s) ?_ (k := n) ⟨Nat.le_refl _, by simpa using h⟩
  intro k s hk
  by_cases h0 : k = 0
  · subst h0
    exact aw_mono a (thenE_mono (fun _ h => h.elim) (fun _ _ h => h)) (hend s (by simpa using hk.2))
  · refine aw_mono a (thenE_mono (fun s' h => ?_) (fun _ _ h => h)) (hstep (n - k) s (by omega) hk.2)
    exact ⟨k - 1, by omega, by omega, by rw [show n - (k - 1) = n - k + 1 by omega]; exact h⟩

/-! ### 3. Yields and ranges -/
theorem callG_yield {l : Nat} {xs : Array Value} {H : AH} {env0 : Env} {nt0 : Nat} {ps : Array Tmp} {as bd : Code} {st0 : LoopState} {pd0 : Option Code} {dl0 : Nat} {asc bdc : AC} {K : Value → AH → Prop}
    (hl : H.get l = some (.loop env0 nt0 ps as bd st0 pd0 dl0)) (hs : xs.size = ps.size) (hca : codeOk C.G as = true) (hcb : codeOk C.G bd = true) (ha : compile as = some asc) (hb : compile bd = some bdc)
    (h : aw C nt0 (some l) asc (fun e s1 => e = .normal ∧ ∃ env1 nt1 ps1 as1 bd1 pd1 dl1, s1.H.get l = some (.loop env1 nt1 ps1 as1 bd1 .ready pd1 dl1) ∧
      aw C nt0 (some l) bdc (fun e s2 => ∃ env2 nt2 ps2 as2 bd2 st2 pd2 dl2, s2.H.get l = some (.loop env2 nt2 ps2 as2 bd2 st2 pd2 dl2) ∧
        K (.bool e.isNormal) ⟨s2.H.next, upd s2.H.get l (.loop env2 nt2 ps2 as2 bd2 (if e.isNormal = true then .ready else .done) e.jump dl2)⟩)
        ⟨s1.env, ⟨s1.H.next, upd s1.H.get l (.loop env1 nt1 ps1 as1 bd1 .busy pd1 dl1)⟩, s1.ds⟩) ⟨bindAll nt0 ps.toList xs.toList env0, H, []⟩) :
    CallV C (.func (.yield l) #[] #[]) xs H K := by
  obtain ⟨e, s1, h1, rfl, env1, nt1, ps1, as1, bd1, pd1, dl1, h2, h3⟩ := aw_run as asc ha _ _ h
  obtain ⟨e, s2, h4, env2, nt2, ps2, as2, bd2, st2, pd2, dl2, h5, h6⟩ := aw_run bd bdc hb _ _ h3
  exact ⟨_, _, .inr (.inr ⟨l, env0, env1, env2, nt0, nt1, nt2, ps, ps1, ps2, as, as1, as2, bd, bd1, bd2, st0, st2, pd0, pd1, pd2, dl0, dl1, dl2, s1, s2, e, rfl, hl, hs, hca, hcb, h1, h2, h4, h5, rfl, rfl⟩), h6⟩
theorem aw_range {g : Operand} {ps : Array Tmp} {as bd : Code} {s : St} {Q : Ex → St → Prop} {f : FuncId} {fs cs : Array Value} (hg : aeval s.env g = .func (.func f) fs cs) (hf : callable C.P f = true)
    (h : ∃ v H3, Run C (.call f (fs ++ #[.func (.yield (s.H.next + 1)) #[] #[]] ++ cs) ⟨s.H.next + 2, upd (upd s.H.get s.H.next .mark) (s.H.next + 1) (.loop s.env nt ps as bd .ready none s.H.next)⟩ v H3) ∧
      ∃ env2 nt2 ps2 as2 bd2 st2 dl2 e, H3.get (s.H.next + 1) = some (.loop env2 nt2 ps2 as2 bd2 st2 (Ex.jump e) dl2) ∧ st2 ≠ .busy ∧
        Q e ⟨s.env, ⟨H3.next, YtikkokolmipppaaA.del H3.get (s.H.next + 1)⟩, s.H.next :: s.ds⟩) : aw C nt none (.range g ps as bd) Q s := by
  obtain ⟨v, H3, h1, env2, nt2, ps2, as2, bd2, st2, dl2, e, h2, h3, h4⟩ := h
  exact ⟨e, _, .rangeOuter hg hf h1 h2 h3 rfl, h4⟩
theorem aw_rangeIn {l0 : Nat} {g : Operand} {ps : Array Tmp} {as bd : Code} {s : St} {Q : Ex → St → Prop} {f : FuncId} {fs cs : Array Value} {env0 : Env} {nt0 : Nat} {ps0 : Array Tmp} {as0 bd0 : Code} {st0 : LoopState} {pd0 : Option Code} {dl0 : Nat}
    (hl0 : s.H.get l0 = some (.loop env0 nt0 ps0 as0 bd0 st0 pd0 dl0)) (hg : aeval s.env g = .func (.func f) fs cs) (hf : callable C.P f = true)
    (h : ∃ v H3, Run C (.call f (fs ++ #[.func (.yield s.H.next) #[] #[]] ++ cs) ⟨s.H.next + 1, upd s.H.get s.H.next (.loop s.env nt ps as bd .ready none dl0)⟩ v H3) ∧
      ∃ env2 nt2 ps2 as2 bd2 st2 dl2 e, H3.get s.H.next = some (.loop env2 nt2 ps2 as2 bd2 st2 (Ex.jump e) dl2) ∧ st2 ≠ .busy ∧
        Q e ⟨s.env, ⟨H3.next, YtikkokolmipppaaA.del H3.get s.H.next⟩, s.ds⟩) : aw C nt (some l0) (.range g ps as bd) Q s := by
  obtain ⟨v, H3, h1, env2, nt2, ps2, as2, bd2, st2, dl2, e, h2, h3, h4⟩ := h
  exact ⟨e, _, .rangeInner hl0 hg hf h1 h2 h3 rfl, h4⟩
end
/-- a call of a function value that is a function, or a yield -/
theorem callV_of {C : Cx} {g : Value} {xs : Array Value} {H : AH} {K : Value → AH → Prop} (h : CallV C g xs H K) : ∃ v H', CallG C g xs H v H' ∧ K v H' := h
theorem callV_G {C : Cx} {g : Value} {xs : Array Value} {H H' : AH} {v : Value} {K : Value → AH → Prop} (h : CallG C g xs H v H') (hK : K v H') : CallV C g xs H K := ⟨v, H', h, hK⟩

theorem callV_ext {C : Cx} {f : FuncId} {xs : Array Value} {H : AH} {v : Value} {K : Value → AH → Prop} (h : aExt C.P f xs = some v) (hK : K v H) : CallV C (.func (.func f) #[] #[]) xs H K := ⟨v, H, .inr (.inl ⟨f, rfl, h, rfl⟩), hK⟩
/-! ### 3b. Open pairs -/
section
variable {C : Cx} {nt : Nat}
def PairA (C : Cx) (nt : Nat) : Option AO → Option Rec → Option Rec → Bool → Prop
  | some o, some a, some b, true => StillA C nt o a.env a.v b.H'
  | some o, some a, some b, false => StillA C nt o a.env a.v b.H
  | _, _, _, _ => False
theorem PairA_congr {x x' : Option AO} {a a' b b' : Option Rec} {t t' : Bool} (h1 : x = x') (h2 : a = a') (h3 : b = b') (h4 : t = t') : PairA C nt x a b t = PairA C nt x' a' b' t' := by rw [h1, h2, h3, h4]
theorem pairsA_cons (l : List AO) (tr : List Rec) (r m : Nat) (ps : List (Nat × Nat)) : pairsA C nt l tr ((r, m) :: ps) ↔ PairA C nt (l[r]?) (tr[r]?) (tr[m]?) (decide (r < m)) ∧ pairsA C nt l tr ps := by
  show ((∃ o a b, l[r]? = some o ∧ tr[r]? = some a ∧ tr[m]? = some b ∧ StillA C nt o a.env a.v (if r < m then b.H' else b.H)) ∧ _) ↔ _
  refine and_congr_left fun _ => ?_
  constructor
  · rintro ⟨o, a, b, h1, h2, h3, h4⟩
    rw [h1, h2, h3]
    by_cases hlt : r < m <;> simpa [PairA, hlt] using h4
  · intro h
    cases h1 : l[r]? with
    | none => rw [h1] at h; exact h.elim
    | some o => cases h2 : tr[r]? with
      | none => rw [h1, h2] at h; exact h.elim
      | some a => cases h3 : tr[m]? with
        | none => rw [h1, h2, h3] at h; exact h.elim
        | some b =>
          refine ⟨o, a, b, rfl, rfl, rfl, ?_⟩
          rw [h1, h2, h3] at h
          by_cases hlt : r < m <;> simpa [PairA, hlt] using h
attribute [simp ↓] pairsA_cons
@[simp] theorem PairA_true (o : AO) (a b : Rec) : PairA C nt (some o) (some a) (some b) true = StillA C nt o a.env a.v b.H' := (rfl)
@[simp] theorem PairA_false (o : AO) (a b : Rec) : PairA C nt (some o) (some a) (some b) false = StillA C nt o a.env a.v b.H := (rfl)
@[simp ↓] theorem still_load (d : Option Tmp) (t : TypeId) (x : Operand) (ty : TypeId) (gd : Option (Tmp × Bool)) (env : Env) (v : Value) (H2 : AH) : StillA C nt ⟨d, .load t x, ty, gd⟩ env v H2 ↔ (yieldedA env nt gd = true → aLoad C.P t (aeval env x) H2 = some v) := by
  show (_ → (((aLoad C.P t (aeval env x) H2).map fun v => (v, H2)).map (·.1)) = some v) ↔ _
  cases aLoad C.P t (aeval env x) H2 <;> simp
@[simp ↓] theorem still_lookup (d : Option Tmp) (t : TypeId) (x i : Operand) (ok : Bool) (ty : TypeId) (gd : Option (Tmp × Bool)) (env : Env) (v : Value) (H2 : AH) : StillA C nt ⟨d, .lookup t x i ok, ty, gd⟩ env v H2 ↔ (yieldedA env nt gd = true → aLookup C.P t (aeval env x) (aeval env i) ok H2 = some v) := by
  show (_ → (((aLookup C.P t (aeval env x) (aeval env i) ok H2).map fun v => (v, H2)).map (·.1)) = some v) ↔ _
  cases aLookup C.P t (aeval env x) (aeval env i) ok H2 <;> simp
@[simp ↓] theorem still_slice (d : Option Tmp) (t : TypeId) (x : Operand) (lo hi : Option Operand) (ty : TypeId) (gd : Option (Tmp × Bool)) (env : Env) (v : Value) (H2 : AH) : StillA C nt ⟨d, .slice t x lo hi none, ty, gd⟩ env v H2 ↔ (yieldedA env nt gd = true → aSlice C.P t (aeval env x) (lo.map (aeval env)) (hi.map (aeval env)) H2 = some v) := by
  show (_ → (((aSlice C.P t (aeval env x) (lo.map (aeval env)) (hi.map (aeval env)) H2).map fun v => (v, H2)).map (·.1)) = some v) ↔ _
  cases aSlice C.P t (aeval env x) (lo.map (aeval env)) (hi.map (aeval env)) H2 <;> simp
end

/-! ### 4. Calls by what they bring -/
def CallR (C : Cx) (f : FuncId) (args : Array Value) (H : AH) (R : Value → AH → Prop) : Prop := ∃ v H', Run C (.call f args H v H') ∧ R v H'
theorem CallR.mono {C : Cx} {f : FuncId} {args : Array Value} {H : AH} {R R' : Value → AH → Prop} (h : CallR C f args H R) (hr : ∀ v H', R v H' → R' v H') : CallR C f args H R' := let ⟨v, H', a, b⟩ := h; ⟨v, H', a, hr _ _ b⟩
theorem callEx {C : Cx} {f : FuncId} {fn : Func} {c : Code} {x : AC} {args : Array Value} {H : AH} {R : Value → AH → Prop} (nt : Nat) (hf : C.P.funcs[f]? = some fn) (hb : fn.body = some c) (hx : compile c = some x) (hnt : args.size + (fn.ntmps - args.size) = nt)
    (h : aw C nt none x (fun e s => (e = .normal ∨ e = .ret) ∧ ∃ H', takeMarks s.ds s.H = some H' ∧ ∃ v, (aResults C.P fn.results.toList s.env H').map tupleOf = some v ∧ R v H') ⟨envOf args, H, []⟩) : CallR C f args H R := by
  subst hnt
  obtain ⟨e, s', h1, h2, H', h3, v, h4, h5⟩ := aw_run c x hx _ _ h
  obtain ⟨vs, h6, rfl⟩ := map_some h4
  exact ⟨_, _, .body hf hb h1 h2 h3 h6, h5⟩
theorem callV_R {C : Cx} {f : FuncId} {xs : Array Value} {H : AH} {R K : Value → AH → Prop} (hf : callable C.P f = true) (h : CallR C f xs H R) (hK : ∀ v H', R v H' → K v H') : CallV C (.func (.func f) #[] #[]) xs H K :=
  let ⟨_, _, a, b⟩ := h; callV_plain hf a (hK _ _ b)
theorem callV_RF {C : Cx} {f : FuncId} {fs cs xs : Array Value} {H : AH} {R K : Value → AH → Prop} (hf : callable C.P f = true) (h : CallR C f (fs ++ xs ++ cs) H R) (hK : ∀ v H', R v H' → K v H') : CallV C (.func (.func f) fs cs) xs H K :=
  let ⟨_, _, a, b⟩ := h; callV_func hf a (hK _ _ b)

/-! ### 5. Rows that grow by one -/
theorem cells_isCell {v : Value} (h : isCell v = true) : v.cells = #[v] := by cases v <;> first | rfl | (simp [isCell] at h)
theorem aBuildSlice1 {P : Program} {t e : TypeId} {zs : List Value} (h : P.underlying t = some (.slice e)) (hs : sz P e = some 1) (hz : zeroOf P e = some zs) (v : Value) (hv : isCell v = true) (H : AH) :
    aBuildSlice P t 1 [(0, v)] H = some (.slice (some ⟨H.next, 0, none⟩) 1 1, ⟨H.next + 1, upd H.get H.next (.cells [v] e true 1)⟩) := by
  have hl : rowZeros zs 1 = [zs[0 % zs.length]?.getD default] := rfl
  simp [aBuildSlice, h, hs, hz, afill, cells_isCell hv, hl, setAll, AH.new]
theorem aAppend1 {P : Program} {st xt e : TypeId} {i : TypeInfo} (h : P.underlying st = some (.slice e)) (hi : P.info? e = some i) (h1 : i.size = 1) (hb : i.bytes ≤ 16) (hx : notIntT P xt = true) (hz : zok i = true) (l0 o0 n c l o c' : Nat) (hn : n < 1099511627776) (H : AH) :
    aAppend P st xt (.slice (some ⟨l0, o0, none⟩) n c) (.slice (some ⟨l, o, none⟩) 1 c') H = (H.row l o 1).bind fun vs => match H.get l0 with
      | some (.cells cs T true z) => if z = 1 ∧ o0 + n ≤ cs.length ∧ vs.length = 1 ∧ vs.all isCell = true then some (.slice (some ⟨H.next, 0, none⟩) (n + 1) (n + 1), ⟨H.next + 1, upd (YtikkokolmipppaaA.del H.get l0) H.next (.cells ((cs.drop o0).take n ++ vs) e true 1)⟩) else none
      | _ => none := by
  have ha : appendOk n 1 i.bytes = true := by
    simp only [appendOk, Bool.and_eq_true, decide_eq_true_eq]
    refine ⟨by omega, ?_⟩
    calc (2 * (n + 1) + 1024) * i.bytes ≤ (2 * (n + 1) + 1024) * 16 := Nat.mul_le_mul_left _ hb
      _ ≤ _ := by omega
  simp only [aAppend, h, hi, hx, hz, h1, srcCells, ha]
  cases hr : H.row l o 1 with
  | none => simp [hr]
  | some vs =>
    simp [hr]
    cases H.get l0 with
    | none => rfl
    | some b => cases b with
      | cells cs T own z => cases own <;> simp [ha]
      | _ => rfl
theorem aAppend1_nil {P : Program} {st xt e : TypeId} {i : TypeInfo} (h : P.underlying st = some (.slice e)) (hi : P.info? e = some i) (h1 : i.size = 1) (hb : i.bytes ≤ 16) (hx : notIntT P xt = true) (hz : zok i = true) (n c l o c' : Nat) (H : AH) :
    aAppend P st xt (.slice none n c) (.slice (some ⟨l, o, none⟩) 1 c') H = (H.row l o 1).bind fun vs => if vs.length = 1 then some (.slice (some ⟨H.next, 0, none⟩) 1 1, ⟨H.next + 1, upd H.get H.next (.cells vs e true 1)⟩) else none := by
  have ha : appendOk 0 1 i.bytes = true := by
    simp only [appendOk, Bool.and_eq_true, decide_eq_true_eq]
    refine ⟨by omega, ?_⟩
    calc (2 * (0 + 1) + 1024) * i.bytes ≤ (2 * (0 + 1) + 1024) * 16 := Nat.mul_le_mul_left _ hb
      _ ≤ _ := by omega
  simp only [aAppend, h, hi, hx, hz, h1, srcCells, ha]
  cases hr : H.row l o 1 with
  | none => simp [hr]
  | some vs => simp [hr, AH.new, ha]
theorem aAppend0 {P : Program} {st xt e : TypeId} {i : TypeInfo} (h : P.underlying st = some (.slice e)) (hi : P.info? e = some i) (hx : notIntT P xt = true) (hz : zok i = true) (a : Option Addr) (n c : Nat) (ha : ∀ x, a = some x → ∃ l o, x = ⟨l, o, none⟩) (b : Option Addr) (m c' : Nat) (hm : b = none ∨ (∃ l o, b = some ⟨l, o, none⟩) ∧ m = 0) (H : AH) :
    aAppend P st xt (.slice a n c) (.slice b m c') H = some (.slice a n c, H) := by
  have hs : srcCells i.size (.slice b m c') H = some (0, []) := by
    rcases hm with rfl | ⟨⟨l, o, rfl⟩, rfl⟩ <;> simp [srcCells]
  simp only [aAppend, h, hi, hx, hz, hs]
  cases a with
  | none => simp
  | some x => obtain ⟨l, o, rfl⟩ := ha x rfl; simp

/-! ### 6. Words -/
abbrev ptr (l : Nat) : Value := .pointer (some ⟨l, 0, none⟩)
abbrev sl (l o n : Nat) : Value := .slice (some ⟨l, o, none⟩) n n
abbrev i64 (n : Int) : Value := .int .i64 n
abbrev box (H : AH) (l : Nat) (T : TypeId) (v : Value) : Prop := H.get l = some (.cells [v] T true 0)
/-- all but some places is as it was -/
def Keep (S : Nat → Prop) (H H' : AH) : Prop := H.next ≤ H'.next ∧ ∀ l, l < H.next → ¬ S l → H'.get l = H.get l
theorem Keep.refl {S : Nat → Prop} {H : AH} : Keep S H H := ⟨Nat.le_refl _, fun _ _ _ => rfl⟩
theorem Keep.trans {S : Nat → Prop} {H1 H2 H3 : AH} (h : Keep S H1 H2) (h' : Keep S H2 H3) : Keep S H1 H3 := ⟨Nat.le_trans h.1 h'.1, fun l hl hs => (h'.2 l (Nat.lt_of_lt_of_le hl h.1) hs).trans (h.2 l hl hs)⟩
theorem Keep.mono {S S' : Nat → Prop} {H H' : AH} (h : Keep S H H') (hs : ∀ l, l < H.next → S l → S' l) : Keep S' H H' := ⟨h.1, fun l hl hn => h.2 l hl fun h' => hn (hs l hl h')⟩
@[simp] theorem upd_get (g : Nat → Option ABlk) (l x : Nat) (b : ABlk) : upd g l b x = if x = l then some b else g x := (rfl)
@[simp] theorem del_get (g : Nat → Option ABlk) (l x : Nat) : YtikkokolmipppaaA.del g l x = if x = l then none else g x := (rfl)
@[simp] theorem new_get (H : AH) (b : ABlk) : (H.new b).get = upd H.get H.next b := (rfl)
@[simp] theorem new_next (H : AH) (b : ABlk) : (H.new b).next = H.next + 1 := (rfl)
attribute [simp] AH.rd AH.wrs AH.row aBox aBuild afill setAll
@[simp] theorem cells_int (k : IntKind) (n : Int) : (Value.int k n).cells = #[.int k n] := (rfl)
@[simp] theorem cells_bool (b : Bool) : (Value.bool b).cells = #[.bool b] := (rfl)
@[simp] theorem cells_string (s : ByteArray) : (Value.string s).cells = #[.string s] := (rfl)
@[simp] theorem cells_pointer (a : Option Addr) : (Value.pointer a).cells = #[.pointer a] := (rfl)
@[simp] theorem cells_slice (a : Option Addr) (n c : Nat) : (Value.slice a n c).cells = #[.slice a n c] := (rfl)
@[simp] theorem cells_func (f : Fn) (a c : Array Value) : (Value.func f a c).cells = #[.func f a c] := (rfl)
@[simp] theorem cells_nilFunc : Value.nilFunc.cells = #[.nilFunc] := (rfl)
@[simp] theorem cells_agg (cs : Array Value) : (Value.agg cs).cells = cs := (rfl)
end Go.Proofs.YtikkokolmipppaaA

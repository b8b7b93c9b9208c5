/-
  A SMALL HEAP FOR A LARGE ONE (part 14: rows in the heap, and what goes through things). Own text of this session.
-/
import Derived.Test.YtikkokolmipppaaA13
set_option linter.unusedVariables false
set_option linter.unusedSimpArgs false
namespace Go.Proofs.YtikkokolmipppaaA
open Go Go.RowKit

@[simp] theorem aUn_not (P : Program) (b : Bool) : aUn P .not (.bool b) = some (.bool (!b)) := (rfl)
@[simp] theorem aResults_cell (P : Program) (a : Tmp) (t : TypeId) (rs : List ResultVar) (env : Env) (H : AH) : aResults P (.cell a t :: rs) env H = (aLoad P t (env a) H).bind fun v => (aResults P rs env H).map (v :: ·) := by
  unfold aResults
  rw [List.mapM_cons]
  show (do let v ← aLoad P t (env a) H; let vs ← rs.mapM (aResult P env H); pure (v :: vs)) = _
  cases aLoad P t (env a) H with
  | none => rfl
  | some v => cases rs.mapM (aResult P env H) <;> rfl
theorem aNil_bool (P : Program) (t : TypeId) (op : BinOp) (a b : Bool) : aNil P op t (.bool a) (.bool b) = none := by
  unfold aNil
  split <;> (try split) <;> rfl
theorem val_bind' {α β : Type} (P : Program) (m : Sem α) (f : α → Sem β) (a : α) (h : Sem.val P m = some a) : Sem.val P (m >>= f) = Sem.val P (f a) := by
  induction m with
  | pure x => cases h; rfl
  | program k ih => exact ih P h
  | _ => cases h
theorem val_equalIn_bool {P : Program} {t : TypeId} (h : P.underlying t = some .bool) (d : Nat) (a b : Bool) : Sem.val P (Op.equalIn (d + 1) t (.bool a) (.bool b)) = some (a == b) := by
  unfold Op.equalIn
  have hu : Sem.val P (underlying t) = some .bool := by simp [underlying, program, Sem.val, Bind.bind, Sem.bind, h, Pure.pure]
  rw [val_bind' P _ _ _ hu]
  rfl
theorem val_eql {t : TypeId} {a b : Bool} : binOp .eql t (.bool a) (.bool b) = (Op.equalIn (9999 + 1) t (.bool a) (.bool b) >>= fun r => pure (Value.bool r)) := rfl
theorem val_neq {t : TypeId} {a b : Bool} : binOp .neq t (.bool a) (.bool b) = (Op.equalIn (9999 + 1) t (.bool a) (.bool b) >>= fun r => pure (Value.bool !r)) := rfl
theorem aBin_beq {P : Program} {t : TypeId} (h : P.underlying t = some .bool) (ox oy : Operand) (a b : Bool) : aBin P .eql t ox oy (.bool a) (.bool b) = some (.bool (a == b)) := by
  rw [aBin_data t ox oy .eql (aNil_bool P t .eql a b) rfl rfl, eqGuard_at_bool]
  show Sem.val P (binOp .eql t (.bool a) (.bool b)) = _
  rw [val_eql, val_bind' P _ _ _ (val_equalIn_bool h 9999 a b)]
  rfl
theorem aBin_bne {P : Program} {t : TypeId} (h : P.underlying t = some .bool) (ox oy : Operand) (a b : Bool) : aBin P .neq t ox oy (.bool a) (.bool b) = some (.bool (!(a == b))) := by
  rw [aBin_data t ox oy .neq (aNil_bool P t .neq a b) rfl rfl, eqGuard_at_bool]
  show Sem.val P (binOp .neq t (.bool a) (.bool b)) = _
  rw [val_neq, val_bind' P _ _ _ (val_equalIn_bool h 9999 a b)]
  rfl
/-- all that was there is as it was -/
def Fresh (H H' : AH) : Prop := Keep (fun _ => False) H H'
theorem Fresh.refl {H : AH} : Fresh H H := Keep.refl
theorem Fresh.trans {H1 H2 H3 : AH} (h : Fresh H1 H2) (h' : Fresh H2 H3) : Fresh H1 H3 := Keep.trans h h'
theorem Fresh.get {H H' : AH} (h : Fresh H H') {l : Nat} (hl : l < H.next) : H'.get l = H.get l := h.2 l hl id
theorem Fresh.keep {H H' : AH} {S : Nat → Prop} (h : Fresh H H') : Keep S H H' := h.mono fun _ _ h => h.elim
theorem Fresh.ofNew {H : AH} {b : ABlk} : Fresh H ⟨H.next + 1, upd H.get H.next b⟩ := ⟨Nat.le_succ _, fun l hl _ => by simp; omega⟩
theorem Keep.get {H H' : AH} {S : Nat → Prop} (h : Keep S H H') {l : Nat} (hl : l < H.next) (hn : ¬ S l) : H'.get l = H.get l := h.2 l hl hn

/-- a row of things: where it is, and what it has -/
def Row (T : TypeId) (own : Bool) (H : AH) (sv : Value) (vs : List Value) : Option Nat → Prop
  | none => (∃ a, sv = .slice a 0 0 ∧ (a = none ∨ own = false ∧ ∃ l o, a = some ⟨l, o, none⟩)) ∧ vs = []
  | some l => ∃ o cs, sv = sl l o vs.length ∧ H.get l = some (.cells cs T own 1) ∧ (cs.drop o).take vs.length = vs ∧ o + vs.length ≤ cs.length ∧ l < H.next
theorem Row.keep {T : TypeId} {own : Bool} {H H' : AH} {sv : Value} {vs : List Value} {O : Option Nat} {S : Nat → Prop} (h : Row T own H sv vs O) (hk : Keep S H H') (hs : ∀ l, O = some l → ¬ S l) : Row T own H' sv vs O := by
  cases O with
  | none => exact h
  | some l =>
    obtain ⟨o, cs, h1, h2, h3, h4, h5⟩ := h
    exact ⟨o, cs, h1, by rw [hk.get h5 (hs l rfl), h2], h3, h4, Nat.lt_of_lt_of_le h5 hk.1⟩
theorem Row.same {T : TypeId} {own : Bool} {H H' : AH} {sv : Value} {vs : List Value} {O : Option Nat} (h : Row T own H sv vs O) (hk : ∀ l, O = some l → H'.get l = H.get l) (hn : H.next ≤ H'.next) : Row T own H' sv vs O := by
  cases O with
  | none => exact h
  | some l =>
    obtain ⟨o, cs, h1, h2, h3, h4, h5⟩ := h
    exact ⟨o, cs, h1, by rw [hk l rfl, h2], h3, h4, Nat.lt_of_lt_of_le h5 hn⟩
theorem Row.isSlice {T : TypeId} {own : Bool} {H : AH} {sv : Value} {vs : List Value} {O : Option Nat} (h : Row T own H sv vs O) : ∃ a, sv = .slice a vs.length vs.length ∧ (∀ x, a = some x → ∃ l o, x = ⟨l, o, none⟩) := by
  cases O with
  | none =>
    obtain ⟨⟨a, rfl, ha⟩, rfl⟩ := h
    refine ⟨a, rfl, fun x hx => ?_⟩
    rcases ha with rfl | ⟨_, l, o, rfl⟩
    · cases hx
    · cases hx; exact ⟨l, o, rfl⟩
  | some l => obtain ⟨o, cs, rfl, _⟩ := h; exact ⟨_, rfl, fun x h => by cases h; exact ⟨_, _, rfl⟩⟩
theorem Row.nil {T : TypeId} {own : Bool} {H : AH} : Row T own H (.slice none 0 0) [] none := ⟨⟨none, rfl, .inl rfl⟩, rfl⟩
theorem Row.own_nil {T : TypeId} {H : AH} {sv : Value} {vs : List Value} (h : Row T true H sv vs none) : sv = .slice none 0 0 ∧ vs = [] := by
  obtain ⟨⟨a, rfl, ha⟩, rfl⟩ := h
  rcases ha with rfl | ⟨h, _⟩
  · exact ⟨rfl, rfl⟩
  · cases h
theorem Row.low {T : TypeId} {own : Bool} {H : AH} {sv : Value} {vs : List Value} {l : Nat} (h : Row T own H sv vs (some l)) : l < H.next := by obtain ⟨o, cs, h1, h2, h3, h4, h5⟩ := h; exact h5
theorem row_at {cs vs : List Value} {o : Nat} (h : (cs.drop o).take vs.length = vs) {i : Nat} (hi : i < vs.length) : cs[o + i]? = vs[i]? := by
  rw [← List.getElem?_drop, ← List.getElem?_take_of_lt hi, h]
theorem Row.cell {T : TypeId} {own : Bool} {H : AH} {a : Option Addr} {n c : Nat} {vs : List Value} {O : Option Nat} (h : Row T own H (.slice a n c) vs O) {i : Nat} {x : Value} (hx : vs[i]? = some x) : ∃ l o cs, a = some ⟨l, o, none⟩ ∧ H.get l = some (.cells cs T own 1) ∧ cs[o + i]? = some x ∧ O = some l := by
  have hi : i < vs.length := by
    rcases Nat.lt_or_ge i vs.length with h | h
    · exact h
    · rw [List.getElem?_eq_none h] at hx; cases hx
  cases O with
  | none => rw [h.2] at hi; simp at hi
  | some l =>
    obtain ⟨o, cs, h1, h2, h3, h4, h5⟩ := h
    cases h1
    exact ⟨l, o, cs, rfl, h2, by rw [row_at h3 hi, hx], rfl⟩
/-- a type of rows whose things take one cell each -/
structure El (P : Program) (t e : TypeId) : Prop where
  sl : P.underlying t = some (.slice e)
  nt : notIntT P t = true
  i : ∃ i, P.info? e = some i ∧ i.size = 1 ∧ i.bytes ≤ 16 ∧ zok i = true
/-- one more thing in a row -/
theorem row_append {P : Program} {t e : TypeId} (he : El P t e) {H : AH} {sv v : Value} {vs : List Value} {O : Option Nat} (h : Row e true H sv vs O) (hl : vs.length < 1099511627776) (hv : isCell v = true) :
    ∃ H2, aAppend P t t sv (.slice (some ⟨H.next, 0, none⟩) 1 1) ⟨H.next + 1, upd H.get H.next (.cells [v] e true 1)⟩ = some (YtikkokolmipppaaA.sl (H.next + 1) 0 (vs.length + 1), H2) ∧ H2.next = H.next + 2 ∧
      H2.get (H.next + 1) = some (.cells (vs ++ [v]) e true 1) ∧ Row e true H2 (YtikkokolmipppaaA.sl (H.next + 1) 0 (vs.length + 1)) (vs ++ [v]) (some (H.next + 1)) ∧ ∀ l, l < H.next → O ≠ some l → H2.get l = H.get l := by
  obtain ⟨i, hi, h1, hb, hz⟩ := he.i
  cases O with
  | none =>
    obtain ⟨rfl, rfl⟩ := h.own_nil
    rw [aAppend1_nil he.sl hi h1 hb he.nt hz]
    simp
    refine ⟨?_, ?_⟩
    · exact ⟨0, [v], rfl, by simp, rfl, by simp, by simp⟩
    · intro l hl; simp [show ¬ l = H.next + 1 by omega, show ¬ l = H.next by omega]
  | some l0 =>
    obtain ⟨o, cs, rfl, h2, h3, h4, h5⟩ := h
    rw [aAppend1 he.sl hi h1 hb he.nt hz _ _ _ _ _ _ _ hl]
    have : ¬ l0 = H.next := by omega
    simp [this, h2, h4, hv, h3]
    refine ⟨?_, ?_⟩
    · exact ⟨0, vs ++ [v], by simp, by simp, by simp [List.take_of_length_le], by simp, by simp⟩
    · intro l hl hn
      have : ¬ l = l0 := fun e => hn e.symm
      simp [this, show ¬ l = H.next + 1 by omega, show ¬ l = H.next by omega]

/-- a row behind a row -/
theorem row_append_row {P : Program} {t e : TypeId} (he : El P t e) {H : AH} {sv sx : Value} {vs xs : List Value} {O Ox : Option Nat} {w : Bool} (h : Row e true H sv vs O) (hx : Row e w H sx xs Ox) (hl : vs.length + xs.length < 1099511627776) (hc : ∀ x ∈ xs, isCell x = true) :
    ∃ sr H2 O2, aAppend P t t sv sx H = some (sr, H2) ∧ Row e true H2 sr (vs ++ xs) O2 ∧ ((O2 = O ∧ H2 = H) ∨ (O2 = some H.next ∧ H2.next = H.next + 1)) ∧ ∀ l, l < H.next → O ≠ some l → H2.get l = H.get l := by
  obtain ⟨i, hi, h1, hb, hz⟩ := he.i
  by_cases h0 : xs = []
  · subst h0
    have hsc : srcCells i.size sx H = some (0, []) := by
      obtain ⟨a, rfl, ha⟩ := hx.isSlice
      cases a with
      | none => rfl
      | some x => obtain ⟨l, o, rfl⟩ := ha x rfl; simp [srcCells]
    refine ⟨sv, H, O, ?_, by simpa using h, .inl ⟨rfl, rfl⟩, fun _ _ _ => rfl⟩
    cases O with
    | none => obtain ⟨rfl, rfl⟩ := h.own_nil; simp [aAppend, he.sl, hi, he.nt, hz, hsc]
    | some l => obtain ⟨o, cs, rfl, _⟩ := h; simp [aAppend, he.sl, hi, he.nt, hz, hsc]
  · have hxl : 0 < xs.length := List.length_pos_iff.2 h0
    have hsc : srcCells i.size sx H = some (xs.length, xs) := by
      cases Ox with
      | none => exact absurd hx.2 h0
      | some lx =>
        obtain ⟨o, cs, rfl, h2, h3, h4, h5⟩ := hx
        have : ¬ xs.length = 0 := by omega
        simp [srcCells, this, h1, h2, h4, h3]
    have happ : ∀ n, n ≤ vs.length → appendOk n xs.length i.bytes = true := by
      intro n hn
      simp only [appendOk, Bool.and_eq_true, decide_eq_true_eq]
      refine ⟨by omega, ?_⟩
      calc (2 * (n + xs.length) + 1024) * i.bytes ≤ (2 * (n + xs.length) + 1024) * 16 := Nat.mul_le_mul_left _ hb
        _ ≤ _ := by omega
    have hne : ¬ xs.length = 0 := by omega
    rw [h1] at hsc
    cases O with
    | none =>
      obtain ⟨rfl, rfl⟩ := h.own_nil
      refine ⟨YtikkokolmipppaaA.sl H.next 0 xs.length, H.new (.cells xs e true i.size), some H.next, ?_, ?_, .inr ⟨rfl, rfl⟩, ?_⟩
      · simp [aAppend, he.sl, hi, he.nt, hz, hsc, hne, happ 0 (by simp), h1, h0]
      · exact ⟨0, xs, rfl, by simp [h1], by simp, by simp, by simp⟩
      · intro l hl _; simp [show ¬ l = H.next by omega]
    | some l0 =>
      obtain ⟨o, cs, rfl, h2, h3, h4, h5⟩ := h
      refine ⟨YtikkokolmipppaaA.sl H.next 0 (vs.length + xs.length), ⟨H.next + 1, upd (YtikkokolmipppaaA.del H.get l0) H.next (.cells ((cs.drop o).take (vs.length * i.size) ++ xs) e true i.size)⟩, some H.next, ?_, ?_, .inr ⟨rfl, rfl⟩, ?_⟩
      · simp [aAppend, he.sl, hi, he.nt, hz, hsc, h0, happ _ (Nat.le_refl _), h1, h2, h4]
        exact hc
      · refine ⟨0, vs ++ xs, by simp, by simp [h1, h3], by simp [List.take_of_length_le], by simp, by simp⟩
      · intro l hl hn
        have : ¬ l = l0 := fun e => hn (by rw [e])
        simp [this, show ¬ l = H.next by omega]
theorem aConv_int {P : Program} {s d : TypeId} {k k' : IntKind} (hs : P.underlying s = some (.int k)) (hd : P.underlying d = some (.int k')) (n : Int) (H : AH) : aConv P s d (.int k n) H = some (.int k' (k'.wrap n)) := by
  have h1 : aConvert P s d (.int k n) H = none := by simp [aConvert, hs, hd]
  simp only [aConv, h1, plain, plain1]
  simp [Sem.val, convert, hs, hd, underlying, Bind.bind, Sem.bind, Conv.intToInt, Pure.pure, program]
/-- a part of a row -/
theorem row_part {P : Program} {t e : TypeId} (he : El P t e) {H : AH} {sv : Value} {vs : List Value} {O : Option Nat} {own : Bool} (h : Row e own H sv vs O) {lo hi : Option Value} {a b : Nat} (hb : bnd hi vs.length vs.length = some b) (ha : bnd lo 0 b = some a) (hab : a ≤ b) (hbl : b ≤ vs.length) :
    ∃ sv', aSlice P t sv lo hi H = some sv' ∧ Row e own H sv' ((vs.take b).drop a) O := by
  obtain ⟨i, hi', h1, _, _⟩ := he.i
  have hs : sz P e = some 1 := by simp [sz, hi', h1]
  cases O with
  | none =>
    obtain ⟨⟨x, rfl, hx⟩, rfl⟩ := h
    obtain rfl : b = 0 := by simpa using hbl
    obtain rfl : a = 0 := by omega
    rcases hx with rfl | ⟨ho, l, o, rfl⟩
    · exact ⟨.slice none 0 0, by simp at hb; simp [aSlice, he.sl, hb, ha, hs], ⟨none, rfl, .inl rfl⟩, by simp⟩
    · exact ⟨.slice (some ⟨l, o, none⟩) 0 0, by simp at hb; simp [aSlice, he.sl, hb, ha, hs], ⟨_, rfl, .inr ⟨ho, l, o, rfl⟩⟩, by simp⟩
  | some l =>
    obtain ⟨o, cs, rfl, h2, h3, h4, h5⟩ := h
    have hlen : ((vs.take b).drop a).length = b - a := by simp; omega
    by_cases h0 : vs.length = 0
    · have hb0 : b = 0 := by omega
      have ha0 : a = 0 := by omega
      subst hb0 ha0
      rw [h0] at hb
      exact ⟨YtikkokolmipppaaA.sl l o 0, by simp [aSlice, he.sl, hb, ha, hs, h0], o, cs, by simp, h2, by simp, by simp; omega, h5⟩
    refine ⟨YtikkokolmipppaaA.sl l (o + a) (b - a), by simp [aSlice, he.sl, hb, ha, hs, h2, h0], o + a, cs, by rw [hlen], h2, ?_, by rw [hlen]; omega, h5⟩
    rw [hlen, ← List.drop_drop, ← h3]
    rw [List.take_take, Nat.min_eq_left hbl, List.drop_take]
/-- on with what a loop's block says -/
def withLoop (b : Option ABlk) (K : Env → Nat → Array Tmp → Code → Code → LoopState → Option Code → Nat → Prop) (_ : Lock K := .mk) : Prop := match b with
  | some (.loop e n p a b s pd dl) => K e n p a b s pd dl
  | _ => False
@[simp] theorem withLoop_some (e : Env) (n : Nat) (p : Array Tmp) (a b : Code) (s : LoopState) (pd : Option Code) (dl : Nat) (K : Env → Nat → Array Tmp → Code → Code → LoopState → Option Code → Nat → Prop) : withLoop (some (.loop e n p a b s pd dl)) K = K e n p a b s pd dl := (rfl)
theorem withLoop_inv {b : Option ABlk} {K : Env → Nat → Array Tmp → Code → Code → LoopState → Option Code → Nat → Prop} (h : withLoop b K) : ∃ e n p a c s pd dl, b = some (.loop e n p a c s pd dl) ∧ K e n p a c s pd dl := by
  unfold withLoop at h
  split at h
  · exact ⟨_, _, _, _, _, _, _, _, rfl, h⟩
  · exact h.elim
theorem yield_go {C : Cx} {l : Nat} {xs : Array Value} {H : AH} {env0 : Env} {nt0 : Nat} {ps : Array Tmp} {as bd : Code} {st0 : LoopState} {pd0 : Option Code} {dl0 : Nat} {asc bdc : AC} {K : Value → AH → Prop}
    (hl : H.get l = some (.loop env0 nt0 ps as bd st0 pd0 dl0)) (hs : xs.size = ps.size) (hca : codeOk C.G as = true) (hcb : codeOk C.G bd = true) (ha : compile as = some asc) (hb : compile bd = some bdc)
    (h : aw C nt0 (some l) asc (fun e s1 => e = .normal ∧ withLoop (s1.H.get l) fun env1 nt1 ps1 as1 bd1 st1 pd1 dl1 => st1 = .ready ∧
      aw C nt0 (some l) bdc (fun e s2 => withLoop (s2.H.get l) fun env2 nt2 ps2 as2 bd2 st2 pd2 dl2 =>
        K (.bool e.isNormal) ⟨s2.H.next, upd s2.H.get l (.loop env2 nt2 ps2 as2 bd2 (if e.isNormal = true then .ready else .done) e.jump dl2)⟩)
        ⟨s1.env, ⟨s1.H.next, upd s1.H.get l (.loop env1 nt1 ps1 as1 bd1 .busy pd1 dl1)⟩, s1.ds⟩) ⟨bindAll nt0 ps.toList xs.toList env0, H, []⟩) :
    CallV C (.func (.yield l) #[] #[]) xs H K := by
  refine callG_yield hl hs hca hcb ha hb (aw_mono asc ?_ h)
  rintro e s1 ⟨rfl, h1⟩
  obtain ⟨env1, nt1, ps1, as1, bd1, st1, pd1, dl1, h2, rfl, h3⟩ := withLoop_inv h1
  refine ⟨rfl, _, _, _, _, _, _, _, h2, aw_mono bdc ?_ h3⟩
  intro e s2 h4
  obtain ⟨env2, nt2, ps2, as2, bd2, st2, pd2, dl2, h5, h6⟩ := withLoop_inv h4
  exact ⟨_, _, _, _, _, _, _, _, h5, h6⟩
theorem range_go {C : Cx} {nt : Nat} {g : Operand} {ps : Array Tmp} {as bd : Code} {s : St} {Q : Ex → St → Prop} {f : FuncId} {fs cs : Array Value} (hg : aeval s.env g = .func (.func f) fs cs) (hf : callable C.P f = true) {R : Value → AH → Prop}
    (h : CallR C f (fs ++ #[.func (.yield (s.H.next + 1)) #[] #[]] ++ cs) ⟨s.H.next + 2, upd (upd s.H.get s.H.next .mark) (s.H.next + 1) (.loop s.env nt ps as bd .ready none s.H.next)⟩ R)
    (hR : ∀ v H3, R v H3 → withLoop (H3.get (s.H.next + 1)) fun env2 nt2 ps2 as2 bd2 st2 pd2 dl2 => st2 ≠ .busy ∧ ∃ e : Ex, e.jump = pd2 ∧ Q e ⟨s.env, ⟨H3.next, YtikkokolmipppaaA.del H3.get (s.H.next + 1)⟩, s.H.next :: s.ds⟩) : aw C nt none (.range g ps as bd) Q s := by
  obtain ⟨v, H3, h1, h2⟩ := h
  obtain ⟨env2, nt2, ps2, as2, bd2, st2, pd2, dl2, h3, h4, e, rfl, h5⟩ := withLoop_inv (hR v H3 h2)
  exact aw_range hg hf ⟨v, H3, h1, env2, nt2, ps2, as2, bd2, st2, dl2, e, h3, h4, h5⟩
theorem range_in {C : Cx} {nt : Nat} {l0 : Nat} {g : Operand} {ps : Array Tmp} {as bd : Code} {s : St} {Q : Ex → St → Prop} {f : FuncId} {fs cs : Array Value} {env0 : Env} {nt0 : Nat} {ps0 : Array Tmp} {as0 bd0 : Code} {st0 : LoopState} {pd0 : Option Code} {dl0 : Nat}
    (hl0 : s.H.get l0 = some (.loop env0 nt0 ps0 as0 bd0 st0 pd0 dl0)) (hg : aeval s.env g = .func (.func f) fs cs) (hf : callable C.P f = true) {R : Value → AH → Prop}
    (h : CallR C f (fs ++ #[.func (.yield s.H.next) #[] #[]] ++ cs) ⟨s.H.next + 1, upd s.H.get s.H.next (.loop s.env nt ps as bd .ready none dl0)⟩ R)
    (hR : ∀ v H3, R v H3 → withLoop (H3.get s.H.next) fun env2 nt2 ps2 as2 bd2 st2 pd2 dl2 => st2 ≠ .busy ∧ ∃ e : Ex, e.jump = pd2 ∧ Q e ⟨s.env, ⟨H3.next, YtikkokolmipppaaA.del H3.get s.H.next⟩, s.ds⟩) : aw C nt (some l0) (.range g ps as bd) Q s := by
  obtain ⟨v, H3, h1, h2⟩ := h
  obtain ⟨env2, nt2, ps2, as2, bd2, st2, pd2, dl2, h3, h4, e, rfl, h5⟩ := withLoop_inv (hR v H3 h2)
  exact aw_rangeIn hl0 hg hf ⟨v, H3, h1, env2, nt2, ps2, as2, bd2, st2, dl2, e, h3, h4, h5⟩

/-- who is told things: what it keeps, and what it is when it goes on or does not -/
structure Client (C : Cx) (g : Value) (xs : Nat → Array Value) (n : Nat) (I : Nat → AH → (Nat → Prop) → Prop) (K : AH → (Nat → Prop) → Prop) : Prop where
  stable : ∀ {k H H' O}, I k H O → (∀ l, O l → H'.get l = H.get l) → H.next ≤ H'.next → I k H' O
  stableK : ∀ {H H' O}, K H O → (∀ l, O l → H'.get l = H.get l) → H.next ≤ H'.next → K H' O
  low : ∀ {k H O}, I k H O → ∀ l, O l → l < H.next
  lowK : ∀ {H O}, K H O → ∀ l, O l → l < H.next
  step : ∀ {k H O}, k < n → I k H O → CallV C g (xs k) H fun v H' => ∃ O', (∀ l, O' l → O l ∨ H.next ≤ l) ∧ Keep O H H' ∧ ((v = .bool true ∧ I (k + 1) H' O') ∨ (v = .bool false ∧ K H' O'))
/-- what comes of telling -/
def TellEnd (n : Nat) (I : Nat → AH → (Nat → Prop) → Prop) (K : AH → (Nat → Prop) → Prop) (H : AH) (O : Nat → Prop) (H' : AH) : Prop :=
  ∃ O', (∀ l, O' l → O l ∨ H.next ≤ l) ∧ Keep O H H' ∧ (I n H' O' ∨ K H' O')
end Go.Proofs.YtikkokolmipppaaA

/-
  A SMALL HEAP FOR A LARGE ONE (part 15: from a run over the small heap to the machine's call of a law). Own text of this session.
-/
import Derived.Test.YtikkokolmipppaaA14
set_option linter.unusedVariables false
set_option linter.unusedSimpArgs false
namespace Go.Proofs.YtikkokolmipppaaA
open Go Go.RowKit

def progOk (P : Program) (G : Nat → Bool) : Bool := P.funcs.all fun fn => match fn.body with | some c => codeOk G c | none => true
theorem progOk_inv {P : Program} {G : Nat → Bool} (h : progOk P G = true) : ∀ (f : FuncId) (fn : Func) (c : Code), P.funcs[f]? = some fn → fn.body = some c → codeOk G c = true := by
  intro f fn c hf hb
  have := Array.all_eq_true_iff_forall_mem.1 h fn (Array.mem_of_getElem? hf)
  rw [hb] at this
  exact this
def H00 : AH := ⟨0, fun _ => none⟩
theorem emb00 {B : Nat} {w : World} (h : B ≤ w.heap.size) : Emb (fun _ => none) B H00 w := ⟨fun _ _ => rfl, fun l b hl => (by cases hl), fun l l' b b' p p' _ hl => (by cases hl), h⟩
/-- A law's call at an embedded heap. -/
theorem law_call {P : Program} {orc : FuncId → Array Value → AH → Value → AH → Prop} {G : Nat → Bool} (hmix : P.follows .mixedOrders = true) (hP : progOk P G = true) (hO : ∀ f args H v H', orc f args H v H' → JOk ⟨P, G, orc⟩ (.call f args H v H'))
    {f : FuncId} {args args' : Array Value} {H : AH} {ρ : LMap} {w : World} (h : CallR ⟨P, G, orc⟩ f args H (fun v _ => v = .bool true)) (hG : GlobOk G ρ) (ha : VRA ρ args args') (hE : Emb ρ w.heap.size H w) :
    Calls P f args' w (fun e w' => e = .returned (.bool true) ∧ Below w.heap.size w w') := by
  obtain ⟨v, H', hr, rfl⟩ := h
  have := sound (C := ⟨P, G, orc⟩) hmix (progOk_inv hP) hO hr
  refine (this ρ w.heap.size args' w hG ha hE).mono ?_
  rintro e w' ⟨v', ρ', rfl, _, hv, _, hb⟩
  cases hv
  exact ⟨rfl, hb⟩
theorem law_callC {C : Cx} (hmix : C.P.follows .mixedOrders = true) (hP : progOk C.P C.G = true) (hO : ∀ f args H v H', C.orc f args H v H' → JOk C (.call f args H v H'))
    {f : FuncId} {args args' : Array Value} {H : AH} {ρ : LMap} {w : World} (h : CallR C f args H (fun v _ => v = .bool true)) (hG : GlobOk C.G ρ) (ha : VRA ρ args args') (hE : Emb ρ w.heap.size H w) :
    Calls C.P f args' w (fun e w' => e = .returned (.bool true) ∧ Below w.heap.size w w') := law_call (P := C.P) (G := C.G) (orc := C.orc) hmix hP hO h hG ha hE
/-- arguments without an address -/
theorem vra_data {ρ : LMap} {args : Array Value} (h : ∀ v ∈ args, VR ρ v v) : VRA ρ args args := by
  refine ⟨rfl, fun i hi => ?_⟩
  have : args.getD i Go.undef = args[i] := by simp [Array.getD, hi]
  rw [this]
  exact h _ (Array.getElem_mem hi)
/-- a row of whole numbers of the machine's, with what lies behind it -/
def IsRow (k : IntKind) (w : World) (a : Option Addr) (len cap : Nat) (zs : List Int) : Prop :=
  (a = none ∧ len = 0 ∧ cap = 0 ∧ zs = []) ∨
  ∃ x, a = some x ∧ len ≤ cap ∧ cap ≤ maxLen ∧ zs.length = cap ∧ (∀ i, i < zs.length → w.cell? (x.add i) = some (.int k (zs.getD i 0))) ∧ ∀ n ∈ zs, (Lit.int k n).wf = true
theorem cell_inv {w : World} {a : Addr} {v : Value} (h : w.cell? a = some v) : a.spot = none ∧ ∃ C T z, w.heap[a.block]? = some (.cells C T z) ∧ C[a.off]? = some v := by
  unfold World.cell? at h
  split at h
  · rename_i C T z hb
    split at h
    · cases h
    · rename_i hs
      refine ⟨?_, C, T, z, hb, h⟩
      cases hsp : a.spot with
      | none => rfl
      | some s => rw [hsp] at hs; simp at hs
  · cases h
/-- a row of things without an address -/
def IsVals (w : World) (a : Option Addr) (len cap : Nat) (vs : List Value) : Prop :=
  (a = none ∧ len = 0 ∧ cap = 0 ∧ vs = []) ∨
  ∃ x, a = some x ∧ len ≤ cap ∧ cap ≤ maxLen ∧ vs.length = cap ∧ ∀ i, i < vs.length → w.cell? (x.add i) = some (vs.getD i Go.undef)
theorem arg_vals {T : TypeId} {w : World} {a : Option Addr} {len cap : Nat} {vs : List Value} (h : IsVals w a len cap vs) (hd : ∀ v ∈ vs, ∀ ρ, VR ρ v v) :
    ∃ sv H ρ O, VR ρ sv (.slice a len cap) ∧ Emb ρ w.heap.size H w ∧ Row T false H sv (vs.take len) O ∧ (vs.take len).length = len := by
  rcases h with ⟨rfl, rfl, rfl, rfl⟩ | ⟨x, rfl, hl, hm, hz, hc⟩
  · exact ⟨.slice none 0 0, H00, fun _ => none, none, .nilSlice, emb00 (Nat.le_refl _), Row.nil, rfl⟩
  · have htl : (vs.take len).length = len := by simp; omega
    by_cases h0 : cap = 0
    · have hl0 : len = 0 := by omega
      subst h0 hl0
      exact ⟨.slice (some ⟨0, 0, none⟩) 0 0, H00, fun _ => none, none, .emptySlice 0 0 x, emb00 (Nat.le_refl _), ⟨⟨_, rfl, .inr ⟨rfl, 0, 0, rfl⟩⟩, by simp⟩, by simp⟩
    · have h1 := hc 0 (by omega)
      have ha0 : x.add 0 = x := by simp [Addr.add]
      rw [ha0] at h1
      obtain ⟨hsp, C, T', z, hb, hcx⟩ := cell_inv h1
      have hcell : ∀ i, i < cap → C[x.off + i]? = some (vs.getD i Go.undef) := by
        intro i hi
        obtain ⟨_, C', T'', z', hb', hc'⟩ := cell_inv (hc i (by omega))
        have e1 : (x.add i).block = x.block := by unfold Addr.add; split <;> rfl
        have e2 : (x.add i).off = x.off + i := by unfold Addr.add; split <;> simp_all
        rw [e1, hb] at hb'
        cases hb'
        rw [e2] at hc'
        exact hc'
      have hsz : x.off + cap ≤ C.size := by
        have := hcell (cap - 1) (by omega)
        rcases Nat.lt_or_ge (x.off + (cap - 1)) C.size with h | h
        · omega
        · rw [Array.getElem?_eq_none h] at this; cases this
      have hx : x = ⟨x.block, x.off + 0, none⟩ := by cases x; simp at hsp; simp [hsp]
      refine ⟨.slice (some ⟨0, 0, none⟩) len len, ⟨1, fun l => if l = 0 then some (.cells (vs.take len) T false 1) else none⟩, fun l => if l = 0 then some ⟨x.block, x.off, C.size, 1⟩ else none, some 0, ?_, ⟨?_, ?_, ?_, Nat.le_refl _⟩, ?_, htl⟩
      · have := VR.slice (ρ := fun l => if l = 0 then some ⟨x.block, x.off, C.size, 1⟩ else none) 0 0 len cap ⟨x.block, x.off, C.size, 1⟩ (by simp) hl (by simp; exact hsz)
        rw [hx]
        exact this
      · intro l hl
        have : ¬ l = 0 := by simp at hl; omega
        simp [this]
      · intro l b hb'
        by_cases e : l = 0
        · subst e
          simp only [if_true] at hb'
          cases hb'
          refine ⟨⟨x.block, x.off, C.size, 1⟩, by simp, C, T', z, hb, rfl, by simp; omega, rfl, ?_, fun h => by cases h⟩
          intro i v hv
          have hi : i < len := by
            rcases Nat.lt_or_ge i len with h | h
            · exact h
            · rw [List.getElem?_eq_none (by omega)] at hv; cases hv
          rw [List.getElem?_take_of_lt hi] at hv
          refine ⟨v, ?_, hd v (List.mem_of_getElem? hv) _⟩
          rw [hcell i (by omega), List.getD_eq_getElem?_getD, hv]
          rfl
        · simp [e] at hb'
      · intro l l' b b' p p' hne hb1 hb2
        by_cases e : l = 0
        · by_cases e' : l' = 0
          · exact absurd (e.trans e'.symm) hne
          · simp [e'] at hb2
        · simp [e] at hb1
      · exact ⟨0, vs.take len, by rw [htl], by simp, by rw [List.drop_zero]; exact List.take_of_length_le (Nat.le_refl _), by simp, by simp⟩
theorem arg_row {T : TypeId} {k : IntKind} {w : World} {a : Option Addr} {len cap : Nat} {zs : List Int} (h : IsRow k w a len cap zs) :
    ∃ sv H ρ O, VR ρ sv (.slice a len cap) ∧ Emb ρ w.heap.size H w ∧ Row T false H sv ((zs.take len).map (Value.int k)) O ∧ (zs.take len).length = len ∧ ∀ n ∈ zs.take len, (Lit.int k n).wf = true := by
  have hv : IsVals w a len cap (zs.map (Value.int k)) := by
    rcases h with ⟨rfl, rfl, rfl, rfl⟩ | ⟨x, rfl, hl, hm, hz, hc, hw⟩
    · exact .inl ⟨rfl, rfl, rfl, rfl⟩
    · refine .inr ⟨x, rfl, hl, hm, by simpa using hz, fun i hi => ?_⟩
      have hi' : i < zs.length := by simpa using hi
      rw [hc i hi']
      simp [List.getD_eq_getElem?_getD, hi']
  have hwf : ∀ n ∈ zs.take len, (Lit.int k n).wf = true := by
    rcases h with ⟨rfl, rfl, rfl, rfl⟩ | ⟨x, rfl, hl, hm, hz, hc, hw⟩
    · simp
    · exact fun n hn => hw n (List.mem_of_mem_take hn)
  obtain ⟨sv, H, ρ, O, h1, h2, h3, h4⟩ := arg_vals (T := T) hv (by simp only [List.mem_map]; rintro _ ⟨n, _, rfl⟩ ρ; exact .int _ _)
  rw [← List.map_take] at h3 h4
  exact ⟨sv, H, ρ, O, h1, h2, h3, by simpa using h4, hwf⟩
/-- a row of texts -/
def IsTexts (w : World) (a : Option Addr) (len cap : Nat) (ss : List ByteArray) : Prop :=
  (a = none ∧ len = 0 ∧ cap = 0 ∧ ss = []) ∨
  ∃ x, a = some x ∧ len ≤ cap ∧ cap ≤ maxLen ∧ ss.length = cap ∧ (∀ i, i < ss.length → w.cell? (x.add i) = some (.string (ss.getD i ByteArray.empty))) ∧ ∀ s ∈ ss, s.size ≤ maxLen
theorem arg_texts {T : TypeId} {w : World} {a : Option Addr} {len cap : Nat} {ss : List ByteArray} (h : IsTexts w a len cap ss) :
    ∃ sv H ρ O, VR ρ sv (.slice a len cap) ∧ Emb ρ w.heap.size H w ∧ Row T false H sv ((ss.take len).map Value.string) O ∧ (ss.take len).length = len ∧ ∀ s ∈ ss.take len, s.size ≤ maxLen := by
  have hv : IsVals w a len cap (ss.map Value.string) := by
    rcases h with ⟨rfl, rfl, rfl, rfl⟩ | ⟨x, rfl, hl, hm, hz, hc, hw⟩
    · exact .inl ⟨rfl, rfl, rfl, rfl⟩
    · refine .inr ⟨x, rfl, hl, hm, by simpa using hz, fun i hi => ?_⟩
      have hi' : i < ss.length := by simpa using hi
      rw [hc i hi']
      simp [List.getD_eq_getElem?_getD, hi']
  have hwf : ∀ s ∈ ss.take len, s.size ≤ maxLen := by
    rcases h with ⟨rfl, rfl, rfl, rfl⟩ | ⟨x, rfl, hl, hm, hz, hc, hw⟩
    · simp
    · exact fun n hn => hw n (List.mem_of_mem_take hn)
  obtain ⟨sv, H, ρ, O, h1, h2, h3, h4⟩ := arg_vals (T := T) hv (by simp only [List.mem_map]; rintro _ ⟨n, _, rfl⟩ ρ; exact .string _)
  rw [← List.map_take] at h3 h4
  exact ⟨sv, H, ρ, O, h1, h2, h3, by simpa using h4, hwf⟩
def numOf : Value → Int
  | .int _ n => n
  | _ => 0
/-- a struct of whole numbers -/
theorem open_nums {P : Program} {W : World} {r : Reach} {b0 : Nat} {t : TypeId} {v : Value} {fs : Array Field} {ts : List TypeId} {ks : List IntKind} (hu : P.underlying t = some (.struct fs)) (hts : P.cellTypes P.depth t = some ts)
    (hks : ts.map P.underlying = ks.map fun k => some (.int k)) (hc : P.cellsOf t = ks.length) (hval : Value.okWide P W r b0 t v) :
    ∃ ns : List Int, ns.length = ks.length ∧ v = .agg (List.zipWith Value.int ks ns).toArray ∧ ∀ (i : Nat) (k : IntKind) (n : Int), ks[i]? = some k → ns[i]? = some n → k.has n := by
  simp only [Value.okWide, hu] at hval
  obtain ⟨cs, rfl, hsz, ts', hts', _, hcell⟩ := hval
  rw [hts] at hts'
  cases hts'
  have hlen : ts.length = ks.length := by simpa using congrArg List.length hks
  have one : ∀ i (hi : i < ks.length), ∃ n, cs[i]? = some (.int ks[i] n) ∧ ks[i].has n := by
    intro i hi
    have hi' : i < cs.size := by omega
    obtain ⟨u, hu', hok⟩ := hcell i cs[i] (by simp [hi'])
    rw [hlen, Nat.mod_eq_of_lt hi] at hu'
    have hk : P.underlying u = some (.int ks[i]) := by
      have := congrArg (fun l => l[i]?) hks
      simp only [List.getElem?_map, hu', List.getElem?_eq_getElem hi, Option.map_some] at this
      exact Option.some.inj this
    unfold Cell.okWide at hok
    rw [hk] at hok
    cases hx : cs[i] with
    | int k' n =>
      rw [hx] at hok
      simp only [Cell.ok, hk] at hok
      obtain ⟨rfl, h⟩ := hok
      exact ⟨n, by simp [hi', hx], h⟩
    | _ => rw [hx] at hok; simp [Cell.ok, hk] at hok
  refine ⟨(List.range ks.length).map fun i => numOf (cs.getD i Go.undef), by simp, ?_, ?_⟩
  · congr 1
    refine Array.ext (by simp; omega) fun i hi hi' => ?_
    have hik : i < ks.length := by omega
    obtain ⟨n, h1, _⟩ := one i hik
    have h2 : cs[i] = .int ks[i] n := by simpa [hi] using h1
    simp [h2, hi, numOf]
  · intro i k n hk hn
    have hi : i < ks.length := by
      rcases Nat.lt_or_ge i ks.length with h | h
      · exact h
      · rw [List.getElem?_eq_none h] at hk; cases hk
    obtain ⟨n', h1, h2⟩ := one i hi
    rw [List.getElem?_eq_getElem hi] at hk
    cases hk
    rw [List.getElem?_map, List.getElem?_range hi] at hn
    have hi' : i < cs.size := by omega
    have h3 : cs[i] = .int ks[i] n' := by simpa [hi'] using h1
    have h4 : cs.getD i Go.undef = .int ks[i] n' := by simp [Array.getD, hi', h3]
    simp only [Option.map_some, h4, numOf] at hn
    cases hn
    exact h2
theorem vr_nums {ρ : LMap} (ks : List IntKind) (ns : List Int) : VR ρ (.agg (List.zipWith Value.int ks ns).toArray) (.agg (List.zipWith Value.int ks ns).toArray) := by
  have h := vra_data (ρ := ρ) (args := (List.zipWith Value.int ks ns).toArray) (by
    intro v hv
    rw [List.mem_toArray] at hv
    obtain ⟨i, hi⟩ := List.getElem?_of_mem hv
    rw [List.getElem?_zipWith] at hi
    split at hi <;> simp at hi
    subst hi
    exact .int _ _)
  exact .agg _ _ h.1 h.2
theorem len1 {ns : List Int} (h : ns.length = 1) : ∃ a0, ns = [a0] := by match ns, h with | [a0], _ => exact ⟨a0, rfl⟩
theorem len2 {ns : List Int} (h : ns.length = 2) : ∃ a0 a1, ns = [a0, a1] := by match ns, h with | [a0, a1], _ => exact ⟨a0, a1, rfl⟩
theorem len3 {ns : List Int} (h : ns.length = 3) : ∃ a0 a1 a2, ns = [a0, a1, a2] := by match ns, h with | [a0, a1, a2], _ => exact ⟨a0, a1, a2, rfl⟩
theorem len4 {ns : List Int} (h : ns.length = 4) : ∃ a0 a1 a2 a3, ns = [a0, a1, a2, a3] := by match ns, h with | [a0, a1, a2, a3], _ => exact ⟨a0, a1, a2, a3, rfl⟩
theorem len10 {ns : List Int} (h : ns.length = 10) : ∃ a0 a1 a2 a3 a4 a5 a6 a7 a8 a9, ns = [a0, a1, a2, a3, a4, a5, a6, a7, a8, a9] := by match ns, h with | [a0, a1, a2, a3, a4, a5, a6, a7, a8, a9], _ => exact ⟨a0, a1, a2, a3, a4, a5, a6, a7, a8, a9, rfl⟩
inductive VRs (ρ : LMap) : List Value → List Value → Prop
  | nil : VRs ρ [] []
  | cons {a b : Value} {l m : List Value} (h : VR ρ a b) (hs : VRs ρ l m) : VRs ρ (a :: l) (b :: m)
theorem vrs_at {ρ : LMap} {a b : List Value} (h : VRs ρ a b) : a.length = b.length ∧ ∀ (i : Nat) (x : Value), a[i]? = some x → ∃ y, b[i]? = some y ∧ VR ρ x y := by
  induction h with
  | nil => exact ⟨rfl, fun i x h => by simp at h⟩
  | cons h1 h2 ih =>
    refine ⟨by simp [ih.1], fun i x hx => ?_⟩
    cases i with
    | zero => simp at hx; subst hx; exact ⟨_, rfl, h1⟩
    | succ i => exact ih.2 i x (by simpa using hx)
theorem vra_list {ρ : LMap} {a b : Array Value} (h : VRs ρ a.toList b.toList) : VRA ρ a b := by
  obtain ⟨h1, h2⟩ := vrs_at h
  refine ⟨by simpa using h1, fun i hi => ?_⟩
  have hi' : i < b.size := by simp at h1; omega
  obtain ⟨y, hy, hv⟩ := h2 i a[i] (by simp [hi])
  have e1 : a.getD i Go.undef = a[i] := by simp [Array.getD, hi]
  have e2 : b.getD i Go.undef = y := by
    have : b[i] = y := by simpa [hi'] using hy
    simp [Array.getD, hi', this]
  rw [e1, e2]
  exact hv
end Go.Proofs.YtikkokolmipppaaA

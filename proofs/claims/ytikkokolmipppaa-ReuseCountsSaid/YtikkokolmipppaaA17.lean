/-
  A SMALL HEAP FOR A LARGE ONE (part 17: package variables, and arguments one behind another). Own text of this session.
-/
import Derived.Test.YtikkokolmipppaaA16
import Derived.LaidMore
import Derived.OpenShut
import Derived.MakeChecks
set_option linter.unusedVariables false
set_option linter.unusedSimpArgs false
namespace Go.Proofs.YtikkokolmipppaaA
open Go Go.RowKit Go.ChangeShapes Go.WideShapes

/-! ### 1. What a datum says of its cells -/
def unD {H : Type} : Nat → DataW H → List Value
  | _ + 1, .lit (.int k n) => [.int k n]
  | _ + 1, .lit (.bool b) => [.bool b]
  | _ + 1, .lit (.string bs) => [.string ⟨bs.toArray⟩]
  | n + 1, .agg xs => xs.flatMap (unD n)
  | _, _ => []
def tiles (P : Program) : List Field → Nat → Nat → Bool
  | [], a, t => a == t
  | f :: l, a, t => f.offset == a && tiles P l (a + P.cellsOf f.type) t
def flatT (P : Program) : Nat → TypeId → Bool
  | 0, _ => false
  | n + 1, t => match P.underlying t with
    | some .bool => true
    | some .string => true
    | some (.int _) => true
    | some (.array m e) => flatT P n e && (P.cellsOf t == m * P.cellsOf e)
    | some (.struct fs) => tiles P fs.toList 0 (P.cellsOf t) && fs.toList.all fun f => flatT P n f.type
    | _ => false
theorem chunks {c : Nat} : ∀ (m : Nat) (cs : List Value), cs.length = m * c → cs = (List.range m).flatMap fun i => (cs.drop (i * c)).take c
  | 0, cs, h => by
    have : cs = [] := List.length_eq_zero_iff.1 (by simpa using h)
    simp [this]
  | m + 1, cs, h => by
    have h1 : (cs.drop c).length = m * c := by simp [h, Nat.succ_mul]
    have ih := chunks m (cs.drop c) h1
    rw [List.range_succ_eq_map, List.flatMap_cons, List.flatMap_map]
    have e : ((List.range m).flatMap fun i => (cs.drop ((i + 1) * c)).take c) = cs.drop c := by
      rw [ih]
      congr 1
      funext i
      rw [List.drop_drop]
      congr 2
      rw [Nat.succ_mul]
      omega
    rw [e]
    simp
theorem tiles_eq {P : Program} {cs : List Value} : ∀ (l : List Field) (a : Nat), tiles P l a cs.length = true → cs.drop a = l.flatMap fun f => (cs.drop f.offset).take (P.cellsOf f.type)
  | [], a, h => by simp [tiles] at h; simp [h]
  | f :: l, a, h => by
    simp only [tiles, Bool.and_eq_true, beq_iff_eq] at h
    obtain ⟨rfl, h⟩ := h
    rw [List.flatMap_cons, ← tiles_eq l _ h, ← List.drop_drop, List.take_append_drop]
theorem trod_unD {H : Type} {enc : TypeId × Value → H} {P : Program} {w : World} {base : Nat} {sp : Nat → Bool} {held : Bool} : ∀ (k : Nat) (t : TypeId) (cs : List Value) (d : DataW H) (ps : List MemPlace) (fuel : Nat),
    flatT P k t = true → DataW.trod enc P w base sp held fuel t cs = some (d, ps) → cs = unD k d
  | 0, _, _, _, _, _, h, _ => by cases h
  | k + 1, t, cs, d, ps, fuel, h, ht => by
    simp only [flatT] at h
    split at h
    · rename_i hu
      obtain ⟨b, rfl, e⟩ := DataW.trod_bool hu ht
      cases e
      rfl
    · rename_i hu
      obtain ⟨s, rfl, e, _⟩ := DataW.trod_string hu ht
      cases e
      rfl
    · rename_i hu
      obtain ⟨n, rfl, e, _⟩ := DataW.trod_int hu ht
      cases e
      rfl
    · rename_i m e hu
      simp only [Bool.and_eq_true, beq_iff_eq] at h
      obtain ⟨xs, f, rfl, e1, hl, hn, hel⟩ := DataW.trod_array hu ht
      cases e1
      rw [h.2] at hl
      rw [chunks m cs hl]
      show _ = (xs.map (·.1)).flatMap (unD k)
      have : (List.range m).map (fun i => (cs.drop (i * P.cellsOf e)).take (P.cellsOf e)) = (xs.map (·.1)).map (unD k) := by
        refine List.ext_getElem (by simp [hn]) fun i h1 h2 => ?_
        simp only [List.length_map, List.length_range] at h1
        have h3 : i < xs.length := by omega
        have := hel i h1
        rw [List.getElem?_eq_getElem h3] at this
        simp only [List.getElem_map, List.getElem_range]
        exact trod_unD k e _ _ _ f h.1 this
      rw [List.flatMap_def, List.flatMap_def, this]
    · rename_i fs hu
      simp only [Bool.and_eq_true, List.all_eq_true] at h
      obtain ⟨xs, f, rfl, e1, hl, hn, hel⟩ := DataW.trod_struct hu ht
      cases e1
      have hd := tiles_eq (P := P) (cs := cs) fs.toList 0 (by rw [hl]; exact h.1)
      rw [List.drop_zero] at hd
      rw [hd]
      show _ = (xs.map (·.1)).flatMap (unD k)
      have : fs.toList.map (fun f => (cs.drop f.offset).take (P.cellsOf f.type)) = (xs.map (·.1)).map (unD k) := by
        refine List.ext_getElem (by simp [hn]) fun i h1 h2 => ?_
        simp only [List.length_map, Array.length_toList] at h1
        have h3 : i < xs.length := by omega
        have := hel i fs[i] (by simp [h1])
        rw [List.getElem?_eq_getElem h3] at this
        simp only [List.getElem_map, Array.getElem_toList]
        exact trod_unD k _ _ _ _ f (h.2 fs[i] (by simp)) this
      rw [List.flatMap_def, List.flatMap_def, this]
    · cases h

/-! ### 2. The heap that a law begins with -/
abbrev Globs := List (Nat × List Value)
def HG (n : Nat) (gs : Globs) : AH := ⟨n, fun l => (gs.find? fun x => x.1 == l).map fun x => .cells x.2 0 false 1⟩
def GG (n : Nat) : Nat → Bool := fun g => decide (g < n)
/-- the machine's memory has the package variables -/
def GlobIn (W : World) (n : Nat) (gs : Globs) : Prop := ∀ x ∈ gs, x.1 < n ∧ (∀ v ∈ x.2, ∀ ρ, VR ρ v v) ∧ ∃ (C : Array Value) (T : TypeId) (z : Nat × Nat), W.heap[x.1]? = some (.cells C T z) ∧ ∀ (i : Nat) (v : Value), x.2[i]? = some v → C[i]? = some v
def ρG (W : World) (n : Nat) : LMap := fun g => if g < n then some ⟨g, 0, match W.heap[g]? with | some (.cells C _ _) => C.size | _ => 0, 1⟩ else none
/-- no block is the walk's own -/
def NoOwn (H : AH) : Prop := ∀ l b, H.get l = some b → b.isOwn = false
theorem noOwn_HG (n : Nat) (gs : Globs) : NoOwn (HG n gs) := by
  intro l b h
  simp only [HG, Option.map_eq_some_iff] at h
  obtain ⟨x, _, rfl⟩ := h
  rfl
theorem globOk (W : World) (n : Nat) : GlobOk (GG n) (ρG W n) := fun g hg => ⟨_, if_pos (of_decide_eq_true hg), rfl, rfl⟩
theorem emb_HG {W : World} {n : Nat} {gs : Globs} (h : GlobIn W n gs) : Emb (ρG W n) W.heap.size (HG n gs) W := by
  refine ⟨fun l hl => if_neg (Nat.not_lt.2 hl), ?_, ?_, Nat.le_refl _⟩
  · intro l b hl
    simp only [HG, Option.map_eq_some_iff] at hl
    obtain ⟨x, hx, rfl⟩ := hl
    have he : x.1 = l := by simpa using List.find?_some hx
    subst he
    obtain ⟨h1, h2, C, T, z, h3, h4⟩ := h x (List.mem_of_find?_eq_some hx)
    refine ⟨_, if_pos h1, C, T, z, h3, ?_, ?_, rfl, ?_, fun h => by cases h⟩
    · simp [h3]
    · simp only [Nat.zero_add]
      rcases Nat.lt_or_ge x.2.length (C.size + 1) with hlt | hge
      · omega
      · have h5 := h4 (x.2.length - 1) x.2[x.2.length - 1] (by rw [List.getElem?_eq_getElem])
        rw [Array.getElem?_eq_none (by omega)] at h5
        cases h5
    · intro i v hv
      exact ⟨v, by simpa using h4 i v hv, h2 v (List.mem_of_getElem? hv) _⟩
  · intro l l' b b' p p' _ h1 _ _ _ h2
    rw [noOwn_HG n gs l b h1] at h2
    cases h2
/-- a row of things without an address, behind what is there -/
theorem arg_vals_in {T : TypeId} {w : World} {H : AH} {ρ : LMap} {a : Option Addr} {len cap : Nat} {vs : List Value} (hE : Emb ρ w.heap.size H w) (hno : NoOwn H) (h : IsVals w a len cap vs) (hd : ∀ v ∈ vs, ∀ ρ, VR ρ v v) :
    ∃ sv H' ρ' O, ρ.le ρ' ∧ VR ρ' sv (.slice a len cap) ∧ Emb ρ' w.heap.size H' w ∧ NoOwn H' ∧ Fresh H H' ∧ Row T false H' sv (vs.take len) O ∧ (vs.take len).length = len ∧ ∀ l, O = some l → H.next ≤ l := by
  rcases h with ⟨rfl, rfl, rfl, rfl⟩ | ⟨x, rfl, hl, hm, hz, hc⟩
  · exact ⟨.slice none 0 0, H, ρ, none, LMap.le_refl _, .nilSlice, hE, hno, Fresh.refl, Row.nil, rfl, fun l h => by cases h⟩
  · have htl : (vs.take len).length = len := by simp; omega
    by_cases h0 : cap = 0
    · have hl0 : len = 0 := by omega
      subst h0 hl0
      exact ⟨.slice (some ⟨0, 0, none⟩) 0 0, H, ρ, none, LMap.le_refl _, .emptySlice 0 0 x, hE, hno, Fresh.refl, ⟨⟨_, rfl, .inr ⟨rfl, 0, 0, rfl⟩⟩, by simp⟩, by simp, fun l h => by cases h⟩
    · have h1 := hc 0 (by omega)
      have ha0 : x.add 0 = x := by simp [Addr.add]
      rw [ha0] at h1
      obtain ⟨hsp, C, T', z, hb, hcx⟩ := cell_inv h1
      have hcell : ∀ i, i < cap → C[x.off + i]? = some (vs.getD i Go.undef) := by
        intro i hi
        obtain ⟨_, C', T'', z', hb', hc'⟩ := cell_inv (hc i (by omega))
        have e1 : (x.add i).block = x.block := by unfold Addr.add; split <;> rfl
        have e2 : (x.add i).off = x.off + i := by unfold Addr.add; split <;> simp_all
        rw [e1, hb] at hb'
        cases hb'
        rw [e2] at hc'
        exact hc'
      have hsz : x.off + cap ≤ C.size := by
        have := hcell (cap - 1) (by omega)
        rcases Nat.lt_or_ge (x.off + (cap - 1)) C.size with h | h
        · omega
        · rw [Array.getElem?_eq_none h] at this; cases this
      have hx : x = ⟨x.block, x.off + 0, none⟩ := by cases x; simp at hsp; simp [hsp]
      have hn : ρ H.next = none := hE.fresh _ (Nat.le_refl _)
      have hle : ρ.le (ρ.put H.next ⟨x.block, x.off, C.size, 1⟩) := LMap.le_put hn
      have hno' : NoOwn (H.new (.cells (vs.take len) T false 1)) := by
        intro l b hl'
        simp only [AH.new] at hl'
        by_cases e : l = H.next
        · subst e; simp at hl'; subst hl'; rfl
        · rw [upd_ne _ _ _ _ e] at hl'; exact hno l b hl'
      refine ⟨.slice (some ⟨H.next, 0, none⟩) len len, H.new (.cells (vs.take len) T false 1), ρ.put H.next ⟨x.block, x.off, C.size, 1⟩, some H.next, hle, ?_, ⟨?_, ?_, ?_, hE.size⟩, hno', Fresh.ofNew, ?_, htl, fun l h => by cases h; exact Nat.le_refl _⟩
      · have := VR.slice (ρ := ρ.put H.next ⟨x.block, x.off, C.size, 1⟩) H.next 0 len cap ⟨x.block, x.off, C.size, 1⟩ (LMap.put_same _ _ _) hl (by simp; exact hsz)
        rw [hx]
        exact this
      · intro l hl'
        have : l ≠ H.next := by simp only [AH.new] at hl'; omega
        rw [LMap.put_ne _ _ _ _ this]
        exact hE.fresh l (by simp only [AH.new] at hl'; omega)
      · intro l b hb'
        by_cases e : l = H.next
        · subst e
          simp only [AH.new, upd_same] at hb'
          cases hb'
          refine ⟨⟨x.block, x.off, C.size, 1⟩, LMap.put_same _ _ _, C, T', z, hb, rfl, by simp; omega, rfl, ?_, fun h => by cases h⟩
          intro i v hv
          have hi : i < len := by
            rcases Nat.lt_or_ge i len with h | h
            · exact h
            · rw [List.getElem?_eq_none (by omega)] at hv; cases hv
          rw [List.getElem?_take_of_lt hi] at hv
          refine ⟨v, ?_, hd v (List.mem_of_getElem? hv) _⟩
          rw [hcell i (by omega), List.getD_eq_getElem?_getD, hv]
          rfl
        · simp only [AH.new, upd_ne _ _ _ _ e] at hb'
          obtain ⟨q, hq, hk⟩ := hE.blk l b hb'
          exact ⟨q, hle _ _ hq, hk.mono hle⟩
      · intro l l' b b' p p' _ h1 _ _ _ h2
        rw [hno' l b h1] at h2
        cases h2
      · exact ⟨0, vs.take len, by rw [htl], by simp, by rw [List.drop_zero]; exact List.take_of_length_le (Nat.le_refl _), by simp, by simp⟩

/-- a thing of one cell, of a type -/
def Tv (P : Program) (e : TypeId) (v : Value) : Prop := match P.underlying e, v with
  | some .bool, .bool _ => True
  | some .string, .string s => s.size ≤ maxLen
  | some (.int k), .int k' n => k' = k ∧ (Lit.int k n).wf = true
  | _, _ => False
def scalarT (P : Program) (e : TypeId) : Bool := match P.underlying e with
  | some .bool => true
  | some .string => true
  | some (.int _) => true
  | _ => false
theorem open_vals {H : Type} {enc : TypeId × Value → H} {P : Program} {w : World} {base : Nat} {held : Bool} {t e : TypeId} {a : Option Addr} {len cap : Nat} {d : DataW H} {ps : List MemPlace} (ht : P.underlying t = some (.slice e)) (hc : P.cellsOf e = 1) (hs : scalarT P e = true)
    (h : DataW.Trod enc P w base (fun _ => true) held t (.slice a len cap) d ps) : ∃ vs, IsVals w a len cap vs ∧ ∀ v ∈ vs, Tv P e v := by
  obtain ⟨fuel, hf⟩ := h
  rcases DataW.trod_slice ht hf with ⟨hcs, _⟩ | ⟨x, l, c, elems, rest, n, _, hcs, _, _, hl, hm, hlen, hel, hsp, _⟩
  · simp [Value.cells] at hcs
    obtain ⟨rfl, rfl, rfl⟩ := hcs
    exact ⟨[], .inl ⟨rfl, rfl, rfl, rfl⟩, by simp⟩
  · simp [Value.cells] at hcs
    obtain ⟨rfl, rfl, rfl⟩ := hcs
    obtain ⟨hrl, hr⟩ := hsp rfl
    have one : ∀ i, i < cap → ∃ v, w.cell? (x.add i) = some v ∧ Tv P e v := by
      intro i hi
      have hb : ∃ y, (w.cells? base (x.add (i * P.cellsOf e)) (P.cellsOf e)).bind (DataW.trod enc P w base (fun _ => true) held n e) = some y := by
        by_cases h1 : i < len
        · rw [hel i h1]
          exact ⟨elems[i], List.getElem?_eq_getElem (by omega)⟩
        · have := hr (i - len) (by omega)
          rw [show len + (i - len) = i by omega] at this
          rw [this]
          exact ⟨rest[i - len], List.getElem?_eq_getElem (by omega)⟩
      obtain ⟨y, hy⟩ := hb
      rw [hc, Nat.mul_one, Option.bind_eq_some_iff] at hy
      obtain ⟨cs', h1, h2⟩ := hy
      have h3 : ∃ v, cs' = [v] ∧ Tv P e v := by
        unfold scalarT at hs
        split at hs
        · rename_i hu
          obtain ⟨b, rfl, _⟩ := DataW.trod_bool hu h2
          exact ⟨_, rfl, by simp [Tv, hu]⟩
        · rename_i hu
          obtain ⟨s, rfl, _, hs⟩ := DataW.trod_string hu h2
          exact ⟨_, rfl, by simp [Tv, hu, hs]⟩
        · rename_i hu
          obtain ⟨n, rfl, _, hn⟩ := DataW.trod_int hu h2
          exact ⟨_, rfl, by simp [Tv, hu, hn]⟩
        · cases hs
      obtain ⟨v, rfl, h4⟩ := h3
      exact ⟨v, cell_of_cells?_one h1, h4⟩
    refine ⟨(List.range cap).map fun i => (w.cell? (x.add i)).getD Go.undef, .inr ⟨x, rfl, hl, hm, by simp, fun i hi => ?_⟩, fun v hv => ?_⟩
    · simp only [List.length_map, List.length_range] at hi
      obtain ⟨v, h1, _⟩ := one i hi
      simp [List.getD_eq_getElem?_getD, hi, h1]
    · obtain ⟨i, hi, rfl⟩ := List.mem_map.1 hv
      obtain ⟨v, h1, h2⟩ := one i (List.mem_range.1 hi)
      simpa [h1] using h2
theorem tv_vr {P : Program} {e : TypeId} {v : Value} {ρ : LMap} (h : Tv P e v) : VR ρ v v := by
  unfold Tv at h
  split at h
  · exact .bool _
  · exact .string _
  · exact .int _ _
  · exact h.elim
def boolOf : Value → Bool
  | .bool b => b
  | _ => false
def textOf : Value → ByteArray
  | .string s => s
  | _ => ⟨#[]⟩
theorem tv_ints {P : Program} {e : TypeId} {k : IntKind} (hu : P.underlying e = some (.int k)) {vs : List Value} (h : ∀ v ∈ vs, Tv P e v) : vs = (vs.map numOf).map (Value.int k) ∧ ∀ n ∈ vs.map numOf, (Lit.int k n).wf = true := by
  have one : ∀ v ∈ vs, v = .int k (numOf v) ∧ (Lit.int k (numOf v)).wf = true := by
    intro v hv
    have := h v hv
    unfold Tv at this
    rw [hu] at this
    cases v <;> simp at this
    exact ⟨by rw [this.1]; rfl, this.2⟩
  constructor
  · rw [List.map_map]
    conv => lhs; rw [← List.map_id vs]
    exact List.map_congr_left fun v hv => (one v hv).1
  · intro n hn
    obtain ⟨v, hv, rfl⟩ := List.mem_map.1 hn
    exact (one v hv).2
theorem tv_texts {P : Program} {e : TypeId} (hu : P.underlying e = some .string) {vs : List Value} (h : ∀ v ∈ vs, Tv P e v) : vs = (vs.map textOf).map Value.string ∧ ∀ s ∈ vs.map textOf, s.size ≤ maxLen := by
  have one : ∀ v ∈ vs, v = .string (textOf v) ∧ (textOf v).size ≤ maxLen := by
    intro v hv
    have := h v hv
    unfold Tv at this
    rw [hu] at this
    cases v <;> simp at this
    exact ⟨rfl, this⟩
  constructor
  · rw [List.map_map]
    conv => lhs; rw [← List.map_id vs]
    exact List.map_congr_left fun v hv => (one v hv).1
  · intro n hn
    obtain ⟨v, hv, rfl⟩ := List.mem_map.1 hn
    exact (one v hv).2
theorem tv_bools {P : Program} {e : TypeId} (hu : P.underlying e = some .bool) {vs : List Value} (h : ∀ v ∈ vs, Tv P e v) : vs = (vs.map boolOf).map Value.bool ∧ ∀ b ∈ vs.map boolOf, True := by
  refine ⟨?_, fun _ _ => trivial⟩
  rw [List.map_map]
  conv => lhs; rw [← List.map_id vs]
  refine List.map_congr_left fun v hv => ?_
  have := h v hv
  unfold Tv at this
  rw [hu] at this
  cases v <;> simp at this
  rfl
/-- an argument that is a row of whole numbers, of texts, of bools -/
theorem arg_in {α : Type} {P : Program} {mk : α → Value} {un : Value → α} {Wf : α → Prop} {T : TypeId} {w : World} {H : AH} {ρ : LMap} {a : Option Addr} {len cap : Nat} (hconv : ∀ {vs : List Value}, (∀ v ∈ vs, Tv P T v) → vs = (vs.map un).map mk ∧ ∀ x ∈ vs.map un, Wf x)
    (hE : Emb ρ w.heap.size H w) (hno : NoOwn H) (h : ∃ vs, IsVals w a len cap vs ∧ ∀ v ∈ vs, Tv P T v) :
    ∃ sv H' ρ' O, ∃ xs : List α, ρ.le ρ' ∧ VR ρ' sv (.slice a len cap) ∧ Emb ρ' w.heap.size H' w ∧ NoOwn H' ∧ Fresh H H' ∧ Row T false H' sv (xs.map mk) O ∧ xs.length = len ∧ (∀ x ∈ xs, Wf x) ∧ ∀ l, O = some l → H.next ≤ l := by
  obtain ⟨vs, h1, h2⟩ := h
  obtain ⟨sv, H', ρ', O, a1, a2, a3, a4, a5, a6, a7, a8⟩ := arg_vals_in (T := T) hE hno h1 (fun v hv ρ => tv_vr (h2 v hv))
  obtain ⟨c1, c2⟩ := hconv (vs := vs.take len) (fun v hv => h2 v (List.mem_of_mem_take hv))
  exact ⟨sv, H', ρ', O, (vs.take len).map un, a1, a2, a3, a4, a5, by rw [← c1]; exact a6, by simpa using a7, c2, a8⟩

/-! ### 3. What a function without arguments comes to, with package variables -/
def comesTrueG (P : Program) (n : Nat) (gs : Globs) (m k : Nat) (f : FuncId) (args : Array Value) : Bool := match (lev P (GG n) m k).1 f args (HG n gs) with
  | some (.bool true, _) => true
  | _ => false
theorem comesTrueG_run {C : Cx} {n : Nat} {gs : Globs} {m k : Nat} {f : FuncId} {args : Array Value} (hG : C.G = GG n) (h : comesTrueG C.P n gs m k f args = true) : CallR C f args (HG n gs) (fun v _ => v = .bool true) := by
  unfold comesTrueG at h
  rw [← hG] at h
  split at h
  · rename_i H' h1
    exact ⟨_, _, (lev_ok m k).1 _ _ _ _ _ h1, rfl⟩
  · cases h
/-- the package variables are there -/
def HasG (gs : Globs) (H : AH) : Prop := ∀ x ∈ gs, H.get x.1 = some (.cells x.2 0 false 1)
theorem hasG_HG {n : Nat} {gs : Globs} (hd : (gs.map (·.1)).Nodup) : HasG gs (HG n gs) := by
  intro x hx
  have : gs.find? (fun y => y.1 == x.1) = some x := by
    induction gs with
    | nil => cases hx
    | cons y l ih =>
      rw [List.map_cons, List.nodup_cons] at hd
      rw [List.find?_cons]
      rcases List.mem_cons.1 hx with rfl | hx'
      · simp
      · have hne : (y.1 == x.1) = false := by
          rw [beq_eq_false_iff_ne]
          intro e
          exact hd.1 (e ▸ List.mem_map_of_mem hx')
        rw [hne]
        exact ih hd.2 hx'
  simp [HG, this]
theorem HasG.fresh {gs : Globs} {H H' : AH} {n : Nat} (h : HasG gs H) (hlt : gs.all (fun x => decide (x.1 < n)) = true) (hn : n ≤ H.next) (hf : Fresh H H') : HasG gs H' := fun x hx => by
  rw [hf.get (by have := of_decide_eq_true (List.all_eq_true.1 hlt x hx); omega)]
  exact h x hx
theorem HasG.keep {gs : Globs} {H H' : AH} {n : Nat} {S : Nat → Prop} (h : HasG gs H) (hlt : gs.all (fun x => decide (x.1 < n)) = true) (hn : n ≤ H.next) (hf : Keep S H H') (hs : ∀ l, S l → n ≤ l) : HasG gs H' := fun x hx => by
  have hx' := of_decide_eq_true (List.all_eq_true.1 hlt x hx)
  rw [hf.get (by omega) (fun h => by have := hs _ h; omega)]
  exact h x hx
/-- a function at arguments without an address, and what it comes to -/
abbrev Closed := FuncId × Array Value × Value
def veqT : Value → Value → Bool
  | .tuple a, .tuple b => veqL a.toList b.toList
  | a, b => veq a b
theorem veqT_eq {a b : Value} (h : veqT a b = true) : a = b := by
  unfold veqT at h
  split at h
  · have := veqL_eq h
    rename_i x y
    cases x; cases y; simp at this; simp [this]
  · exact veq_eq h
def comesTo (P : Program) (n : Nat) (gs : Globs) (m k : Nat) (c : Closed) : Bool := match (lev P (GG n) m k).1 c.1 c.2.1 (HG n gs) with
  | some (v, _) => veqT v c.2.2
  | _ => false
def closedOrc (gs : Globs) (cs : List Closed) : FuncId → Array Value → AH → Value → AH → Prop := fun f args H v H' => (f, args, v) ∈ cs ∧ H' = H ∧ HasG gs H
/-- no address in it -/
def bare1 : Value → Bool
  | .int _ _ => true
  | .bool _ => true
  | .string _ => true
  | .pointer none => true
  | .slice none 0 0 => true
  | .nilFunc => true
  | _ => false
def bare : Value → Bool
  | .tuple a => a.toList.all bare1
  | .agg a => a.toList.all bare1
  | v => bare1 v
theorem bare1_eq {v v' : Value} {ρ : LMap} (h : bare1 v = true) (hv : VR ρ v v') : v' = v := by
  unfold bare1 at h
  split at h <;> first | (exact absurd h Bool.false_ne_true) | (cases hv <;> rfl)
theorem bare1_vr {v : Value} {ρ : LMap} (h : bare1 v = true) : VR ρ v v := by
  unfold bare1 at h
  split at h <;> first | (exact .int _ _) | (exact .bool _) | (exact .string _) | (exact .nilPtr) | (exact .nilSlice) | (exact .nilFunc) | (exact absurd h Bool.false_ne_true)
theorem bare_vr {v : Value} {ρ : LMap} (h : bare v = true) : VR ρ v v := by
  have arr : ∀ a : Array Value, a.toList.all bare1 = true → VRA ρ a a := fun a ha => vra_data fun v hv => bare1_vr (List.all_eq_true.1 ha v (by simpa using hv))
  unfold bare at h
  split at h
  · rename_i a
    exact .tuple _ _ (arr a h).1 (arr a h).2
  · rename_i a
    exact .agg _ _ (arr a h).1 (arr a h).2
  · exact bare1_vr h
theorem bare_agg_eq {a : Array Value} {v' : Value} {ρ : LMap} (h : a.toList.all bare1 = true) (hv : VR ρ (.agg a) v') : v' = .agg a := by
  cases hv with
  | agg _ cs' h1 h2 =>
    congr 1
    refine Array.ext h1.symm fun i hi hi' => ?_
    have := h2 i hi'
    simp only [Array.getD, hi, hi', dif_pos] at this
    exact bare1_eq (List.all_eq_true.1 h a[i] (by simp)) this
/-- arguments: things of one cell, or structs of such -/
def bareA : Value → Bool
  | .agg a => a.toList.all bare1
  | v => bare1 v
theorem bareA_eq {v v' : Value} {ρ : LMap} (h : bareA v = true) (hv : VR ρ v v') : v' = v := by
  unfold bareA at h
  split at h
  · exact bare_agg_eq h hv
  · exact bare1_eq h hv
theorem closedOrc_ok {P : Program} {n : Nat} {gs : Globs} {m k : Nat} {cs : List Closed} {orc : FuncId → Array Value → AH → Value → AH → Prop} (hmix : P.follows .mixedOrders = true) (hP : progOk P (GG n) = true) (hlt : gs.all (fun x => decide (x.1 < n)) = true)
    (hdat : ∀ x ∈ gs, ∀ v ∈ x.2, ∀ ρ ρ' v', VR ρ v v' → v' = v ∧ VR ρ' v v) (hb : (cs.all fun c => c.2.1.toList.all bareA && bare c.2.2) = true) (h : (cs.all (comesTo P n gs m k)) = true) :
    ∀ f args H v H', closedOrc gs cs f args H v H' → JOk ⟨P, GG n, orc⟩ (.call f args H v H') := by
  rintro f args H v H' ⟨hc, rfl, hg⟩ ρ B args' w hG ha hE
  have hb' := List.all_eq_true.1 hb _ hc
  simp only [Bool.and_eq_true] at hb'
  have h0 : args' = args := by
    refine Array.ext ha.1.symm (fun i hi hi' => ?_)
    have hv := ha.2 i hi'
    simp only [Array.getD, hi, hi', dif_pos] at hv
    exact bareA_eq (List.all_eq_true.1 hb'.1 args[i] (by simp)) hv
  subst h0
  have hin : GlobIn w n gs := by
    intro x hx
    have hxn : x.1 < n := of_decide_eq_true (List.all_eq_true.1 hlt x hx)
    refine ⟨hxn, fun v hv ρ' => ?_, ?_⟩
    · obtain ⟨p, hp, C, T, z, h1, h2, h3, h4, h5, h6⟩ := hE.blk _ _ (hg x hx)
      obtain ⟨i, hi⟩ := List.getElem?_of_mem hv
      obtain ⟨v', _, h7⟩ := h5 i v hi
      exact (hdat x hx v hv ρ ρ' v' h7).2
    · obtain ⟨p, hp, C, T, z, h1, h2, h3, h4, h5, h6⟩ := hE.blk _ _ (hg x hx)
      obtain ⟨q, hq, hq1, hq2⟩ := hG x.1 (by simp [GG, hxn])
      rw [hp] at hq
      cases hq
      rw [hq1] at h1
      refine ⟨C, T, z, h1, fun i v hv => ?_⟩
      obtain ⟨v', h7, h8⟩ := h5 i v hv
      rw [hq2, Nat.zero_add, (hdat x hx v (List.mem_of_getElem? hv) ρ ρ v' h8).1] at h7
      exact h7
  have hrun : ∃ H1, Run ⟨P, GG n, fun _ _ _ _ _ => False⟩ (.call f args' (HG n gs) v H1) := by
    have h1 := List.all_eq_true.1 h _ hc
    unfold comesTo at h1
    split at h1
    · rename_i v' H1 h2
      have := veqT_eq h1
      simp only at this
      subst this
      exact ⟨H1, (lev_ok (C := ⟨P, GG n, fun _ _ _ _ _ => False⟩) m k).1 _ _ _ _ _ h2⟩
    · cases h1
  obtain ⟨H1, hr⟩ := hrun
  have ha' : VRA (ρG w n) args' args' := vra_data fun v hv => by
    have := List.all_eq_true.1 hb'.1 v (by simpa using hv)
    unfold bareA at this
    split at this
    · exact bare_vr (by simpa [bare] using this)
    · exact bare1_vr this
  have := sound (C := ⟨P, GG n, fun _ _ _ _ _ => False⟩) hmix (progOk_inv hP) (fun _ _ _ _ _ h => h.elim) hr
  refine (this (ρG w n) w.heap.size args' w (globOk w n) ha' (emb_HG hin)).mono ?_
  rintro e w' ⟨v', ρ', rfl, _, hv, _, hbl⟩
  have e : v' = v := by
    have hbv := hb'.2
    cases v with
    | tuple a =>
      cases hv with
      | tuple _ cs' h1 h2 =>
        congr 1
        refine Array.ext h1.symm fun i hi hi' => ?_
        have := h2 i hi'
        simp only [Array.getD, hi, hi', dif_pos] at this
        exact bare1_eq (List.all_eq_true.1 hbv a[i] (by simp)) this
    | agg a => exact bare_agg_eq hbv hv
    | _ => exact bare1_eq hbv hv
  subst e
  exact ⟨v', ρ, rfl, LMap.le_refl _, bare_vr hb'.2, hE.below hbl, hbl.mono hE.size⟩
/-- things without an address -/
def dataV : Value → Bool
  | .int _ _ => true
  | .bool _ => true
  | .string _ => true
  | _ => false
theorem dataV_eq {v v' : Value} {ρ ρ' : LMap} (h : dataV v = true) (hv : VR ρ v v') : v' = v ∧ VR ρ' v v := by
  cases v <;> simp [dataV] at h <;> cases hv
  · exact ⟨rfl, .bool _⟩
  · exact ⟨rfl, .int _ _⟩
  · exact ⟨rfl, .string _⟩
theorem dataV_vr {v : Value} {ρ : LMap} (h : dataV v = true) : VR ρ v v := by
  cases v <;> simp [dataV] at h
  · exact .bool _
  · exact .int _ _
  · exact .string _
theorem globs_data {gs : Globs} (h : (gs.all fun x => x.2.all dataV) = true) : ∀ x ∈ gs, ∀ v ∈ x.2, ∀ ρ ρ' v', VR ρ v v' → v' = v ∧ VR ρ' v v := fun x hx v hv _ _ _ hr => dataV_eq (List.all_eq_true.1 (List.all_eq_true.1 h x hx) v hv) hr
/-- what the row's condition says of the machine's memory -/
theorem globIn_of {P : Program} {W : World} {n k : Nat} : ∀ (laid : List (String × DataW Unit)) (gs : Globs) (ps : List MemPlace), DataW.LaidVars P W laid ps →
    (∀ x ∈ gs, x.1 < n) → (∀ x ∈ gs, x.2.all dataV = true) →
    (gs.all fun x => laid.any fun y => (P.globalNamed y.1 == some x.1) && (match (P.globals[x.1]?).map (·.type) with | some t => flatT P k t | none => false) && veqL (unD k y.2) x.2) = true → GlobIn W n gs := by
  intro laid gs ps hl hn hd h x hx
  have h1 := List.all_eq_true.1 h x hx
  refine ⟨hn x hx, fun v hv ρ => dataV_vr (List.all_eq_true.1 (hd x hx) v hv), ?_⟩
  clear h hd hn
  induction laid generalizing ps with
  | nil => simp at h1
  | cons y r ih =>
    obtain ⟨nm, d⟩ := y
    obtain ⟨g, t, cs, fuel, p, q, a1, a2, a3, a4, a5, a6⟩ := hl
    rw [List.any_cons, Bool.or_eq_true] at h1
    rcases h1 with h1 | h1
    · simp only [Bool.and_eq_true, beq_iff_eq] at h1
      obtain ⟨⟨b1, b2⟩, b3⟩ := h1
      rw [a1] at b1
      cases b1
      rw [a2] at b2
      have hc := trod_unD k t _ _ _ fuel b2 a4
      have hv : cs.toList = x.2 := hc.trans (veqL_eq b3)
      simp only [World.var?, a1, Option.bind_some] at a3
      split at a3
      · rename_i C T z hb
        cases a3
        exact ⟨_, T, z, hb, fun i v hi => by rw [← hv] at hi; simpa using hi⟩
      · cases a3
    · exact ih q a5 h1
end Go.Proofs.YtikkokolmipppaaA

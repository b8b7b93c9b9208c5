/-
  A SMALL HEAP FOR A LARGE ONE (part 1: values, blocks, and what stands for what). An abstract heap has just the blocks that a call works on, each at a number of its own;
  a map tells at which block of the machine's memory each of them lies. Own text of this session: nothing of the kit is pasted here, it is imported.
-/
import Derived.RangeFuncLeaves
import Derived.RangeFuncCalls
import Derived.OrdersIn
import Derived.OwnWalkIn
import Derived.Below
import Derived.WalkKit
import Derived.KernelRfl
import Derived.Laws.Slices
import Derived.Laws.BytesString
set_option linter.unusedVariables false
set_option linter.unusedSimpArgs false
namespace Go.Proofs.YtikkokolmipppaaA
open Go Go.RowKit

/-! ### 1. Places, and what stands for what -/
/-- Where a block of the small heap lies: the machine's block, from which cell on, how many cells that block has, how many cells an element of a slice of it has. -/
structure Place where
  blk : Nat
  base : Nat
  size : Nat
  esz : Nat

abbrev LMap := Nat → Option Place
def LMap.le (ρ ρ' : LMap) : Prop := ∀ l p, ρ l = some p → ρ' l = some p
theorem LMap.le_refl (ρ : LMap) : ρ.le ρ := fun _ _ h => h
theorem LMap.le_trans {a b c : LMap} (h : a.le b) (k : b.le c) : a.le c := fun l p e => k l p (h l p e)

/-- A value of the small heap, and the machine's value that it stands for. -/
inductive VR (ρ : LMap) : Value → Value → Prop
  | bool (b : Bool) : VR ρ (.bool b) (.bool b)
  | int (k : IntKind) (n : Int) : VR ρ (.int k n) (.int k n)
  | float (k : FloatKind) (b : Nat) : VR ρ (.float k b) (.float k b)
  | string (s : ByteArray) : VR ρ (.string s) (.string s)
  | nilPtr : VR ρ (.pointer none) (.pointer none)
  | ptr (l o : Nat) (p : Place) (h : ρ l = some p) : VR ρ (.pointer (some ⟨l, o, none⟩)) (.pointer (some ⟨p.blk, p.base + o, none⟩))
  | nilSlice : VR ρ (.slice none 0 0) (.slice none 0 0)
  | slice (l o n c : Nat) (p : Place) (h : ρ l = some p) (hc : n ≤ c) (hp : p.base + o + c * p.esz ≤ p.size) :
      VR ρ (.slice (some ⟨l, o, none⟩) n n) (.slice (some ⟨p.blk, p.base + o, none⟩) n c)
  | emptySlice (l o : Nat) (a : Addr) : VR ρ (.slice (some ⟨l, o, none⟩) 0 0) (.slice (some a) 0 0)
  | nilMap : VR ρ (.map none) (.map none)
  | map (l : Nat) (p : Place) (h : ρ l = some p) : VR ρ (.map (some l)) (.map (some p.blk))
  | nilFunc : VR ρ .nilFunc .nilFunc
  | func (f : FuncId) (fs fs' cs cs' : Array Value) (h1 : fs.size = fs'.size) (h2 : ∀ i, i < fs.size → VR ρ (fs.getD i undef) (fs'.getD i undef))
      (h3 : cs.size = cs'.size) (h4 : ∀ i, i < cs.size → VR ρ (cs.getD i undef) (cs'.getD i undef)) : VR ρ (.func (.func f) fs cs) (.func (.func f) fs' cs')
  | yield (l : Nat) (p : Place) (h : ρ l = some p) : VR ρ (.func (.yield l) #[] #[]) (.func (.yield p.blk) #[] #[])
  | nilIface : VR ρ .nilIface .nilIface
  | iface (t : TypeId) (v v' : Value) (h : VR ρ v v') : VR ρ (.iface t v) (.iface t v')
  | agg (cs cs' : Array Value) (h1 : cs.size = cs'.size) (h2 : ∀ i, i < cs.size → VR ρ (cs.getD i undef) (cs'.getD i undef)) : VR ρ (.agg cs) (.agg cs')
  | tuple (cs cs' : Array Value) (h1 : cs.size = cs'.size) (h2 : ∀ i, i < cs.size → VR ρ (cs.getD i undef) (cs'.getD i undef)) : VR ρ (.tuple cs) (.tuple cs')

theorem VR.undef (ρ : LMap) : VR ρ undef undef := .tuple #[] #[] rfl (fun i h => absurd h (by simp))

theorem VR.mono {ρ ρ' : LMap} (hle : ρ.le ρ') {v v' : Value} (h : VR ρ v v') : VR ρ' v v' := by
  induction h with
  | bool b => exact .bool b
  | int k n => exact .int k n
  | float k b => exact .float k b
  | string s => exact .string s
  | nilPtr => exact .nilPtr
  | ptr l o p h => exact .ptr l o p (hle _ _ h)
  | nilSlice => exact .nilSlice
  | slice l o n c p h hc hp => exact .slice l o n c p (hle _ _ h) hc hp
  | emptySlice l o a => exact .emptySlice l o a
  | nilMap => exact .nilMap
  | map l p h => exact .map l p (hle _ _ h)
  | nilFunc => exact .nilFunc
  | func f fs fs' cs cs' h1 h2 h3 h4 ih2 ih4 => exact .func f fs fs' cs cs' h1 ih2 h3 ih4
  | yield l p h => exact .yield l p (hle _ _ h)
  | nilIface => exact .nilIface
  | iface t v v' h ih => exact .iface t v v' ih
  | agg cs cs' h1 h2 ih => exact .agg cs cs' h1 ih
  | tuple cs cs' h1 h2 ih => exact .tuple cs cs' h1 ih

/-- Rows of values, place by place. -/
def VRA (ρ : LMap) (cs cs' : Array Value) : Prop := cs.size = cs'.size ∧ ∀ i, i < cs.size → VR ρ (cs.getD i Go.undef) (cs'.getD i Go.undef)
theorem VRA.mono {ρ ρ' : LMap} (hle : ρ.le ρ') {v v' : Array Value} (h : VRA ρ v v') : VRA ρ' v v' := ⟨h.1, fun i hi => (h.2 i hi).mono hle⟩
theorem VRA.nil (ρ : LMap) : VRA ρ #[] #[] := ⟨rfl, fun i h => absurd h (by simp)⟩
theorem VRA.get {ρ : LMap} {cs cs' : Array Value} (h : VRA ρ cs cs') (i : Nat) : VR ρ (cs.getD i Go.undef) (cs'.getD i Go.undef) := by
  by_cases hi : i < cs.size
  · exact h.2 i hi
  · have hi' : ¬ i < cs'.size := by rw [← h.1]; exact hi
    simp [Array.getD, hi, hi']
    exact VR.undef ρ
theorem VRA.append {ρ : LMap} {a a' b b' : Array Value} (h : VRA ρ a a') (k : VRA ρ b b') : VRA ρ (a ++ b) (a' ++ b') := by
  refine ⟨by simp [h.1, k.1], fun i hi => ?_⟩
  simp only [Array.getD_eq_getD_getElem?, Array.getElem?_append]
  rw [← h.1]
  split
  · have := h.get i
    simpa [Array.getD_eq_getD_getElem?] using this
  · have := k.get (i - a.size)
    simpa [Array.getD_eq_getD_getElem?] using this

/-- A value in which no address is. -/
def plain1 : Value → Bool
  | .bool _ | .int _ _ | .float _ _ | .string _ | .pointer none | .nilFunc | .nilIface | .map none | .slice none _ _ => true
  | _ => false
def plain : Value → Bool
  | .agg cs => cs.all plain1
  | .tuple cs => cs.size == 0
  | v => plain1 v
theorem VR.plain1 {ρ : LMap} {v v' : Value} (h : VR ρ v v') (hp : plain1 v = true) : v' = v := by
  cases h <;> simp_all [YtikkokolmipppaaA.plain1]
theorem VR.plain {ρ : LMap} {v v' : Value} (h : VR ρ v v') (hp : plain v = true) : v' = v := by
  cases h with
  | agg cs cs' h1 h2 =>
    congr 1
    have ha : ∀ i (hi : i < cs.size), YtikkokolmipppaaA.plain1 cs[i] = true := by
      simpa [YtikkokolmipppaaA.plain, Array.all_eq_true] using hp
    refine Array.ext h1.symm (fun i hi hi' => ?_)
    have hv := h2 i hi'
    simp only [Array.getD, hi, hi', dif_pos] at hv
    exact hv.plain1 (ha i hi')
  | tuple cs cs' h1 h2 =>
    have : cs.size = 0 := by simpa [YtikkokolmipppaaA.plain] using hp
    have h0 : cs = #[] := Array.eq_empty_of_size_eq_zero this
    have h0' : cs' = #[] := Array.eq_empty_of_size_eq_zero (by omega)
    rw [h0, h0']
  | _ => first | rfl | (simp [YtikkokolmipppaaA.plain, YtikkokolmipppaaA.plain1] at hp; done) | simp_all [YtikkokolmipppaaA.plain, YtikkokolmipppaaA.plain1]

/-- A constant of the program's text. -/
def constOk : Value → Bool
  | .slice none n c => n == 0 && c == 0
  | .agg cs => cs.all fun v => plain1 v && (match v with | .slice none n c => n == 0 && c == 0 | _ => true)
  | v => plain v
theorem VR.const1 (ρ : LMap) {v : Value} (h : (YtikkokolmipppaaA.plain1 v && (match v with | .slice none n c => n == 0 && c == 0 | _ => true)) = true) : VR ρ v v := by
  cases v with
  | bool b => exact .bool b
  | int k n => exact .int k n
  | float k b => exact .float k b
  | string s => exact .string s
  | pointer a => cases a with
    | none => exact .nilPtr
    | some a => simp [YtikkokolmipppaaA.plain1] at h
  | slice a n c => cases a with
    | none =>
      simp [YtikkokolmipppaaA.plain1] at h
      obtain ⟨rfl, rfl⟩ := h
      exact .nilSlice
    | some a => simp [YtikkokolmipppaaA.plain1] at h
  | map r => cases r with
    | none => exact .nilMap
    | some r => simp [YtikkokolmipppaaA.plain1] at h
  | nilFunc => exact .nilFunc
  | nilIface => exact .nilIface
  | _ => simp [YtikkokolmipppaaA.plain1] at h
theorem VR.const (ρ : LMap) {v : Value} (h : constOk v = true) : VR ρ v v := by
  cases v with
  | agg cs =>
    refine .agg cs cs rfl (fun i hi => ?_)
    simp only [Array.getD, hi, dif_pos]
    refine VR.const1 ρ ?_
    have := Array.all_eq_true.1 h i hi
    exact this
  | slice a n c => cases a with
    | none =>
      simp [constOk] at h
      obtain ⟨rfl, rfl⟩ := h
      exact .nilSlice
    | some a => simp [constOk, YtikkokolmipppaaA.plain, YtikkokolmipppaaA.plain1] at h
  | tuple cs =>
    have : cs.size = 0 := by simpa [constOk, YtikkokolmipppaaA.plain] using h
    have h0 : cs = #[] := Array.eq_empty_of_size_eq_zero this
    subst h0
    exact VR.undef ρ
  | _ => exact VR.const1 ρ (by simpa [constOk, YtikkokolmipppaaA.plain] using h)

/-! ### 2. The small heap -/
abbrev Env := Nat → Value

inductive ABlk where
  | cells (cs : List Value) (elem : TypeId) (own : Bool) (esz : Nat)
  | loop (env : Env) (nt : Nat) (params : Array Tmp) (assign body : Code) (st : LoopState) (pending : Option Code) (dl : Nat)
  | mark
  | map (kk vk : IntKind) (es : List (Int × Int))

def ABlk.isOwn : ABlk → Bool
  | .cells _ _ own _ => own
  | _ => true

structure AH where
  next : Nat
  get : Nat → Option ABlk

def upd (g : Nat → Option ABlk) (l : Nat) (b : ABlk) : Nat → Option ABlk := fun x => if x = l then some b else g x
def del (g : Nat → Option ABlk) (l : Nat) : Nat → Option ABlk := fun x => if x = l then none else g x
theorem upd_same (g : Nat → Option ABlk) (l : Nat) (b : ABlk) : upd g l b l = some b := by simp [upd]
theorem upd_ne (g : Nat → Option ABlk) (l x : Nat) (b : ABlk) (h : x ≠ l) : upd g l b x = g x := by simp [upd, h]

def AH.new (H : AH) (b : ABlk) : AH := ⟨H.next + 1, upd H.get H.next b⟩

/-- The temporaries of an activation, and those of the machine's. -/
def EnvR (ρ : LMap) (env : Env) (nt : Nat) (tmps : Array Value) : Prop := tmps.size = nt ∧ ∀ t, VR ρ (env t) (tmps.getD t Go.undef)
theorem EnvR.mono {ρ ρ' : LMap} (hle : ρ.le ρ') {env : Env} {nt : Nat} {tmps : Array Value} (h : EnvR ρ env nt tmps) : EnvR ρ' env nt tmps := ⟨h.1, fun t => (h.2 t).mono hle⟩

/-- the entries of a map of whole numbers, none of which was taken out -/
def entL (kk vk : IntKind) : List (Int × Int) → Nat → List MapEntry
  | [], _ => []
  | x :: l, i => { key := .int kk x.1, val := .int vk x.2, born := i } :: entL kk vk l (i + 1)
/-- What a block of the small heap says of the machine's memory. -/
def BlkOk (ρ : LMap) (B : Nat) (w : World) : ABlk → Place → Prop
  | .cells cs elem own esz, p => ∃ C T z, w.heap[p.blk]? = some (.cells C T z) ∧ C.size = p.size ∧ p.base + cs.length ≤ C.size ∧ p.esz = esz ∧
      (∀ i v, cs[i]? = some v → ∃ v', C[p.base + i]? = some v' ∧ VR ρ v v') ∧ (own = true → B ≤ p.blk ∧ (z.2 = 0 ∨ C.size ≤ z.1))
  | .loop env nt ps as bd st pend dl, p => B ≤ p.blk ∧ ∃ fn tmps q, ρ dl = some q ∧
      w.heap[p.blk]? = some (.loop { state := st, pending := pend, fn := fn, tmps := tmps, params := ps, assign := as, body := bd, defers := q.blk }) ∧ EnvR ρ env nt tmps
  | .mark, p => B ≤ p.blk ∧ w.heap[p.blk]? = some (.deferred (some []))
  | .map kk vk es, p => B ≤ p.blk ∧ w.heap[p.blk]? = some (.map (entL kk vk es 0).toArray es.length)

theorem BlkOk.mono {ρ ρ' : LMap} (hle : ρ.le ρ') {B : Nat} {w : World} {b : ABlk} {p : Place} (h : BlkOk ρ B w b p) : BlkOk ρ' B w b p := by
  cases b with
  | cells cs elem own esz =>
    obtain ⟨C, T, z, h1, h2, h3, h4, h5, h6⟩ := h
    exact ⟨C, T, z, h1, h2, h3, h4, fun i v hv => let ⟨v', a, b⟩ := h5 i v hv; ⟨v', a, b.mono hle⟩, h6⟩
  | loop env nt ps as bd st pend dl =>
    obtain ⟨hB, fn, tmps, q, h1, h2, h3⟩ := h
    exact ⟨hB, fn, tmps, q, hle _ _ h1, h2, h3.mono hle⟩
  | mark => exact h
  | map kk vk es => exact h
/-- It speaks of the one block of the machine alone. -/
theorem BlkOk.of_block {ρ : LMap} {B : Nat} {w w' : World} {b : ABlk} {p : Place} (h : BlkOk ρ B w b p) (hb : w'.heap[p.blk]? = w.heap[p.blk]?) : BlkOk ρ B w' b p := by
  cases b with
  | cells cs elem own esz =>
    obtain ⟨C, T, z, h1, h2⟩ := h
    exact ⟨C, T, z, hb.trans h1, h2⟩
  | loop env nt ps as bd st pend dl =>
    obtain ⟨hB, fn, tmps, q, h1, h2, h3⟩ := h
    exact ⟨hB, fn, tmps, q, h1, hb.trans h2, h3⟩
  | mark => exact ⟨h.1, hb.trans h.2⟩
  | map kk vk es => exact ⟨h.1, hb.trans h.2⟩
theorem BlkOk.lt {ρ : LMap} {B : Nat} {w : World} {b : ABlk} {p : Place} (h : BlkOk ρ B w b p) : p.blk < w.heap.size := by
  have : ∃ o, w.heap[p.blk]? = some o := by
    cases b with
    | cells cs elem own esz => obtain ⟨C, T, z, h1, _⟩ := h; exact ⟨_, h1⟩
    | loop env nt ps as bd st pend dl => obtain ⟨hB, fn, tmps, q, h1, h2, h3⟩ := h; exact ⟨_, h2⟩
    | mark => exact ⟨_, h.2⟩
    | map kk vk es => exact ⟨_, h.2⟩
  obtain ⟨o, ho⟩ := this
  exact (Array.getElem?_eq_some_iff.1 ho).1
theorem BlkOk.own_le {ρ : LMap} {B : Nat} {w : World} {b : ABlk} {p : Place} (h : BlkOk ρ B w b p) (ho : b.isOwn = true) : B ≤ p.blk := by
  cases b with
  | cells cs elem own esz => obtain ⟨C, T, z, h1, h2, h3, h4, h5, h6⟩ := h; exact (h6 ho).1
  | loop env nt ps as bd st pend dl => exact h.1
  | mark => exact h.1
  | map kk vk es => exact h.1

/-- The small heap lies in the machine's memory. -/
structure Emb (ρ : LMap) (B : Nat) (H : AH) (w : World) : Prop where
  fresh : ∀ l, H.next ≤ l → ρ l = none
  blk : ∀ l b, H.get l = some b → ∃ p, ρ l = some p ∧ BlkOk ρ B w b p
  sep : ∀ l l' b b' p p', l ≠ l' → H.get l = some b → H.get l' = some b' → ρ l = some p → ρ l' = some p' → b.isOwn = true → p.blk ≠ p'.blk
  size : B ≤ w.heap.size

theorem Emb.lt {ρ : LMap} {B : Nat} {H : AH} {w : World} (h : Emb ρ B H w) {l : Nat} {b : ABlk} (hl : H.get l = some b) : l < H.next := by
  obtain ⟨p, hp, _⟩ := h.blk l b hl
  rcases Nat.lt_or_ge l H.next with h1 | h1
  · exact h1
  · rw [h.fresh l h1] at hp
    cases hp

/-- Nothing that was there has turned. -/
theorem Emb.below {ρ : LMap} {B : Nat} {H : AH} {w w' : World} (h : Emb ρ B H w) (hb : Below w.heap.size w w') : Emb ρ B H w' :=
  ⟨h.fresh, fun l b hl => let ⟨p, hp, hk⟩ := h.blk l b hl; ⟨p, hp, hk.of_block (hb.block _ hk.lt)⟩, h.sep, Nat.le_trans h.size hb.size⟩

/-- A smaller heap. -/
def Sub (H H' : AH) : Prop := H'.next ≤ H.next ∧ ∀ l b, H.get l = some b → H'.get l = some b
theorem Sub.refl (H : AH) : Sub H H := ⟨Nat.le_refl _, fun _ _ h => h⟩
theorem Sub.trans {a b c : AH} (h : Sub a b) (k : Sub b c) : Sub a c := ⟨Nat.le_trans k.1 h.1, fun l x e => k.2 l x (h.2 l x e)⟩
theorem Emb.sub {ρ : LMap} {B : Nat} {H H' : AH} {w : World} (h : Emb ρ B H' w) (hs : Sub H H') : Emb ρ B H w :=
  ⟨fun l hl => h.fresh l (Nat.le_trans hs.1 hl), fun l b hl => h.blk l b (hs.2 l b hl),
   fun l l' b b' p p' hne h1 h2 h3 h4 h5 => h.sep l l' b b' p p' hne (hs.2 _ _ h1) (hs.2 _ _ h2) h3 h4 h5, h.size⟩

/-- A new place. -/
def LMap.put (ρ : LMap) (l : Nat) (p : Place) : LMap := fun x => if x = l then some p else ρ x
theorem LMap.le_put {ρ : LMap} {l : Nat} {p : Place} (h : ρ l = none) : ρ.le (ρ.put l p) := by
  intro x q hx
  unfold LMap.put
  by_cases e : x = l
  · subst e; rw [h] at hx; cases hx
  · rw [if_neg e]; exact hx
theorem LMap.put_same (ρ : LMap) (l : Nat) (p : Place) : ρ.put l p l = some p := by simp [LMap.put]
theorem LMap.put_ne (ρ : LMap) (l x : Nat) (p : Place) (h : x ≠ l) : ρ.put l p x = ρ x := by simp [LMap.put, h]

/-- A block more: at a block of the machine's that no live one lies at (a new one, say). -/
theorem Emb.add {ρ : LMap} {B : Nat} {H : AH} {w : World} (h : Emb ρ B H w) (b : ABlk) (p : Place)
    (hk : BlkOk (ρ.put H.next p) B w b p) (hsep : ∀ l b' p', H.get l = some b' → ρ l = some p' → p'.blk ≠ p.blk) : Emb (ρ.put H.next p) B (H.new b) w := by
  have hn : ρ H.next = none := h.fresh _ (Nat.le_refl _)
  have hle : ρ.le (ρ.put H.next p) := LMap.le_put hn
  refine ⟨?_, ?_, ?_, h.size⟩
  · intro l hl
    have : l ≠ H.next := by simp only [AH.new] at hl; omega
    rw [LMap.put_ne _ _ _ _ this]
    exact h.fresh l (by simp only [AH.new] at hl; omega)
  · intro l b' hl
    by_cases e : l = H.next
    · subst e
      simp only [AH.new, upd_same] at hl
      cases hl
      exact ⟨p, LMap.put_same _ _ _, hk⟩
    · simp only [AH.new, upd_ne _ _ _ _ e] at hl
      obtain ⟨q, hq, hkq⟩ := h.blk l b' hl
      exact ⟨q, hle _ _ hq, hkq.mono hle⟩
  · intro l l' b1 b2 p1 p2 hne h1 h2 h3 h4 h5
    by_cases e : l = H.next
    · subst e
      have e' : l' ≠ H.next := fun x => hne x.symm
      simp only [AH.new, upd_ne _ _ _ _ e'] at h2
      rw [LMap.put_same] at h3
      rw [LMap.put_ne _ _ _ _ e'] at h4
      cases h3
      exact fun x => hsep l' b2 p2 h2 h4 x.symm
    · simp only [AH.new, upd_ne _ _ _ _ e] at h1
      rw [LMap.put_ne _ _ _ _ e] at h3
      by_cases e' : l' = H.next
      · subst e'
        rw [LMap.put_same] at h4
        cases h4
        exact hsep l b1 p1 h1 h3
      · simp only [AH.new, upd_ne _ _ _ _ e'] at h2
        rw [LMap.put_ne _ _ _ _ e'] at h4
        exact h.sep l l' b1 b2 p1 p2 hne h1 h2 h3 h4 h5

/-- A new block of the machine's. -/
theorem Emb.alloc {ρ : LMap} {B : Nat} {H : AH} {w : World} (h : Emb ρ B H w) (b : ABlk) (o : Obj) (p : Place) (hp : p.blk = w.heap.size)
    (hk : BlkOk (ρ.put H.next p) B (w.alloc o) b p) : Emb (ρ.put H.next p) B (H.new b) (w.alloc o) := by
  have hw : Emb ρ B H (w.alloc o) := h.below ((Below.refl _ _).alloc (Nat.le_refl _) o)
  refine hw.add b p hk ?_
  intro l b' p' hl hp' e
  obtain ⟨q, hq, hkq⟩ := h.blk l b' hl
  rw [hp'] at hq
  cases hq
  have := hkq.lt
  omega

/-- What one block of its own says turns, and nothing else in the machine's memory. -/
theorem Emb.turn {ρ : LMap} {B : Nat} {H : AH} {w w' : World} (h : Emb ρ B H w) {l : Nat} {b b' : ABlk} {p : Place} (hl : H.get l = some b) (hp : ρ l = some p) (ho : b.isOwn = true) (ho' : b'.isOwn = true)
    (hk : BlkOk ρ B w' b' p) (hs : w'.heap.size = w.heap.size) (hoth : ∀ k, k ≠ p.blk → w'.heap[k]? = w.heap[k]?) : Emb ρ B ⟨H.next, upd H.get l b'⟩ w' := by
  refine ⟨h.fresh, ?_, ?_, by rw [hs]; exact h.size⟩
  · intro x bx hx
    by_cases e : x = l
    · subst e
      simp only [upd_same] at hx
      cases hx
      exact ⟨p, hp, hk⟩
    · simp only [upd_ne _ _ _ _ e] at hx
      obtain ⟨q, hq, hkq⟩ := h.blk x bx hx
      exact ⟨q, hq, hkq.of_block (hoth _ (h.sep l x b bx p q (fun z => e z.symm) hl hx hp hq ho).symm)⟩
  · intro x x' b1 b2 p1 p2 hne h1 h2 h3 h4 h5
    by_cases e : x = l
    · subst e
      have e' : x' ≠ x := fun z => hne z.symm
      simp only [upd_ne _ _ _ _ e'] at h2
      exact h.sep x x' b b2 p1 p2 hne hl h2 h3 h4 ho
    · simp only [upd_ne _ _ _ _ e] at h1
      by_cases e' : x' = l
      · subst e'
        exact (h.sep x' x b b1 p2 p1 (fun z => hne z.symm) hl h1 h4 h3 ho).symm
      · simp only [upd_ne _ _ _ _ e'] at h2
        exact h.sep x x' b1 b2 p1 p2 hne h1 h2 h3 h4 h5

/-- The same with a block of the small heap taken away. -/
theorem Emb.del {ρ : LMap} {B : Nat} {H : AH} {w w' : World} (h : Emb ρ B H w) {l : Nat} {b : ABlk} {p : Place} (hl : H.get l = some b) (hp : ρ l = some p) (ho : b.isOwn = true)
    (hs : w'.heap.size = w.heap.size) (hoth : ∀ k, k ≠ p.blk → w'.heap[k]? = w.heap[k]?) : Emb ρ B ⟨H.next, YtikkokolmipppaaA.del H.get l⟩ w' := by
  refine ⟨h.fresh, ?_, ?_, by rw [hs]; exact h.size⟩
  · intro x bx hx
    by_cases e : x = l
    · subst e
      simp [YtikkokolmipppaaA.del] at hx
    · simp only [YtikkokolmipppaaA.del, if_neg e] at hx
      obtain ⟨q, hq, hkq⟩ := h.blk x bx hx
      exact ⟨q, hq, hkq.of_block (hoth _ (h.sep l x b bx p q (fun z => e z.symm) hl hx hp hq ho).symm)⟩
  · intro x x' b1 b2 p1 p2 hne h1 h2 h3 h4 h5
    have e : x ≠ l := fun z => by subst z; simp [YtikkokolmipppaaA.del] at h1
    have e' : x' ≠ l := fun z => by subst z; simp [YtikkokolmipppaaA.del] at h2
    simp only [YtikkokolmipppaaA.del, if_neg e] at h1
    simp only [YtikkokolmipppaaA.del, if_neg e'] at h2
    exact h.sep x x' b1 b2 p1 p2 hne h1 h2 h3 h4 h5

end Go.Proofs.YtikkokolmipppaaA

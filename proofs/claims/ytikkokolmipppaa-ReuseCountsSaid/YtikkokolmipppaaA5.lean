/-
  A SMALL HEAP FOR A LARGE ONE (part 5: slices of slices; len, append, copy; bytes and text). Own text of this session.
-/
import Derived.Test.YtikkokolmipppaaA4
import Derived.Laws.IdiomStrings
import Derived.MapKept
set_option linter.unusedVariables false
set_option linter.unusedSimpArgs false
namespace Go.Proofs.YtikkokolmipppaaA
open Go Go.RowKit

/-! ### 1. A slice of a slice -/
def bnd (x : Option Value) (dflt mx : Nat) : Option Nat :=
  match x with
  | none => if dflt ≤ mx then some dflt else none
  | some (.int _ i) => if 0 ≤ i ∧ i ≤ mx then some i.toNat else none
  | _ => none
def VRO (ρ : LMap) : Option Value → Option Value → Prop
  | none, none => True
  | some v, some v' => VR ρ v v'
  | _, _ => False
theorem bounds_run {P : Program} {ρ : LMap} {lo hi lo' hi' : Option Value} (hlo : VRO ρ lo lo') (hhi : VRO ρ hi hi') {n cap h l : Nat} (hc : n ≤ cap) (h1 : bnd hi n n = some h) (h2 : bnd lo 0 h = some l) (b : Bool) (w : World) :
    (Instr.sliceBounds b n cap lo' hi' none).run P w = .ok (l, h, cap) w ∧ l ≤ h ∧ h ≤ n := by
  have hh : h ≤ n := by
    unfold bnd at h1
    split at h1
    · split at h1
      · cases h1; omega
      · cases h1
    · split at h1
      · cases h1; omega
      · cases h1
    · cases h1
  have hl : l ≤ h := by
    unfold bnd at h2
    split at h2
    · split at h2
      · cases h2; omega
      · cases h2
    · split at h2
      · cases h2; omega
      · cases h2
    · cases h2
  refine ⟨?_, hl, hh⟩
  have eh : ∀ code, ((match hi' with | some v => Instr.sliceBound v cap code | none => (pure n : Sem Nat)).run P w) = .ok h w := by
    intro code
    unfold bnd at h1
    split at h1
    · cases hi' with
      | none =>
        split at h1
        · cases h1; rfl
        · cases h1
      | some v => simp [VRO] at hhi
    · rename_i k i
      cases hi' with
      | none => simp [VRO] at hhi
      | some v =>
        cases hhi
        split at h1
        · rename_i hb
          cases h1
          exact run_sliceBound w k i cap code hb.1 (by omega)
        · cases h1
    · cases h1
  have el : ∀ code, ((match lo' with | some v => Instr.sliceBound v h code | none => (pure 0 : Sem Nat)).run P w) = .ok l w := by
    intro code
    unfold bnd at h2
    split at h2
    · cases lo' with
      | none =>
        split at h2
        · cases h2; rfl
        · cases h2
      | some v => simp [VRO] at hlo
    · rename_i k i
      cases lo' with
      | none => simp [VRO] at hlo
      | some v =>
        cases hlo
        split at h2
        · rename_i hb
          cases h2
          exact run_sliceBound w k i h code hb.1 hb.2
        · cases h2
    · cases h2
  unfold Instr.sliceBounds
  simp only [Sem.run_bind, Sem.run_pure, Result.andThen_ok]
  cases hi' with
  | none =>
    have := eh .slice3B
    simp only [Sem.run_pure] at this
    cases this
    simp only [Sem.run_pure, Result.andThen_ok]
    cases lo' with
    | none => have := el .slice3B; simp only [Sem.run_pure] at this; cases this; simp
    | some v => have := el .sliceB; simp only at this; simp [this]
  | some u =>
    have hu := eh (if b = true then .sliceAcap else .sliceAlen)
    simp only at hu
    cases lo' with
    | none => have := el .slice3B; simp only [Sem.run_pure] at this; cases this; simp [hu]
    | some v => have := el .sliceB; simp only at this; simp [hu, this]

def aSlice (P : Program) (t : TypeId) (x : Value) (lo hi : Option Value) (H : AH) : Option Value :=
  match P.underlying t, x with
  | some .string, .string s => (bnd hi s.size s.size).bind fun h => (bnd lo 0 h).map fun l => .string (s.extract l h)
  | some (.slice elem), .slice (some ⟨l0, o, none⟩) n _ =>
    (bnd hi n n).bind fun h => (bnd lo 0 h).bind fun l =>
      match sz P elem with
      | some s => if n = 0 then some (.slice (some ⟨l0, o, none⟩) 0 0) else match H.get l0 with
        | some (.cells cs T own e) => if e = s then some (.slice (some ⟨l0, o + l * s, none⟩) (h - l) (h - l)) else none
        | _ => none
      | none => none
  | some (.slice elem), .slice none n _ => (bnd hi n n).bind fun h => (bnd lo 0 h).bind fun l => if n = 0 ∧ (sz P elem).isSome = true then some (.slice none 0 0) else none
  | some (.array n elem), .pointer (some ⟨l0, o, none⟩) =>
    (bnd hi n n).bind fun h => (bnd lo 0 h).bind fun l =>
      match H.get l0, sz P elem with
      | some (.cells cs T own e), some s => if e = 0 ∧ o + n * s ≤ cs.length then some (.slice (some ⟨l0, o + l * s, none⟩) (h - l) (h - l)) else none
      | _, _ => none
  | _, _ => none
theorem Emb.esz {ρ : LMap} {B : Nat} {H : AH} {w : World} (hE : Emb ρ B H w) {l : Nat} {cs : List Value} {T : TypeId} {own : Bool} {e : Nat} (h : H.get l = some (.cells cs T own e)) {p : Place} (hp : ρ l = some p) : p.esz = e ∧ p.base + cs.length ≤ p.size := by
  obtain ⟨q, hq, hk⟩ := hE.blk l _ h
  rw [hp] at hq
  cases hq
  obtain ⟨C, T', z', h1, h2, h3, h4, h5, h6⟩ := hk
  exact ⟨h4, by omega⟩
theorem aSlice_sim {P : Program} {t : TypeId} {x x' : Value} {lo hi lo' hi' : Option Value} {H : AH} {v : Value} (h : aSlice P t x lo hi H = some v) {ρ : LMap} {B : Nat} {w : World} (hx : VR ρ x x') (hlo : VRO ρ lo lo') (hhi : VRO ρ hi hi') (hE : Emb ρ B H w) :
    ∃ v', (Instr.sliceAt t x' lo' hi' none).run P w = .ok v' w ∧ VR ρ v v' := by
  unfold aSlice at h
  split at h
  · rename_i s hu
    cases hx
    cases h1 : bnd hi s.size s.size with
    | none => rw [h1] at h; cases h
    | some hh =>
      rw [h1] at h
      simp only [Option.bind_some] at h
      cases h2 : bnd lo 0 hh with
      | none => rw [h2] at h; cases h
      | some ll =>
        rw [h2] at h
        cases h
        obtain ⟨hr, _, _⟩ := bounds_run (P := P) hlo hhi (Nat.le_refl _) h1 h2 false w
        exact ⟨_, by simp [Instr.sliceAt, run_und hu, Instr.slice, hr], .string _⟩
  · rename_i elem l0 o n c hu
    cases h1 : bnd hi n n with
    | none => rw [h1] at h; cases h
    | some hh =>
      rw [h1] at h
      simp only [Option.bind_some] at h
      cases h2 : bnd lo 0 hh with
      | none => rw [h2] at h; cases h
      | some ll =>
        rw [h2] at h
        simp only [Option.bind_some] at h
        split at h
        · rename_i s hs
          split at h
          · rename_i hn0
            cases h
            obtain ⟨inf, hinf, hsz⟩ := sz_inv hs
            obtain ⟨rfl, ⟨p, c', hp, hc', hpl, rfl⟩ | ⟨_, a, rfl⟩⟩ := hx.slice_inv
            · obtain ⟨hr, hlh, hhn⟩ := bounds_run (P := P) hlo hhi hc' h1 h2 true w
              obtain rfl : hh = 0 := by omega
              obtain rfl : ll = 0 := by omega
              subst hn0
              by_cases hm : c' = 0
              · subst hm
                exact ⟨.slice (some ⟨p.blk, p.base + o, none⟩) 0 0, by simp [Instr.sliceAt, run_und hu, Instr.slice, hr, run_size hinf], .emptySlice _ _ _⟩
              · exact ⟨.slice (some ⟨p.blk, p.base + o, none⟩) 0 c', by simp [Instr.sliceAt, run_und hu, Instr.slice, hr, run_size hinf, hm, Addr.add_lit], .slice _ _ _ _ p hp (Nat.zero_le _) hpl⟩
            · obtain ⟨hr, hlh, hhn⟩ := bounds_run (P := P) hlo hhi (Nat.le_refl 0) (by subst hn0; exact h1) h2 true w
              obtain rfl : hh = 0 := by omega
              obtain rfl : ll = 0 := by omega
              exact ⟨.slice (some a) 0 0, by simp [Instr.sliceAt, run_und hu, Instr.slice, hr, run_size hinf], .emptySlice _ _ _⟩
          · split at h
            · rename_i cs T own e hg
              split at h
              · rename_i he
                cases h
                subst he
                obtain ⟨inf, hinf, hsz⟩ := sz_inv hs
                obtain ⟨rfl, ⟨p, c', hp, hc', hpl, rfl⟩ | ⟨rfl, a, rfl⟩⟩ := hx.slice_inv
                · obtain ⟨hr, hlh, hhn⟩ := bounds_run (P := P) hlo hhi hc' h1 h2 true w
                  obtain ⟨hz, _⟩ := hE.esz hg hp
                  by_cases hm : c' = ll
                  · subst hm
                    obtain rfl : hh = c' := by omega
                    refine ⟨.slice (some ⟨p.blk, p.base + o, none⟩) 0 0, by simp [Instr.sliceAt, run_und hu, Instr.slice, hr, run_size hinf], ?_⟩
                    rw [Nat.sub_self]
                    exact .emptySlice _ _ _
                  · refine ⟨.slice (some ⟨p.blk, p.base + (o + ll * e), none⟩) (hh - ll) (c' - ll), ?_, .slice _ _ _ _ p hp (by omega) ?_⟩
                    · simp [Instr.sliceAt, run_und hu, Instr.slice, hr, run_size hinf, hm, Addr.add_lit, Nat.add_assoc, hsz]
                    · rw [hz] at hpl ⊢
                      have : ll * e + (c' - ll) * e = c' * e := by rw [← Nat.add_mul, Nat.add_sub_cancel' (by omega)]
                      omega
                · obtain ⟨hr, hlh, hhn⟩ := bounds_run (P := P) hlo hhi (Nat.le_refl 0) h1 h2 true w
                  obtain rfl : hh = 0 := by omega
                  obtain rfl : ll = 0 := by omega
                  exact ⟨.slice (some a) 0 0, by simp [Instr.sliceAt, run_und hu, Instr.slice, hr, run_size hinf], .emptySlice _ _ _⟩
              · cases h
            · cases h
        · cases h
  · rename_i elem n c hu
    cases h1 : bnd hi n n with
    | none => rw [h1] at h; cases h
    | some hh =>
      rw [h1] at h
      simp only [Option.bind_some] at h
      cases h2 : bnd lo 0 hh with
      | none => rw [h2] at h; cases h
      | some ll =>
        rw [h2] at h
        simp only [Option.bind_some] at h
        split at h
        · rename_i hn
          cases h
          obtain ⟨rfl, hs⟩ := hn
          cases hx
          obtain ⟨s, hs⟩ := Option.isSome_iff_exists.1 hs
          obtain ⟨inf, hinf, rfl⟩ := sz_inv hs
          obtain ⟨hr, hlh, hhn⟩ := bounds_run (P := P) hlo hhi (Nat.le_refl 0) h1 h2 true w
          obtain rfl : hh = 0 := by omega
          obtain rfl : ll = 0 := by omega
          exact ⟨.slice none 0 0, by simp [Instr.sliceAt, run_und hu, Instr.slice, hr, run_size hinf], .nilSlice⟩
        · cases h
  · rename_i n elem l0 o hu
    cases h1 : bnd hi n n with
    | none => rw [h1] at h; cases h
    | some hh =>
      rw [h1] at h
      simp only [Option.bind_some] at h
      cases h2 : bnd lo 0 hh with
      | none => rw [h2] at h; cases h
      | some ll =>
        rw [h2] at h
        simp only [Option.bind_some] at h
        split at h
        · rename_i cs T own e s hg hs
          split at h
          · rename_i he
            cases h
            obtain ⟨rfl, hol⟩ := he
            obtain ⟨inf, hinf, hsz⟩ := sz_inv hs
            obtain ⟨p, hp, rfl⟩ := hx.ptr_inv
            obtain ⟨hz, hps⟩ := hE.esz hg hp
            obtain ⟨hr, hlh, hhn⟩ := bounds_run (P := P) hlo hhi (Nat.le_refl n) h1 h2 false w
            by_cases hm : n = ll
            · subst hm
              obtain rfl : hh = n := by omega
              refine ⟨.slice (some ⟨p.blk, p.base + o, none⟩) 0 0, by simp [Instr.sliceAt, run_und hu, Instr.sureAddr, hr, run_size hinf], ?_⟩
              rw [Nat.sub_self]
              exact .emptySlice _ _ _
            · refine ⟨.slice (some ⟨p.blk, p.base + (o + ll * s), none⟩) (hh - ll) (n - ll), ?_, .slice _ _ _ _ p hp (by omega) ?_⟩
              · simp [Instr.sliceAt, run_und hu, Instr.sureAddr, hr, run_size hinf, hm, Addr.add_lit, Nat.add_assoc, hsz]
              · rw [hz]
                have : ll * s ≤ n * s := Nat.mul_le_mul_right _ (by omega)
                omega
          · cases h
        · cases h
  · cases h

/-! ### 2. len -/
def aLen (P : Program) (t : TypeId) (x : Value) : Option Value :=
  match P.underlying t, x with
  | some .string, .string s => some (.int .i64 s.size)
  | some (.slice _), .slice _ n _ => some (.int .i64 n)
  | some (.array n _), _ => some (.int .i64 n)
  | _, _ => none
theorem aLen_sim {P : Program} {t ty : TypeId} {x x' : Value} {v : Value} (h : aLen P t x = some v) {ρ : LMap} (hx : VR ρ x x') (w : World) : (Builtin.len_ #[t] ty #[x']).run P w = .ok v w := by
  unfold aLen at h
  split at h
  · rename_i s hu
    cases hx
    cases h
    simp [Builtin.len_, run_und hu, goInt]
  · rename_i e a n c hu
    cases h
    cases hx <;> simp [Builtin.len_, run_und hu, goInt]
  · rename_i n e hu
    cases h
    simp [Builtin.len_, run_und hu, goInt]
  · cases h

/-! ### 3. append, copy -/
/-- what is appended, or copied: how many elements, and their cells -/
def srcCells (size : Nat) (x : Value) (H : AH) : Option (Nat × List Value) :=
  match x with
  | .slice none _ _ => some (0, [])
  | .slice (some ⟨l, o, none⟩) n _ => if n = 0 then some (0, []) else (H.row l o (n * size)).map fun vs => (n, vs)
  | .string s => some (s.size, s.data.toList.map fun b => .int .u8 b.toNat)
  | _ => none
theorem srcCells_sim {P : Program} {size : Nat} {x x' : Value} {H : AH} {m : Nat} {vs : List Value} (h : srcCells size x H = some (m, vs)) {ρ : LMap} {B : Nat} {w : World} (hx : VR ρ x x') (hE : Emb ρ B H w) :
    ∃ vs', (Builtin.lenOf x').run P w = .ok m w ∧ (Builtin.firstCells size m x').run P w = .ok vs'.toArray w ∧ VRL ρ vs vs' := by
  unfold srcCells at h
  split at h
  · cases h
    cases hx
    exact ⟨[], by simp [Builtin.lenOf], by simp [Builtin.firstCells], VRL.nil ρ⟩
  · rename_i l o n c
    split at h
    · rename_i h0
      subst h0
      cases h
      obtain ⟨rfl, ⟨p, c', hp, hc', hpl, rfl⟩ | ⟨_, a, rfl⟩⟩ := hx.slice_inv
      · exact ⟨[], by simp [Builtin.lenOf], by simp [Builtin.firstCells, loadCells, loadCellsFrom], VRL.nil ρ⟩
      · exact ⟨[], by simp [Builtin.lenOf], by simp [Builtin.firstCells, loadCells, loadCellsFrom], VRL.nil ρ⟩
    · rename_i h0
      cases hr : H.row l o (n * size) with
      | none => rw [hr] at h; cases h
      | some us =>
        rw [hr] at h
        cases h
        obtain ⟨rfl, ⟨p, c', hp, hc', hpl, rfl⟩ | ⟨e, a, rfl⟩⟩ := hx.slice_inv
        · obtain ⟨vs', hc, hv, hlen⟩ := row_sim hE hr hp
          refine ⟨vs', by simp [Builtin.lenOf], ?_, hv⟩
          simp only [Builtin.firstCells]
          rw [← hlen, run_loadCells hc]
        · exact absurd e h0
  · rename_i s
    cases h
    cases hx
    refine ⟨s.data.toList.map fun b => .int .u8 b.toNat, by simp [Builtin.lenOf], ?_, ?_⟩
    · simp only [Builtin.firstCells, Sem.run_pure]
      congr 1
      apply Array.ext'
      have : (s.extract 0 s.size).data = s.data := by
        rw [ByteArray.data_extract]
        exact Array.extract_size
      simp [this]
    · refine VRL.const ρ ?_
      rw [List.all_map, List.all_eq_true]
      intro b _
      rfl
  · cases h
theorem growBy_le (newLen : Nat) : ∀ (r c : Nat), c ≤ 2 * newLen + 1024 → Builtin.growBy newLen r c ≤ 2 * newLen + 1024
  | 0, c, h => h
  | r + 1, c, h => by
    unfold Builtin.growBy
    split
    · exact h
    · exact growBy_le newLen r _ (by omega)
theorem nextcap_le (need cap : Nat) (h : cap < need) : Builtin.nextslicecap need cap ≤ 2 * need + 1024 := by
  unfold Builtin.nextslicecap
  split
  · omega
  · split
    · omega
    · exact growBy_le need 4 cap (by omega)

/-- A store of several cells, seen at the machine's block alone. -/
theorem storeCells_raw (P : Program) (b o : Nat) (T : TypeId) (z : Nat × Nat) : ∀ (vs : List Value) (i : Nat) (w : World) (C : Array Value), w.heap[b]? = some (.cells C T z) → o + i + vs.length ≤ C.size → vs.all isCell = true → (z.2 = 0 ∨ C.size ≤ z.1) →
    ∃ (w' : World) (C' : Array Value), (storeCells ⟨b, o, none⟩ vs i).run P w = .ok () w' ∧ w'.heap[b]? = some (.cells C' T z) ∧ C'.size = C.size ∧ (∀ j, j < o + i → C'[j]? = C[j]?) ∧ (∀ (j : Nat) (v : Value), vs[j]? = some v → C'[o + i + j]? = some v) ∧
      (∀ k, k ≠ b → w'.heap[k]? = w.heap[k]?) ∧ w'.heap.size = w.heap.size ∧ w'.os = w.os ∧ w'.tape = w.tape ∧ w'.output = w.output := by
  intro vs
  induction vs with
  | nil =>
    intro i w C hC hb hc hz
    exact ⟨w, C, by simp [storeCells], hC, rfl, fun _ _ => rfl, fun j v h => by simp at h, fun _ _ => rfl, rfl, rfl, rfl, rfl⟩
  | cons v vs ih =>
    intro i w C hC hb hc hz
    simp at hb hc
    have hone : v.oneCell' = true := by
      have := hc.1
      cases v <;> simp_all [isCell, Value.oneCell']
    have hlt : o + i < C.size := by omega
    obtain ⟨w', C', k1, k2, k3, k4, k5, k6, k7, k8, k9, k10⟩ := ih (i + 1) (w.setCell ⟨b, o + i, none⟩ v) (C.setIfInBounds (o + i) v) (setCell_block hC _ _) (by simp; omega) (by simpa using hc.2) (by simpa using hz)
    refine ⟨w', C', ?_, k2, by simpa using k3, ?_, ?_, ?_, by simpa using k7, k8, k9, k10⟩
    · simp only [storeCells, Sem.run_bind, Addr.add_lit]
      rw [run_store P w _ _ _ hone]
      simp only [stored, cell_of_block hC, Array.getElem?_eq_getElem hlt, frozen_of_block hC hz _ hlt]
      exact k1
    · intro j hj
      rw [k4 j (by omega), Array.getElem?_setIfInBounds, if_neg (by omega)]
    · intro j u hj
      cases j with
      | zero =>
        simp at hj
        subst hj
        rw [Nat.add_zero, k4 (o + i) (by omega), Array.getElem?_setIfInBounds, if_pos rfl, if_pos hlt]
      | succ j =>
        have := k5 j u (by simpa using hj)
        rw [show o + i + (j + 1) = o + (i + 1) + j by omega]
        exact this
    · intro k hk
      rw [k6 k hk]
      exact setCell_other _ _ _ hk

def appendOk (n m bytes : Nat) : Bool := decide (n + m ≤ 4611686018427387904) && decide ((2 * (n + m) + 1024) * bytes ≤ 281474976710656)
def notIntT (P : Program) (t : TypeId) : Bool := match P.underlying t with | some (.int _) => false | some _ => true | none => false
def zok (i : TypeInfo) : Bool := match i.zero with | some z => z.cells.size == i.size | none => false
def aAppend (P : Program) (st xt : TypeId) (s x : Value) (H : AH) : Option (Value × AH) :=
  match P.underlying st with
  | some (.slice elem) =>
    match P.info? elem with
    | some i =>
      if notIntT P xt = true ∧ zok i = true then
        match srcCells i.size x H, s with
        | some (m, vs), .slice none _ _ =>
          if m = 0 then some (s, H)
          else if appendOk 0 m i.bytes = true ∧ vs.length = m * i.size then some (.slice (some ⟨H.next, 0, none⟩) m m, H.new (.cells vs elem true i.size)) else none
        | some (m, vs), .slice (some ⟨l, o, none⟩) n c =>
          if m = 0 then some (s, H)
          else match H.get l with
            | some (.cells cs T true e) =>
              if e = i.size ∧ o + n * i.size ≤ cs.length ∧ vs.length = m * i.size ∧ vs.all isCell = true ∧ appendOk n m i.bytes = true then
                some (.slice (some ⟨H.next, 0, none⟩) (n + m) (n + m), ⟨H.next + 1, upd (YtikkokolmipppaaA.del H.get l) H.next (.cells ((cs.drop o).take (n * i.size) ++ vs) elem true i.size)⟩) else none
            | _ => none
        | _, _ => none
      else none
    | none => none
  | _ => none

theorem notInt_inv {P : Program} {t : TypeId} (h : notIntT P t = true) : ∃ d, P.underlying t = some d ∧ ∀ k, d ≠ .int k := by
  unfold notIntT at h
  split at h
  · cases h
  · rename_i d hd hu
    exact ⟨d, hu, fun k e => hd k e⟩
  · cases h
theorem zok_inv {i : TypeInfo} (h : zok i = true) : ∃ z, i.zero = some z ∧ z.cells.size = i.size := by
  unfold zok at h
  split at h
  · rename_i z hz; exact ⟨z, hz, by simpa using h⟩
  · cases h
theorem zeroCells_size (zero : Array Value) (n : Nat) : (Builtin.zeroCells zero n).size = n * zero.size := by simp [Builtin.zeroCells]
/-- append where there is room -/
theorem append_room {P : Program} {w w' : World} {st xt ty elem : TypeId} {i : TypeInfo} (hu : P.underlying st = some (.slice elem)) (hi : P.info? elem = some i) (hx : notIntT P xt = true) {a : Addr} {sLen sCap m : Nat} {x : Value} {new : List Value}
    (hl : (Builtin.lenOf x).run P w = .ok m w) (hn : (Builtin.firstCells i.size m x).run P w = .ok new.toArray w) (hroom : sLen + m ≤ sCap) (hs : (storeCells (a.add (sLen * i.size)) new).run P w = .ok () w') :
    (Builtin.append_ #[st, xt] ty #[.slice (some a) sLen sCap, x]).run P w = .ok (.slice (some a) (sLen + m) sCap) w' := by
  obtain ⟨d, hx, hd⟩ := notInt_inv hx
  have hz : (match d with | .int _ => true | _ => false) = false := by cases d <;> first | rfl | exact absurd rfl (hd _)
  simp [Builtin.append_, run_und hu, run_size hi, run_und hx, hz, hl, run_info hi, hroom, hn, hs]
/-- append where nothing is appended -/
theorem append_none {P : Program} {w : World} {st xt ty elem : TypeId} {i : TypeInfo} (hu : P.underlying st = some (.slice elem)) (hi : P.info? elem = some i) (hx : notIntT P xt = true) {a : Option Addr} {sLen sCap : Nat} {x : Value} {new : List Value}
    (hl : (Builtin.lenOf x).run P w = .ok 0 w) (hn : (Builtin.firstCells i.size 0 x).run P w = .ok new.toArray w) (hnil : new = []) (hroom : sLen ≤ sCap) :
    (Builtin.append_ #[st, xt] ty #[.slice a sLen sCap, x]).run P w = .ok (.slice a sLen sCap) w := by
  obtain ⟨d, hx, hd⟩ := notInt_inv hx
  have hz : (match d with | .int _ => true | _ => false) = false := by cases d <;> first | rfl | exact absurd rfl (hd _)
  subst hnil
  cases a <;> simp [Builtin.append_, run_und hu, run_size hi, run_und hx, hz, hl, run_info hi, hroom, hn, storeCells]
/-- append where there is no room -/
theorem append_grow {P : Program} {w : World} {st xt ty elem : TypeId} {i : TypeInfo} {z : Value} (hu : P.underlying st = some (.slice elem)) (hi : P.info? elem = some i) (hz0 : i.zero = some z) (hx : notIntT P xt = true) {a : Option Addr} {sLen sCap m : Nat} {x : Value} {old new : List Value}
    (hl : (Builtin.lenOf x).run P w = .ok m w) (hn : (Builtin.firstCells i.size m x).run P w.drew = .ok new.toArray w.drew) (ho : (Builtin.firstCells i.size sLen (.slice a sLen sCap)).run P w.drew = .ok old.toArray w.drew)
    (hroom : sCap < sLen + m) (hok : appendOk sLen m i.bytes = true) :
    ∃ c, sLen + m ≤ c ∧ (Builtin.append_ #[st, xt] ty #[.slice a sLen sCap, x]).run P w =
      .ok (.slice (some ⟨w.heap.size, 0, none⟩) (sLen + m) c) (w.drew.alloc (.cells (old ++ new ++ (Builtin.zeroCells z.cells (c - (sLen + m))).toList).toArray elem)) := by
  obtain ⟨d, hx, hd⟩ := notInt_inv hx
  have hz : (match d with | .int _ => true | _ => false) = false := by cases d <;> first | rfl | exact absurd rfl (hd _)
  simp only [appendOk, Bool.and_eq_true, decide_eq_true_eq] at hok
  refine ⟨(Question.appendCap (sLen + m) sCap elem).cut (w.tape w.drawn (Question.appendCap (sLen + m) sCap elem)), by simp [Question.cut], ?_⟩
  have h1 : ¬ sLen + m ≤ sCap := by omega
  have h2 : ¬ (9223372036854775807 < (sLen : Int) + m) := by omega
  have h3 : ¬ 281474976710656 < Builtin.nextslicecap (sLen + m) sCap * i.bytes := by
    have := Nat.mul_le_mul_right i.bytes (nextcap_le (sLen + m) sCap hroom)
    omega
  have hf : (Question.appendCap (sLen + m) sCap elem).forced = false := rfl
  simp [Builtin.append_, run_und hu, run_size hi, run_und hx, hz, hl, run_info hi, h1, h2, h3, hf, ho, hn, run_zero hi hz0, newRow]
  congr 2
  apply Array.ext'
  simp

theorem VRL.length {ρ : LMap} {a b : List Value} (h : VRL ρ a b) : b.length = a.length := h.1.symm
theorem Emb.drew {ρ : LMap} {B : Nat} {H : AH} {w : World} (h : Emb ρ B H w) : Emb ρ B H w.drew := h.below ((Below.refl _ _).drew)

theorem aAppend_onto {P : Program} {st xt ty elem : TypeId} {i : TypeInfo} {z : Value} (hu : P.underlying st = some (.slice elem)) (hi : P.info? elem = some i) (hz : i.zero = some z) (hzs : z.cells.size = i.size) (hni : notIntT P xt = true)
    {s' x' : Value} {H : AH} {ρ : LMap} {B : Nat} {w : World} {m : Nat} {vs vs' vs2 : List Value} (hl : (Builtin.lenOf x').run P w = .ok m w) (hf : (Builtin.firstCells i.size m x').run P w = .ok vs'.toArray w) (hv : VRL ρ vs vs')
    (hf2 : (Builtin.firstCells i.size m x').run P w.drew = .ok vs2.toArray w.drew) (hv2 : VRL ρ vs vs2) {l o n c0 : Nat} {cs : List Value} {T : TypeId} (hg : H.get l = some (.cells cs T true i.size)) (hs : VR ρ (.slice (some ⟨l, o, none⟩) n c0) s') (hE : Emb ρ B H w)
    (hol : o + n * i.size ≤ cs.length) (hvl : vs.length = m * i.size) (hvc : vs.all isCell = true) (hok : appendOk n m i.bytes = true) (hm : ¬ m = 0) :
    OpOk P (Builtin.append_ #[st, xt] ty #[s', x']) ρ B w (.slice (some ⟨H.next, 0, none⟩) (n + m) (n + m)) ⟨H.next + 1, upd (YtikkokolmipppaaA.del H.get l) H.next (.cells ((cs.drop o).take (n * i.size) ++ vs) elem true i.size)⟩ := by
  have hsub : Sub ⟨H.next, YtikkokolmipppaaA.del H.get l⟩ H := ⟨Nat.le_refl _, fun x bx hx => by
    by_cases ex : x = l
    · subst ex; simp [YtikkokolmipppaaA.del] at hx
    · simpa [YtikkokolmipppaaA.del, ex] using hx⟩
  -- where a new row is made
  have grow : ∀ (a : Option Addr) (c' : Nat) (old' : List Value), (Builtin.firstCells i.size n (.slice a n c')).run P w.drew = .ok old'.toArray w.drew → VRL ρ ((cs.drop o).take (n * i.size)) old' → c' < n + m →
      OpOk P (Builtin.append_ #[st, xt] ty #[.slice a n c', x']) ρ B w (.slice (some ⟨H.next, 0, none⟩) (n + m) (n + m)) ⟨H.next + 1, upd (YtikkokolmipppaaA.del H.get l) H.next (.cells ((cs.drop o).take (n * i.size) ++ vs) elem true i.size)⟩ := by
    intro a c' old' hold hvo hlt
    obtain ⟨c, hcc, hrun⟩ := append_grow (ty := ty) hu hi hz hni hl hf2 hold hlt hok
    obtain ⟨k1, k2, k3, k4⟩ := newRow_sim (hE.drew.sub hsub) elem ((cs.drop o).take (n * i.size) ++ vs) (old' ++ vs2) i.size (Builtin.zeroCells z.cells (c - (n + m))).toList (hvo.append hv2) P
    have hlen : (old' ++ vs2 ++ (Builtin.zeroCells z.cells (c - (n + m))).toList).length = c * i.size := by
      have e1 : (Builtin.zeroCells z.cells (c - (n + m))).toList.length = (c - (n + m)) * i.size := by rw [Array.length_toList, zeroCells_size, hzs]
      have e2 : old'.length = n * i.size := by rw [hvo.length, List.length_take, List.length_drop]; exact Nat.min_eq_left (by omega)
      rw [List.length_append, List.length_append, e1, e2, hv2.length, hvl, ← Nat.add_mul, ← Nat.add_mul, Nat.add_sub_cancel' hcc]
    rw [hlen] at k2 k3
    exact ⟨_, _, _, hrun, VR.newSlice hcc, k3, k2, ((Below.refl B w).drew).trans k4⟩
  obtain ⟨_, ⟨p, c', hp, hc', hpl, rfl⟩ | ⟨rfl, a, rfl⟩⟩ := hs.slice_inv
  · by_cases hroom : n + m ≤ c'
    · -- in place
      obtain ⟨q, hq, hk⟩ := hE.blk l _ hg
      rw [hp] at hq
      cases hq
      obtain ⟨C, T', z', h1, h2, h3, h4, h5, h6⟩ := hk
      obtain ⟨hB, hz'⟩ := h6 rfl
      have hvc' : vs'.all isCell = true := by
        rw [List.all_eq_true]
        intro u hu
        obtain ⟨j, hj, rfl⟩ := List.getElem_of_mem hu
        have hj2 : j < vs.length := by rw [hv.1]; exact hj
        obtain ⟨u', hu', hr⟩ := hv.2 j vs[j] (List.getElem?_eq_getElem hj2)
        rw [List.getElem?_eq_getElem hj] at hu'
        cases hu'
        rw [hr.isCell]
        exact List.all_eq_true.1 hvc _ (List.getElem_mem hj2)
      have hnm : (n + m) * i.size ≤ c' * i.size := Nat.mul_le_mul_right _ hroom
      rw [Nat.add_mul] at hnm
      rw [h4] at hpl
      obtain ⟨w', C', r1, r2, r3, r4, r5, r6, r7, r8, r9, r10⟩ := storeCells_raw P p.blk (p.base + o + n * i.size) T' z' vs' 0 w C h1 (by rw [hv.length, hvl]; omega) hvc' hz'
      have hrun := append_room (ty := ty) (a := ⟨p.blk, p.base + o, none⟩) hu hi hni hl hf hroom (by rw [Addr.add_lit]; exact r1)
      have hE1 := hE.del (w' := w') hg hp rfl r7 r6
      have hE2 := hE1.add (.cells ((cs.drop o).take (n * i.size) ++ vs) elem true i.size) ⟨p.blk, p.base + o, p.size, i.size⟩ ?_ ?_
      · refine ⟨_, w', _, hrun, ?_, LMap.le_put (hE.fresh _ (Nat.le_refl _)), hE2, ⟨r8, r9, r10, by omega, fun k hk => r6 k (by omega)⟩⟩
        have := VR.slice (ρ := ρ.put H.next ⟨p.blk, p.base + o, p.size, i.size⟩) H.next 0 (n + m) c' _ (LMap.put_same _ _ _) hroom (by simpa using hpl)
        simpa using this
      · refine ⟨C', T', z', r2, by rw [r3]; exact h2, ?_, rfl, ?_, fun _ => ⟨hB, by rw [r3]; exact hz'⟩⟩
        · rw [r3, h2]
          simp [hvl]
          omega
        · intro j v hj
          have hle : ρ.le (ρ.put H.next ⟨p.blk, p.base + o, p.size, i.size⟩) := LMap.le_put (hE.fresh _ (Nat.le_refl _))
          have htl : ((cs.drop o).take (n * i.size)).length = n * i.size := by rw [List.length_take, List.length_drop]; exact Nat.min_eq_left (by omega)
          rw [List.getElem?_append, htl] at hj
          split at hj
          · rename_i hjn
            rw [List.getElem?_take, if_pos hjn, List.getElem?_drop] at hj
            obtain ⟨v', hv', hr⟩ := h5 _ v hj
            exact ⟨v', by rw [r4 _ (by simp; omega), ← hv']; congr 1; simp; omega, hr.mono hle⟩
          · rename_i hjn
            obtain ⟨v', hv', hr⟩ := hv.2 _ v hj
            refine ⟨v', ?_, hr.mono hle⟩
            rw [← r5 _ v' hv']
            congr 1
            simp
            omega
      · intro l2 b2 p2 hl2 hp2 e
        by_cases ex : l2 = l
        · subst ex; simp [YtikkokolmipppaaA.del] at hl2
        · simp only [YtikkokolmipppaaA.del, if_neg ex] at hl2
          exact hE.sep l l2 _ b2 p p2 (fun x => ex x.symm) hg hl2 hp hp2 rfl e.symm
    · have hrow : H.row l o (n * i.size) = some ((cs.drop o).take (n * i.size)) := by simp [AH.row, hg, hol]
      obtain ⟨old', hco, hvo, hlo⟩ := row_sim hE.drew hrow hp
      refine grow _ c' old' ?_ hvo (by omega)
      simp only [Builtin.firstCells]
      rw [← hlo, run_loadCells hco]
  · refine grow (some a) 0 [] (by simp [Builtin.firstCells, loadCells, loadCellsFrom]) ?_ (by omega)
    simp only [Nat.zero_mul, List.take_zero]
    exact VRL.nil ρ

theorem aAppend_sim {P : Program} {st xt ty : TypeId} {s x s' x' : Value} {H : AH} {r : Value × AH} (h : aAppend P st xt s x H = some r) {ρ : LMap} {B : Nat} {w : World} (hs : VR ρ s s') (hx : VR ρ x x') (hE : Emb ρ B H w) :
    OpOk P (Builtin.append_ #[st, xt] ty #[s', x']) ρ B w r.1 r.2 := by
  unfold aAppend at h
  split at h
  · rename_i elem hu
    split at h
    · rename_i i hi
      split at h
      · rename_i hc
        obtain ⟨hni, hzk⟩ := hc
        obtain ⟨z, hz, hzs⟩ := zok_inv hzk
        split at h
        · -- onto nil
          rename_i m vs n0 c0 hsrc
          obtain ⟨vs', hl, hf, hv⟩ := srcCells_sim (P := P) hsrc hx hE
          obtain ⟨vs2, hl2, hf2, hv2⟩ := srcCells_sim (P := P) hsrc hx hE.drew
          cases hs
          split at h
          · rename_i hm
            subst hm
            cases h
            have h0 : vs' = [] := by
              have e : (Builtin.firstCells i.size 0 x').run P w = .ok #[] w := by
                cases hx <;> simp [srcCells] at hsrc <;> simp [Builtin.firstCells, loadCells, loadCellsFrom]
              rw [e] at hf
              injection hf with hf
              have := congrArg Array.toList hf
              simpa using this.symm
            exact OpOk.pure hE (append_none hu hi hni hl hf h0 (Nat.le_refl 0)) .nilSlice
          · rename_i hm
            split at h
            · rename_i hb
              cases h
              obtain ⟨hok, hvl⟩ := hb
              obtain ⟨c, hc, hrun⟩ := append_grow (a := none) (sLen := 0) (sCap := 0) (ty := ty) hu hi hz hni (old := []) hl hf2 (by simp [Builtin.firstCells]) (by omega) hok
              simp only [Nat.zero_add, List.nil_append] at hc hrun
              obtain ⟨k1, k2, k3, k4⟩ := newRow_sim hE.drew elem vs vs2 i.size (Builtin.zeroCells z.cells (c - m)).toList hv2 P
              have hlen : (vs2 ++ (Builtin.zeroCells z.cells (c - m)).toList).length = c * i.size := by
                have e1 : (Builtin.zeroCells z.cells (c - m)).toList.length = (c - m) * i.size := by rw [Array.length_toList, zeroCells_size, hzs]
                rw [List.length_append, e1, hv2.length, hvl, ← Nat.add_mul, Nat.add_sub_cancel' hc]
              rw [hlen] at k2 k3
              exact ⟨_, _, _, hrun, VR.newSlice hc, k3, k2, ((Below.refl B w).drew).trans k4⟩
            · cases h
        · -- onto what is there
          rename_i m vs l o n c0 hsrc
          obtain ⟨vs', hl, hf, hv⟩ := srcCells_sim (P := P) hsrc hx hE
          obtain ⟨vs2, hl2, hf2, hv2⟩ := srcCells_sim (P := P) hsrc hx hE.drew
          split at h
          · rename_i hm
            subst hm
            cases h
            have h0 : vs' = [] := by
              have e : (Builtin.firstCells i.size 0 x').run P w = .ok #[] w := by
                cases hx <;> simp [srcCells] at hsrc <;> simp [Builtin.firstCells, loadCells, loadCellsFrom]
              rw [e] at hf
              injection hf with hf
              have := congrArg Array.toList hf
              simpa using this.symm
            obtain ⟨rfl, ⟨p, c', hp, hc', hpl, rfl⟩ | ⟨rfl, a, rfl⟩⟩ := hs.slice_inv
            · exact OpOk.pure hE (append_none hu hi hni hl hf h0 hc') (.slice _ _ _ _ p hp hc' hpl)
            · exact OpOk.pure hE (append_none hu hi hni hl hf h0 (Nat.le_refl 0)) (.emptySlice _ _ _)
          · rename_i hm
            split at h
            · rename_i cs T e hg
              split at h
              · rename_i hb
                obtain ⟨rfl, hol, hvl, hvc, hok⟩ := hb
                cases h
                exact aAppend_onto hu hi hz hzs hni hl hf hv hf2 hv2 hg hs hE hol hvl hvc hok hm
              · cases h
            · cases h
        · cases h
      · cases h
    · cases h
  · cases h

/-! ### 4. Bytes and text -/
def isU8 (P : Program) (e : TypeId) : Bool := match P.underlying e with | some (.int .u8) => true | _ => false
theorem isU8_inv {P : Program} {e : TypeId} (h : isU8 P e = true) : P.underlying e = some (.int .u8) := by
  unfold isU8 at h
  split at h
  · rename_i h2; exact h2
  · cases h
def byteOf : Value → Option UInt8
  | .int .u8 n => some (UInt8.ofNat n.toNat)
  | _ => none
def aConvert (P : Program) (src dst : TypeId) (x : Value) (H : AH) : Option Value :=
  match P.underlying src, P.underlying dst, x with
  | some (.slice e), some .string, .slice none _ _ => if isU8 P e = true then some (.string ByteArray.empty) else none
  | some (.slice e), some .string, .slice (some ⟨l, o, none⟩) n _ =>
    if isU8 P e = true then
      if n = 0 then some (.string ByteArray.empty) else (H.row l o n).bind fun vs => (vs.mapM byteOf).map fun bs => .string ⟨bs.toArray⟩ else none
  | _, _, _ => none
theorem byteOf_inv {v : Value} {b : UInt8} (h : byteOf v = some b) : ∃ n, v = .int .u8 n ∧ b = UInt8.ofNat n.toNat := by
  unfold byteOf at h
  split at h
  · rename_i n; cases h; exact ⟨n, rfl, rfl⟩
  · cases h
theorem mapM_byteOf : ∀ (vs : List Value) (bs : List UInt8), vs.mapM byteOf = some bs → ∃ xs : List Int, vs = xs.map (Value.int .u8) ∧ bs = xs.map fun n => UInt8.ofNat n.toNat
  | [], bs, h => by
    simp at h
    subst h
    exact ⟨[], rfl, rfl⟩
  | v :: vs, bs, h => by
    rw [List.mapM_cons] at h
    cases hv : byteOf v with
    | none => rw [hv] at h; cases h
    | some b =>
      rw [hv] at h
      cases hr : vs.mapM byteOf with
      | none => rw [hr] at h; cases h
      | some r =>
        rw [hr] at h
        cases h
        obtain ⟨n, rfl, rfl⟩ := byteOf_inv hv
        obtain ⟨xs, rfl, rfl⟩ := mapM_byteOf vs r hr
        exact ⟨n :: xs, rfl, rfl⟩
theorem aConvert_sim {P : Program} {src dst : TypeId} {x x' : Value} {H : AH} {v : Value} (h : aConvert P src dst x H = some v) {ρ : LMap} {B : Nat} {w : World} (hx : VR ρ x x') (hE : Emb ρ B H w) :
    (convert src dst x').run P w = .ok v w ∧ ∃ s, v = .string s := by
  unfold aConvert at h
  split at h
  · rename_i e n c hs hd
    split at h
    · rename_i he
      have he := isU8_inv he
      cases h
      cases hx
      exact ⟨run_convert_bytes_nil w src e hs he 0 0 dst hd, _, rfl⟩
    · cases h
  · rename_i e l o n c hs hd
    split at h
    · rename_i he
      have he := isU8_inv he
      split at h
      · rename_i h0
        cases h
        subst h0
        obtain ⟨_, ⟨p, c', hp, hc', hpl, rfl⟩ | ⟨_, a, rfl⟩⟩ := hx.slice_inv
        · exact ⟨run_convert_bytes_arg w src e hs he p.blk (p.base + o) 0 c' [] rfl (fun i hi => by omega) dst hd, _, rfl⟩
        · refine ⟨?_, _, rfl⟩
          rw [run_convert_bytes_string w src dst e _ 0 0 hs he hd]
          simp [Conv.bytesToString, loadCells, loadCellsFrom]
      · rename_i h0
        cases hr : H.row l o n with
        | none => rw [hr] at h; cases h
        | some vs =>
          rw [hr] at h
          simp only [Option.bind_some] at h
          cases hm : vs.mapM byteOf with
          | none => rw [hm] at h; cases h
          | some bs =>
            rw [hm] at h
            cases h
            obtain ⟨xs, rfl, rfl⟩ := mapM_byteOf vs bs hm
            obtain ⟨_, ⟨p, c', hp, hc', hpl, rfl⟩ | ⟨e0, a, rfl⟩⟩ := hx.slice_inv
            · obtain ⟨vs', hc, hv, hlen⟩ := row_sim hE hr hp
              have hxl : xs.length = n := by have := hv.1; simp at this; omega
              refine ⟨?_, _, rfl⟩
              have := run_convert_bytes_arg w src e hs he p.blk (p.base + o) n c' xs hxl (fun i hi => ?_) dst hd
              · rw [this]; rfl
              · have hi2 : i < xs.length := by omega
                obtain ⟨v', hv', hr'⟩ := hv.2 i (.int .u8 xs[i]) (by simp [hi2])
                cases hr'
                rw [hc i _ hv']
                simp [List.getD_eq_getElem?_getD, List.getElem?_eq_getElem hi2]
            · exact absurd e0 h0
    · cases h
  · cases h

/-! ### 5. Text as bytes; copy -/
def isStrB (s d : TypeId) : Bool := s == 9 && d != 9
def aBytes (P : Program) (src dst : TypeId) (x : Value) (H : AH) : Option (Value × AH) :=
  match P.underlying src, P.underlying dst, x with
  | some .string, some (.slice e), .string s =>
    if isU8 P e = true then some (.slice (some ⟨H.next, 0, none⟩) s.size s.size, H.new (.cells (s.data.toList.map fun b => .int .u8 (b.toNat : Int)) e true 1)) else none
  | _, _, _ => none
theorem aBytes_sim {P : Program} {src dst : TypeId} {x x' : Value} {H : AH} {r : Value × AH} (h : aBytes P src dst x H = some r) {ρ : LMap} {B : Nat} {w : World} (hx : VR ρ x x') (hE : Emb ρ B H w) :
    OpOk P (convert src dst x') ρ B w r.1 r.2 := by
  unfold aBytes at h
  split at h
  · rename_i e s hs hd
    split at h
    · rename_i he
      have he := isU8_inv he
      cases h
      cases hx
      have hrun := run_bytes_of_string (P := P) w src dst e s hs hd he
      have hc := grownCap_ge w s.size 0 e
      generalize grownCap w s.size 0 e = c at hrun hc
      have hdl : s.data.size = s.size := rfl
      have hsz : (bytesRow s c).size = c := by simp [bytesRow]; omega
      have hE' := hE.drew
      have hle : ρ.le (ρ.put H.next ⟨w.heap.size, 0, c * 1, 1⟩) := LMap.le_put (hE.fresh _ (Nat.le_refl _))
      refine ⟨_, _, ρ.put H.next ⟨w.heap.size, 0, c * 1, 1⟩, hrun, VR.newSlice hc, hle, hE'.alloc _ _ _ rfl ?_, ((Below.refl B w).drew).trans ((Below.refl B w.drew).alloc hE'.size _)⟩
      refine ⟨bytesRow s c, e, _, by show (w.heap.push _)[w.heap.size]? = _; simp; rfl, by rw [hsz, Nat.mul_one], by simp [hsz]; omega, rfl, ?_, fun _ => ⟨hE.size, .inr (Nat.le_refl _)⟩⟩
      intro i v hi
      simp only [List.getElem?_map] at hi
      cases hb : s.data.toList[i]? with
      | none => rw [hb] at hi; cases hi
      | some b =>
        rw [hb] at hi
        cases hi
        refine ⟨.int .u8 (b.toNat : Int), ?_, .int _ _⟩
        have hb' : s.data[i]? = some b := by simpa using hb
        have hlt : i < s.data.size := (Array.getElem?_eq_some_iff.1 hb').1
        simp only [bytesRow, Nat.zero_add]
        rw [Array.getElem?_append_left (by simpa using hlt), Array.getElem?_map, hb']
        rfl
    · cases h
  · cases h
def aCopy (P : Program) (dT : TypeId) (d x : Value) (H : AH) : Option (Value × AH) :=
  match P.underlying dT, d, x with
  | some (.slice elem), .slice (some ⟨l, o, none⟩) dl _, .slice (some ⟨l2, o2, none⟩) sl _ =>
    match sz P elem with
    | some s => if Nat.min sl dl = 0 then some (.int .i64 0, H) else (H.row l2 o2 (Nat.min sl dl * s)).bind fun vs => (H.wrs l o vs).map fun H' => (.int .i64 (Nat.min sl dl : Nat), H')
    | none => none
  | some (.slice elem), .slice none _ _, .slice none _ _ => if (sz P elem).isSome = true then some (.int .i64 0, H) else none
  | _, _, _ => none
theorem aCopy_sim {P : Program} {dT sT ty : TypeId} {d d' x x' : Value} {H : AH} {r : Value × AH} (h : aCopy P dT d x H = some r) {ρ : LMap} {B : Nat} {w : World} (hd : VR ρ d d') (hx : VR ρ x x') (hE : Emb ρ B H w) :
    OpOk P (Builtin.copy_ #[dT, sT] ty #[d', x']) ρ B w r.1 r.2 := by
  unfold aCopy at h
  split at h
  · rename_i elem l o dl dc l2 o2 sl sc hu
    split at h
    · rename_i s hs
      obtain ⟨i, hi, hsz⟩ := sz_inv hs
      subst hsz
      split at h
      · rename_i h0
        cases h
        refine OpOk.pure hE ?_ (.int _ _)
        obtain ⟨_, ⟨p, c', hp, hc', hpl, rfl⟩ | ⟨rfl, a, rfl⟩⟩ := hd.slice_inv <;> obtain ⟨_, ⟨p2, c2, hp2, hc2, hpl2, rfl⟩ | ⟨rfl, a2, rfl⟩⟩ := hx.slice_inv <;>
          simp [Builtin.copy_, run_und hu, Builtin.lenOf, Builtin.firstCells, run_size hi, loadCells, loadCellsFrom, storeCells, h0, goInt]
      · rename_i h0
        cases hr : H.row l2 o2 (Nat.min sl dl * i.size) with
        | none => rw [hr] at h; cases h
        | some vs =>
          rw [hr] at h
          simp only [Option.bind_some] at h
          cases hw : H.wrs l o vs with
          | none => rw [hw] at h; cases h
          | some H' =>
            rw [hw] at h
            cases h
            have hn1 : sl ≠ 0 := fun e => h0 (by rw [e]; exact Nat.zero_min _)
            have hn2 : dl ≠ 0 := fun e => h0 (by rw [e]; exact Nat.min_zero _)
            obtain ⟨_, ⟨p, c', hp, hc', hpl, rfl⟩ | ⟨e, a, rfl⟩⟩ := hd.slice_inv
            · obtain ⟨_, ⟨p2, c2, hp2, hc2, hpl2, rfl⟩ | ⟨e, a2, rfl⟩⟩ := hx.slice_inv
              · obtain ⟨vs', hc, hv, hlen⟩ := row_sim hE hr hp2
                obtain ⟨w', k1, k2, k3⟩ := wrs_sim P hE hw hp hv
                refine ⟨.int .i64 (Nat.min sl dl : Nat), w', ρ, ?_, .int _ _, LMap.le_refl _, k2, k3⟩
                have hl := run_loadCells (P := P) hc
                rw [hlen] at hl
                simp [Builtin.copy_, run_und hu, Builtin.lenOf, Builtin.firstCells, run_size hi, goInt, hl, k1]
              · exact absurd e hn1
            · exact absurd e hn2
    · cases h
  · rename_i elem n c n2 c2 hu
    split at h
    · rename_i hs
      cases h
      obtain ⟨s, hs⟩ := Option.isSome_iff_exists.1 hs
      obtain ⟨i, hi, rfl⟩ := sz_inv hs
      cases hd
      cases hx
      refine OpOk.pure hE ?_ (.int _ _)
      simp [Builtin.copy_, run_und hu, Builtin.lenOf, Builtin.firstCells, run_size hi, goInt]
    · cases h
  · cases h

/-! ### 6. Maps from whole numbers to whole numbers -/
def mfind (k : Int) : List (Int × Int) → Nat → Option (Nat × Int)
  | [], _ => none
  | x :: l, i => if k = x.1 then some (i, x.2) else mfind k l (i + 1)
def mset (k v : Int) (es : List (Int × Int)) : List (Int × Int) := match mfind k es 0 with
  | some (i, _) => es.set i (k, v)
  | none => es ++ [(k, v)]
theorem mfind_some {k : Int} : ∀ {es : List (Int × Int)} {j i : Nat} {v : Int}, mfind k es j = some (i, v) → ∃ m, i = j + m ∧ es[m]? = some (k, v)
  | [], j, i, v, h => by cases h
  | x :: l, j, i, v, h => by
    unfold mfind at h
    split at h
    · rename_i hk
      cases h
      exact ⟨0, rfl, by simp [hk]⟩
    · obtain ⟨m, h1, h2⟩ := mfind_some h
      exact ⟨m + 1, by omega, by simpa using h2⟩
theorem mfind_none {k : Int} : ∀ {es : List (Int × Int)} {j : Nat}, mfind k es j = none → ∀ x ∈ es, x.1 ≠ k
  | [], j, h, x, hx => by cases hx
  | y :: l, j, h, x, hx => by
    unfold mfind at h
    split at h
    · cases h
    · rename_i hk
      rcases List.mem_cons.1 hx with rfl | hx
      · exact fun e => hk e.symm
      · exact mfind_none h x hx
theorem entL_length (kk vk : IntKind) : ∀ (es : List (Int × Int)) (i : Nat), (entL kk vk es i).length = es.length
  | [], i => rfl
  | x :: l, i => by simp [entL, entL_length kk vk l]
theorem entL_get (kk vk : IntKind) : ∀ (es : List (Int × Int)) (i j : Nat), (entL kk vk es i)[j]? = es[j]?.map fun x => { key := .int kk x.1, val := .int vk x.2, born := i + j }
  | [], i, j => by simp [entL]
  | x :: l, i, 0 => by simp [entL]
  | x :: l, i, j + 1 => by simp [entL, entL_get kk vk l, Nat.add_assoc, Nat.add_comm 1 j]
theorem entL_app (kk vk : IntKind) (es : List (Int × Int)) (k v : Int) : entL kk vk es 0 ++ [{ key := .int kk k, val := .int vk v, born := es.length }] = entL kk vk (es ++ [(k, v)]) 0 := by
  have h : ∀ (es : List (Int × Int)) (i : Nat), entL kk vk (es ++ [(k, v)]) i = entL kk vk es i ++ [{ key := .int kk k, val := .int vk v, born := i + es.length }] := by
    intro es
    induction es with
    | nil => intro i; simp [entL]
    | cons x l ih => intro i; simp [entL, ih, Nat.add_assoc, Nat.add_comm 1]
  rw [h]
  simp
theorem entL_mod (kk vk : IntKind) (es : List (Int × Int)) {j : Nat} {k v : Int} {f : MapEntry → MapEntry} (hf : ∀ x, es[j]? = some x → f { key := .int kk x.1, val := .int vk x.2, born := j } = { key := .int kk k, val := .int vk v, born := j }) :
    (entL kk vk es 0).modify j f = entL kk vk (es.set j (k, v)) 0 := by
  apply List.ext_getElem?
  intro i
  rw [List.getElem?_modify]
  simp only [entL_get, List.getElem?_set, Nat.zero_add]
  by_cases e : j = i
  · subst e
    cases hx : es[j]? with
    | none =>
      have : ¬ j < es.length := by rw [List.getElem?_eq_none_iff] at hx; omega
      simp [this]
    | some x =>
      have : j < es.length := (List.getElem?_eq_some_iff.1 hx).1
      simp [this, hf x hx]
  · cases es[i]? <;> simp [e]
theorem entL_same (kk vk : IntKind) (es : List (Int × Int)) {j : Nat} {f : MapEntry → MapEntry} (hf : ∀ x, es[j]? = some x → f { key := .int kk x.1, val := .int vk x.2, born := j } = { key := .int kk x.1, val := .int vk x.2, born := j }) :
    (entL kk vk es 0).modify j f = entL kk vk es 0 := by
  apply List.ext_getElem?
  intro i
  rw [List.getElem?_modify]
  simp only [entL_get, Nat.zero_add]
  by_cases e : j = i
  · subst e
    cases hx : es[j]? with
    | none => simp
    | some x => simp [hf x hx]
  · cases es[i]? <;> simp [e]
theorem findNow_ents (kk vk : IntKind) (k : Int) : ∀ (es : List (Int × Int)) (i j : Nat), Instr.findNow (.int kk) (.int kk k) (entL kk vk es i) j = some ((mfind k es j).map fun x => (x.1, .int vk x.2))
  | [], i, j => by simp [entL, Instr.findNow, mfind]
  | x :: l, i, j => by
    by_cases h : k = x.1
    · simp [entL, Instr.findNow, mfind, Instr.sameNow, h]
    · have hb : (k == x.1) = false := by simpa using h
      simp [entL, Instr.findNow, mfind, Instr.sameNow, h, hb, findNow_ents kk vk k l]
def mapKinds (P : Program) (t : TypeId) : Option (IntKind × IntKind) := match P.underlying t with
  | some (.map k e) => match P.underlying k, (P.info? e).bind (·.zero) with
    | some (.int kk), some (.int vk z) => if z = 0 then some (kk, vk) else none
    | _, _ => none
  | _ => none
theorem mapKinds_inv {P : Program} {t : TypeId} {kk vk : IntKind} (h : mapKinds P t = some (kk, vk)) : ∃ k e i, P.underlying t = some (.map k e) ∧ P.underlying k = some (.int kk) ∧ P.info? e = some i ∧ i.zero = some (.int vk 0) := by
  unfold mapKinds at h
  split at h
  · rename_i k e hu
    split at h
    · rename_i kk' vk' z hk hz
      split at h
      · rename_i h0
        cases h
        subst h0
        cases hi : P.info? e with
        | none => rw [hi] at hz; cases hz
        | some i => rw [hi] at hz; exact ⟨k, e, i, hu, hk, hi, by simpa using hz⟩
      · cases h
    · cases h
  · cases h
def lkV (vk : IntKind) (ok : Bool) (r : Option (Nat × Int)) : Value := if ok then .tuple #[.int vk ((r.map (·.2)).getD 0), .bool r.isSome] else .int vk ((r.map (·.2)).getD 0)
theorem vr_lkV {ρ : LMap} (vk : IntKind) (ok : Bool) (r : Option (Nat × Int)) : VR ρ (lkV vk ok r) (lkV vk ok r) := by
  unfold lkV
  cases ok with
  | false => exact .int _ _
  | true =>
    refine .tuple _ _ rfl (fun i hi => ?_)
    rcases (by simp at hi; omega : i = 0 ∨ i = 1) with rfl | rfl
    · exact .int _ _
    · exact .bool _
def aMakeMap (P : Program) (t : TypeId) (H : AH) : Option (Value × AH) := (mapKinds P t).map fun x => (.map (some H.next), H.new (.map x.1 x.2 []))
def aLookup (P : Program) (t : TypeId) (x k : Value) (ok : Bool) (H : AH) : Option Value :=
  match mapKinds P t, x, k with
  | some (kk, vk), .map (some l), .int k' a => match H.get l with
    | some (.map kk' vk' es) => if k' = kk ∧ kk' = kk ∧ vk' = vk then some (lkV vk ok (mfind a es 0)) else none
    | _ => none
  | some (kk, vk), .map none, .int k' a => if k' = kk then some (lkV vk ok none) else none
  | _, _, _ => none
def aMapUpdate (P : Program) (t : TypeId) (x k v : Value) (H : AH) : Option AH :=
  match mapKinds P t, x, k, v with
  | some (kk, vk), .map (some l), .int k' a, .int v' b => match H.get l with
    | some (.map kk' vk' es) => if k' = kk ∧ v' = vk ∧ kk' = kk ∧ vk' = vk then some ⟨H.next, upd H.get l (.map kk vk (mset a b es))⟩ else none
    | _ => none
  | _, _, _, _ => none
def aMapEntry (P : Program) (t : TypeId) (x k : Value) (H : AH) : Option (Value × AH) :=
  match mapKinds P t, x, k with
  | some (kk, vk), .map (some l), .int k' a => match H.get l with
    | some (.map kk' vk' es) => if k' = kk ∧ kk' = kk ∧ vk' = vk then (match mfind a es 0 with
        | some (i, v) => some (.tuple #[.int vk v, .int .i64 (i : Nat)], H)
        | none => some (.tuple #[.int vk 0, .int .i64 (es.length : Nat)], ⟨H.next, upd H.get l (.map kk vk (es ++ [(a, 0)]))⟩)) else none
    | _ => none
  | _, _, _ => none
def aEntryStore (x s v : Value) (H : AH) : Option AH :=
  match x, s, v with
  | .map (some l), .int .i64 j, .int v' b => match H.get l with
    | some (.map kk vk es) => if v' = vk ∧ 0 ≤ j ∧ j.toNat < es.length then (es[j.toNat]?).map fun e => ⟨H.next, upd H.get l (.map kk vk (es.set j.toNat (e.1, b)))⟩ else none
    | _ => none
  | _, _, _ => none
theorem VR.map_inv {ρ : LMap} {l : Nat} {v' : Value} (h : VR ρ (.map (some l)) v') : ∃ p, ρ l = some p ∧ v' = .map (some p.blk) := by
  cases h with
  | map l p h => exact ⟨p, h, rfl⟩
theorem map_obj {ρ : LMap} {B : Nat} {H : AH} {w : World} (hE : Emb ρ B H w) {l : Nat} {kk vk : IntKind} {es : List (Int × Int)} (h : H.get l = some (.map kk vk es)) {p : Place} (hp : ρ l = some p) :
    B ≤ p.blk ∧ w.heap[p.blk]? = some (.map (entL kk vk es 0).toArray es.length) := by
  obtain ⟨q, hq, hk⟩ := hE.blk l _ h
  rw [hp] at hq
  cases hq
  exact hk
theorem map_turn {ρ : LMap} {B : Nat} {H : AH} {w : World} (hE : Emb ρ B H w) {l : Nat} {kk vk : IntKind} {es es' : List (Int × Int)} (h : H.get l = some (.map kk vk es)) {p : Place} (hp : ρ l = some p) :
    Emb ρ B ⟨H.next, upd H.get l (.map kk vk es')⟩ { w with heap := w.heap.setIfInBounds p.blk (.map (entL kk vk es' 0).toArray es'.length) } ∧ Below B w { w with heap := w.heap.setIfInBounds p.blk (.map (entL kk vk es' 0).toArray es'.length) } := by
  obtain ⟨hB, ho⟩ := map_obj hE h hp
  obtain ⟨h1, h2⟩ := Go.MapKept.heap_set (o' := .map (entL kk vk es' 0).toArray es'.length) ho
  refine ⟨hE.turn h hp rfl rfl ⟨hB, h1⟩ (by simp) h2, ⟨rfl, rfl, rfl, by simp, fun k hk => h2 k (by omega)⟩⟩
theorem aMakeMap_sim {P : Program} {t : TypeId} {H : AH} {r : Value × AH} (h : aMakeMap P t H = some r) {ρ : LMap} {B : Nat} {w : World} (hE : Emb ρ B H w) : OpOk P (Instr.makeMap t none) ρ B w r.1 r.2 := by
  unfold aMakeMap at h
  cases hk : mapKinds P t with
  | none => rw [hk] at h; cases h
  | some x =>
    rw [hk] at h
    cases h
    refine ⟨.map (some w.heap.size), w.alloc (.map #[] 0), ρ.put H.next ⟨w.heap.size, 0, 0, 0⟩, by simp [Instr.makeMap, newObj, Sem.run], ?_, LMap.le_put (hE.fresh _ (Nat.le_refl _)), hE.alloc _ _ _ rfl ⟨hE.size, World.alloc_heap_new _ _⟩, (Below.refl _ _).alloc hE.size _⟩
    exact .map _ ⟨w.heap.size, 0, 0, 0⟩ (LMap.put_same _ _ _)
theorem aLookup_sim {P : Program} {t : TypeId} {x x' k k' : Value} {ok : Bool} {H : AH} {v : Value} (h : aLookup P t x k ok H = some v) {ρ : LMap} {B : Nat} {w : World} (hx : VR ρ x x') (hk : VR ρ k k') (hE : Emb ρ B H w) :
    (Instr.lookup t x' k' ok).run P w = .ok v w ∧ VR ρ v v := by
  unfold aLookup at h
  split at h
  · rename_i kk vk l kk0 a hm
    obtain ⟨kt, et, i, hu, huk, hi, hz⟩ := mapKinds_inv hm
    cases hk
    obtain ⟨p, hp, rfl⟩ := hx.map_inv
    split at h
    · rename_i kk' vk' es hg
      split at h
      · rename_i hc
        obtain ⟨rfl, rfl, rfl⟩ := hc
        cases h
        obtain ⟨hB, ho⟩ := map_obj hE hg hp
        refine ⟨?_, vr_lkV _ _ _⟩
        have hf := findNow_ents kk' vk' a es 0 0
        have hck := fun em => Go.MapKept.run_checkKey (P := P) (w := w) huk (k := .int kk' a) (by rfl) em 9999
        have hfk := Go.MapKept.run_findKey (w := w) huk hf
        cases hmf : mfind a es 0 with
        | none =>
          rw [hmf] at hfk
          simp [Instr.lookup, run_und hu, Go.MapKept.run_getObj_map ho, hck, hfk, run_zero hi hz, lkV]
        | some y =>
          rw [hmf] at hfk
          simp [Instr.lookup, run_und hu, Go.MapKept.run_getObj_map ho, hck, hfk, lkV]
      · cases h
    · cases h
  · rename_i kk vk kk0 a hm
    obtain ⟨kt, et, i, hu, huk, hi, hz⟩ := mapKinds_inv hm
    cases hk
    split at h
    · rename_i hc
      subst hc
      cases h
      cases hx
      refine ⟨?_, vr_lkV _ _ _⟩
      have hck := fun em => Go.MapKept.run_checkKey (P := P) (w := w) huk (k := .int kk0 a) (by rfl) em 9999
      have hfk := Go.MapKept.run_findKey (w := w) (k := .int kk0 a) (l := []) (a := none) huk rfl
      simp [Instr.lookup, run_und hu, hck, hfk, run_zero hi hz, lkV]
    · cases h
  · cases h
theorem keyStays {P : Program} (kk : IntKind) (a : Int) (w : World) : (Instr.keyThatStays (.int kk a) (.int kk a)).run P w = .ok (.int kk a) w := by
  have h : ∀ n, Instr.sameBits n (.int kk a) (.int kk a) = true := fun n => by cases n <;> simp [Instr.sameBits]
  simp [Instr.keyThatStays, h]
theorem aMapUpdate_sim {P : Program} {t : TypeId} {x x' k k' v v' : Value} {H H' : AH} (h : aMapUpdate P t x k v H = some H') {ρ : LMap} {B : Nat} {w : World} (hx : VR ρ x x') (hk : VR ρ k k') (hv : VR ρ v v') (hE : Emb ρ B H w) :
    ∃ w', (Instr.mapUpdate t x' k' v').run P w = .ok () w' ∧ Emb ρ B H' w' ∧ Below B w w' := by
  unfold aMapUpdate at h
  split at h
  · rename_i kk vk l kk0 a vk0 b hm
    obtain ⟨kt, et, i, hu, huk, hi, hz⟩ := mapKinds_inv hm
    cases hk
    cases hv
    obtain ⟨p, hp, rfl⟩ := hx.map_inv
    split at h
    · rename_i kk' vk' es hg
      split at h
      · rename_i hc
        obtain ⟨rfl, rfl, rfl, rfl⟩ := hc
        cases h
        obtain ⟨hB, ho⟩ := map_obj hE hg hp
        obtain ⟨t1, t2⟩ := map_turn (es' := mset a b es) hE hg hp
        refine ⟨_, ?_, t1, t2⟩
        have hf := findNow_ents kk' vk' a es 0 0
        have hck := fun em => Go.MapKept.run_checkKey (P := P) (w := w) huk (k := .int kk' a) (by rfl) em 9999
        have hfk := Go.MapKept.run_findKey (w := w) huk hf
        cases hmf : mfind a es 0 with
        | none =>
          rw [hmf] at hfk
          have hms : mset a b es = es ++ [(a, b)] := by simp only [mset, hmf]
          rw [hms]
          have happ := entL_app kk' vk' es a b
          simp [Instr.mapUpdate, run_und hu, Go.MapKept.run_getObj_map ho, hck, hfk]
          rw [Go.MapKept.run_setObj_map _ ho, happ]
        | some y =>
          obtain ⟨j, u⟩ := y
          rw [hmf] at hfk
          obtain ⟨m, h1, h2⟩ := mfind_some hmf
          obtain rfl : j = m := by omega
          have hms : mset a b es = es.set j (a, b) := by simp only [mset, hmf]
          rw [hms]
          have hkj : ((entL kk' vk' es 0).toArray[j]?) = some { key := .int kk' a, val := .int vk' u, born := j } := by
            rw [List.getElem?_toArray, entL_get, h2]
            simp
          have hmod := entL_mod kk' vk' es (j := j) (k := a) (v := b) (f := fun e => { e with key := .int kk' a, val := .int vk' b }) (fun x hx => by simp)
          simp only [List.getElem?_toArray] at hkj
          simp [Instr.mapUpdate, run_und hu, Go.MapKept.run_getObj_map ho, hck, hfk, hkj, keyStays]
          rw [Go.MapKept.run_setObj_map _ ho, hmod]
      · cases h
    · cases h
  · cases h
theorem aMapEntry_sim {P : Program} {t : TypeId} {x x' k k' : Value} {H : AH} {r : Value × AH} (h : aMapEntry P t x k H = some r) {ρ : LMap} {B : Nat} {w : World} (hx : VR ρ x x') (hk : VR ρ k k') (hE : Emb ρ B H w) :
    OpOk P (Instr.mapEntry t x' k') ρ B w r.1 r.2 := by
  have vt : ∀ (vk : IntKind) (v : Int) (i : Int), VR ρ (.tuple #[.int vk v, .int .i64 i]) (.tuple #[.int vk v, .int .i64 i]) := fun vk v i => by
    refine .tuple _ _ rfl (fun i hi => ?_)
    rcases (by simp at hi; omega : i = 0 ∨ i = 1) with rfl | rfl
    · exact .int _ _
    · exact .int _ _
  unfold aMapEntry at h
  split at h
  · rename_i kk vk l kk0 a hm
    obtain ⟨kt, et, i, hu, huk, hi, hz⟩ := mapKinds_inv hm
    cases hk
    obtain ⟨p, hp, rfl⟩ := hx.map_inv
    split at h
    · rename_i kk' vk' es hg
      split at h
      · rename_i hc
        obtain ⟨rfl, rfl, rfl⟩ := hc
        obtain ⟨hB, ho⟩ := map_obj hE hg hp
        have hf := findNow_ents kk' vk' a es 0 0
        have hck := fun em => Go.MapKept.run_checkKey (P := P) (w := w) huk (k := .int kk' a) (by rfl) em 9999
        have hfk := Go.MapKept.run_findKey (w := w) huk hf
        split at h
        · rename_i j u hmf
          cases h
          rw [hmf] at hfk
          obtain ⟨m, h1, h2⟩ := mfind_some hmf
          obtain rfl : j = m := by omega
          obtain ⟨t1, t2⟩ := map_turn (es' := es) hE hg hp
          have hupd : (⟨H.next, upd H.get l (.map kk' vk' es)⟩ : AH) = H := by
            cases H with
            | mk n g =>
              simp only [AH.mk.injEq, true_and]
              funext z
              by_cases e : z = l
              · subst e; rw [upd_same]; exact hg.symm
              · rw [upd_ne _ _ _ _ e]
          rw [hupd] at t1
          have hkj : ((entL kk' vk' es 0).toArray[j]?) = some { key := .int kk' a, val := .int vk' u, born := j } := by
            rw [List.getElem?_toArray, entL_get, h2]
            simp
          have hmod := entL_same kk' vk' es (j := j) (f := fun e => { e with key := .int kk' a }) (fun x hx => by rw [h2] at hx; cases hx; rfl)
          simp only [List.getElem?_toArray] at hkj
          refine ⟨.tuple #[.int vk' u, .int .i64 (j : Nat)], _, ρ, ?_, vt _ _ _, LMap.le_refl _, t1, t2⟩
          simp [Instr.mapEntry, run_und hu, Go.MapKept.run_getObj_map ho, hck, hfk, hkj, keyStays, goInt]
          rw [Go.MapKept.run_setObj_map _ ho, hmod]
          simp
        · rename_i hmf
          cases h
          rw [hmf] at hfk
          obtain ⟨t1, t2⟩ := map_turn (es' := es ++ [(a, 0)]) hE hg hp
          have happ := entL_app kk' vk' es a 0
          refine ⟨.tuple #[.int vk' 0, .int .i64 (es.length : Nat)], _, ρ, ?_, vt _ _ _, LMap.le_refl _, t1, t2⟩
          simp [Instr.mapEntry, run_und hu, Go.MapKept.run_getObj_map ho, hck, hfk, run_zero hi hz, goInt]
          rw [Go.MapKept.run_setObj_map _ ho, happ]
          simp
      · cases h
    · cases h
  · cases h
theorem findBorn (kk vk : IntKind) : ∀ (es : List (Int × Int)) (i j : Nat), j < es.length → (entL kk vk es i).findIdx? (fun e => (e.born : Int) == ((i + j : Nat) : Int)) = some j
  | [], i, j, h => by simp at h
  | x :: l, i, 0, h => by simp [entL, List.findIdx?_cons]
  | x :: l, i, j + 1, h => by
    have hne : ((i : Int) == ((i + (j + 1) : Nat) : Int)) = false := by simp; omega
    have ih := findBorn kk vk l (i + 1) j (by simpa using h)
    rw [show i + 1 + j = i + (j + 1) by omega] at ih
    simp only [entL, List.findIdx?_cons, hne, ih]
    simp
theorem aEntryStore_sim {P : Program} {t : TypeId} {x x' s s' v v' : Value} {H H' : AH} (h : aEntryStore x s v H = some H') {ρ : LMap} {B : Nat} {w : World} (hx : VR ρ x x') (hs : VR ρ s s') (hv : VR ρ v v') (hE : Emb ρ B H w) :
    ∃ w', (Instr.entryStore t x' s' v').run P w = .ok () w' ∧ Emb ρ B H' w' ∧ Below B w w' := by
  unfold aEntryStore at h
  split at h
  · rename_i l j vk0 b
    cases hs
    cases hv
    obtain ⟨p, hp, rfl⟩ := hx.map_inv
    split at h
    · rename_i kk vk es hg
      split at h
      · rename_i hc
        obtain ⟨rfl, h0, hlt⟩ := hc
        rw [List.getElem?_eq_getElem hlt] at h
        cases h
        obtain ⟨hB, ho⟩ := map_obj hE hg hp
        obtain ⟨t1, t2⟩ := map_turn (es' := es.set j.toNat (es[j.toNat].1, b)) hE hg hp
        refine ⟨_, ?_, t1, t2⟩
        have hfb := findBorn kk vk0 es 0 j.toNat hlt
        rw [Nat.zero_add, Int.toNat_of_nonneg h0] at hfb
        have hmod := entL_mod kk vk0 es (j := j.toNat) (k := es[j.toNat].1) (v := b) (f := fun e => { e with val := .int vk0 b }) (fun x hx => by rw [List.getElem?_eq_getElem hlt] at hx; cases hx; rfl)
        simp [Instr.entryStore, Go.MapKept.run_getObj_map ho, asInt, asIntOf, hfb]
        rw [Go.MapKept.run_setObj_map _ ho, hmod]
      · cases h
    · cases h
  · cases h

/-! len, also of maps: of which types, the seat says -/
def mapTs : List Nat := [34]
def aLenH (P : Program) (t : TypeId) (x : Value) (H : AH) : Option Value :=
  match aLen P t x with
  | some v => some v
  | none => if mapTs.contains t = true then (match P.underlying t, x with
    | some (.map _ _), .map (some l) => match H.get l with
      | some (.map _ _ es) => some (.int .i64 (es.length : Nat))
      | _ => none
    | _, _ => none) else none
theorem aLenH_some {P : Program} {t : TypeId} {x v : Value} {H : AH} (h : aLen P t x = some v) : aLenH P t x H = some v := by simp [aLenH, h]
theorem aLenH_off {P : Program} {t : TypeId} {x : Value} (h : mapTs.contains t = false) (H H2 : AH) : aLenH P t x H = aLenH P t x H2 := by
  unfold aLenH
  rw [h]
  rfl
theorem aLenH_sim {P : Program} {t ty : TypeId} {x x' : Value} {v : Value} {H : AH} (h : aLenH P t x H = some v) {ρ : LMap} {B : Nat} {w : World} (hE : Emb ρ B H w) (hx : VR ρ x x') : (Builtin.len_ #[t] ty #[x']).run P w = .ok v w := by
  unfold aLenH at h
  cases hl : aLen P t x with
  | some u =>
    rw [hl] at h
    cases h
    exact aLen_sim hl hx w
  | none =>
    rw [hl] at h
    simp only at h
    split at h
    · split at h
      · rename_i k e l hu
        obtain ⟨p, hp, rfl⟩ := hx.map_inv
        split at h
        · rename_i kk vk es hg
          cases h
          obtain ⟨hB, ho⟩ := map_obj hE hg hp
          simp [Builtin.len_, run_und hu, Go.MapKept.run_getObj_map ho, goInt, entL_length]
        · cases h
      · cases h
    · cases h
theorem aLenH_int {P : Program} {t : TypeId} {x v : Value} {H : AH} (h : aLenH P t x H = some v) : ∃ n, v = .int .i64 n := by
  unfold aLenH at h
  cases hl : aLen P t x with
  | some u =>
    rw [hl] at h
    cases h
    unfold aLen at hl
    split at hl <;> cases hl <;> exact ⟨_, rfl⟩
  | none =>
    rw [hl] at h
    simp only at h
    split at h
    · split at h
      · split at h
        · cases h; exact ⟨_, rfl⟩
        · cases h
      · cases h
    · cases h
end Go.Proofs.YtikkokolmipppaaA

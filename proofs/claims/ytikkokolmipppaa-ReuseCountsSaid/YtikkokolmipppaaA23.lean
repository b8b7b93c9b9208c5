/-
  A SMALL HEAP FOR A LARGE ONE (part 23: what the operations on maps come to). Own text of this session.
-/
import Derived.Test.YtikkokolmipppaaA17
set_option linter.unusedVariables false
set_option linter.unusedSimpArgs false
namespace Go.Proofs.YtikkokolmipppaaA
open Go Go.RowKit
variable {P : Program} {t : TypeId} {kk vk : IntKind} {H : AH} {l : Nat} {es : List (Int × Int)}
theorem aMakeMap_of (hk : mapKinds P t = some (kk, vk)) : aMakeMap P t H = some (.map (some H.next), H.new (.map kk vk [])) := by simp [aMakeMap, hk]
theorem aLookup_of (hk : mapKinds P t = some (kk, vk)) (hm : H.get l = some (.map kk vk es)) (a : Int) (ok : Bool) : aLookup P t (.map (some l)) (.int kk a) ok H = some (lkV vk ok (mfind a es 0)) := by simp [aLookup, hk, hm]
theorem aMapUpdate_of (hk : mapKinds P t = some (kk, vk)) (hm : H.get l = some (.map kk vk es)) (a b : Int) : aMapUpdate P t (.map (some l)) (.int kk a) (.int vk b) H = some ⟨H.next, upd H.get l (.map kk vk (mset a b es))⟩ := by simp [aMapUpdate, hk, hm]
theorem aMapEntry_old (hk : mapKinds P t = some (kk, vk)) (hm : H.get l = some (.map kk vk es)) {a : Int} {i : Nat} {v : Int} (hf : mfind a es 0 = some (i, v)) : aMapEntry P t (.map (some l)) (.int kk a) H = some (.tuple #[.int vk v, .int .i64 (i : Nat)], H) := by simp [aMapEntry, hk, hm, hf]
theorem aMapEntry_new (hk : mapKinds P t = some (kk, vk)) (hm : H.get l = some (.map kk vk es)) {a : Int} (hf : mfind a es 0 = none) : aMapEntry P t (.map (some l)) (.int kk a) H = some (.tuple #[.int vk 0, .int .i64 (es.length : Nat)], ⟨H.next, upd H.get l (.map kk vk (es ++ [(a, 0)]))⟩) := by simp [aMapEntry, hk, hm, hf]
theorem aEntryStore_of (hm : H.get l = some (.map kk vk es)) {i : Nat} {e : Int × Int} (hi : es[i]? = some e) (b : Int) : aEntryStore (.map (some l)) (.int .i64 (i : Nat)) (.int vk b) H = some ⟨H.next, upd H.get l (.map kk vk (es.set i (e.1, b)))⟩ := by
  have hlt : i < es.length := (List.getElem?_eq_some_iff.1 hi).1
  simp [aEntryStore, hm, hlt]
  rw [List.getElem?_eq_getElem hlt] at hi
  cases hi
  rfl
/-! what a map says of a key -/
def mget (es : List (Int × Int)) (k : Int) : Option Int := (mfind k es 0).map (·.2)
theorem mfind_shift (k : Int) : ∀ (es : List (Int × Int)) (i j : Nat), mfind k es (i + j) = (mfind k es i).map fun x => (x.1 + j, x.2)
  | [], i, j => rfl
  | x :: l, i, j => by
    unfold mfind
    split
    · rfl
    · rw [show i + j + 1 = (i + 1) + j by omega]
      exact mfind_shift k l (i + 1) j
theorem mget_cons (x : Int × Int) (l : List (Int × Int)) (k : Int) : mget (x :: l) k = if k = x.1 then some x.2 else mget l k := by
  unfold mget
  simp only [mfind]
  split
  · rfl
  · rw [show 0 + 1 = 0 + 1 from rfl, mfind_shift k l 0 1]
    cases mfind k l 0 <;> rfl
theorem mget_nil (k : Int) : mget [] k = none := rfl
theorem mget_app (es : List (Int × Int)) (a b k : Int) : mget (es ++ [(a, b)]) k = match mget es k with | some v => some v | none => if k = a then some b else none := by
  induction es with
  | nil => rw [List.nil_append, mget_cons, mget_nil]
  | cons x l ih =>
    rw [List.cons_append, mget_cons, mget_cons, ih]
    split <;> rfl
theorem mget_set : ∀ (es : List (Int × Int)) (i : Nat) (a u b k : Int), mfind a es 0 = some (i, u) → mget (es.set i (a, b)) k = if k = a then some b else mget es k
  | [], i, a, u, b, k, h => by cases h
  | x :: l, i, a, u, b, k, h => by
    unfold mfind at h
    split at h
    · rename_i hx
      cases h
      rw [List.set_cons_zero, mget_cons, mget_cons]
      subst hx
      by_cases hk : k = x.1
      · simp [hk]
      · simp [hk]
    · rename_i hx
      rw [mfind_shift a l 0 1] at h
      cases hf : mfind a l 0 with
      | none => rw [hf] at h; cases h
      | some y =>
        rw [hf] at h
        cases h
        rw [List.set_cons_succ, mget_cons, mget_cons, mget_set l y.1 a y.2 b k hf]
        by_cases hk : k = a
        · subst hk
          simp [hx]
        · simp [hk]
theorem mget_mset (es : List (Int × Int)) (a b k : Int) : mget (mset a b es) k = if k = a then some b else mget es k := by
  unfold mset
  cases hf : mfind a es 0 with
  | some y => exact mget_set es y.1 a y.2 b k hf
  | none =>
    simp only
    rw [mget_app]
    have h0 : mget es a = none := by unfold mget; rw [hf]; rfl
    by_cases hk : k = a
    · subst hk
      rw [h0]
    · cases mget es k <;> simp [hk]
theorem lkV_eq (es : List (Int × Int)) (a : Int) (ok : Bool) : lkV vk ok (mfind a es 0) = if ok then .tuple #[.int vk ((mget es a).getD 0), .bool (mget es a).isSome] else .int vk ((mget es a).getD 0) := by
  unfold lkV mget
  cases mfind a es 0 <;> cases ok <;> rfl
end Go.Proofs.YtikkokolmipppaaA

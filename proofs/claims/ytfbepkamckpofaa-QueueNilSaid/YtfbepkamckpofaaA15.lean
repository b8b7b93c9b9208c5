/-
  A SMALL HEAP FOR A LARGE ONE (part 15: from a run over the small heap to the machine's call of a law). Own text of this session.
-/
import Derived.Test.YtfbepkamckpofaaA14
set_option linter.unusedVariables false
set_option linter.unusedSimpArgs false
namespace Go.Proofs.YtfbepkamckpofaaA
open Go Go.RowKit

def progOk (P : Program) (G : Nat → Bool) : Bool := P.funcs.all fun fn => match fn.body with | some c => codeOk G c | none => true
theorem progOk_inv {P : Program} {G : Nat → Bool} (h : progOk P G = true) : ∀ (f : FuncId) (fn : Func) (c : Code), P.funcs[f]? = some fn → fn.body = some c → codeOk G c = true := by
  intro f fn c hf hb
  have := Array.all_eq_true_iff_forall_mem.1 h fn (Array.mem_of_getElem? hf)
  rw [hb] at this
  exact this
def H00 : AH := ⟨0, fun _ => none⟩
theorem emb00 {B : Nat} {w : World} (h : B ≤ w.heap.size) : Emb (fun _ => none) B H00 w := ⟨fun _ _ => rfl, fun l b hl => (by cases hl), fun l l' b b' p p' _ hl => (by cases hl), h⟩
/-- A law's call at an embedded heap. -/
theorem law_call {P : Program} {orc : FuncId → Array Value → AH → Value → AH → Prop} {G : Nat → Bool} (hmix : P.follows .mixedOrders = true) (hP : progOk P G = true) (hO : ∀ f args H v H', orc f args H v H' → JOk ⟨P, G, orc⟩ (.call f args H v H'))
    {f : FuncId} {args args' : Array Value} {H : AH} {ρ : LMap} {w : World} (h : CallR ⟨P, G, orc⟩ f args H (fun v _ => v = .bool true)) (hG : GlobOk G ρ) (ha : VRA ρ args args') (hE : Emb ρ w.heap.size H w) :
    Calls P f args' w (fun e w' => e = .returned (.bool true) ∧ Below w.heap.size w w') := by
  obtain ⟨v, H', hr, rfl⟩ := h
  have := sound (C := ⟨P, G, orc⟩) hmix (progOk_inv hP) hO hr
  refine (this ρ w.heap.size args' w hG ha hE).mono ?_
  rintro e w' ⟨v', ρ', rfl, _, hv, _, hb⟩
  cases hv
  exact ⟨rfl, hb⟩
/-- arguments without an address -/
theorem vra_data {ρ : LMap} {args : Array Value} (h : ∀ v ∈ args, VR ρ v v) : VRA ρ args args := by
  refine ⟨rfl, fun i hi => ?_⟩
  have : args.getD i Go.undef = args[i] := by simp [Array.getD, hi]
  rw [this]
  exact h _ (Array.getElem_mem hi)
end Go.Proofs.YtfbepkamckpofaaA

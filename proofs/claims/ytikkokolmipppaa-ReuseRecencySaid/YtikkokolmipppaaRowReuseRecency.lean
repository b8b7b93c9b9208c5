/- The statement ReuseRecency holds: for every input the law returns true and leaves its arguments as they were. (The row's frame is turned from the one that the kit's print wrote for the mix claims.) -/
import Derived.Test.YtikkokolmipppaaRows
import Derived.Test.YtikkokolmipppaaRf
import Derived.WalkKit
import Derived.ProofKit
import Derived.OpenShut
import Derived.ShutString
import Derived.ChangeOld
import Derived.Below
import Derived.SizedLaws
namespace Go.Proofs.Ytikkokolmipppaa.reuseRecency
open Go.ChangeShapes Go.WideShapes Go.ChangeAt Go.RowKit Go.Proofs.YtikkokolmipppaaA
open Go.ChangeMaps (open_string shut_string)
set_option linter.unusedVariables false
theorem own : ownKnob Try.prog.godebug = none := by kernel_rfl
theorem laidOut : laidOutB Try.prog = true := by kernel_rfl
set_option maxRecDepth 100000 in
set_option maxHeartbeats 2000000 in
theorem lifted (os : Os) (started : os.Started) (H : Type) (enc : TypeId × Value → H) :
    ReturnsInHanded {} Try.checked os 5 .any (Rows.reuseRecencySpec.pre6 enc Try.prog Try.f5 Rows.reuseRecencyRow.domain false) (Rows.reuseRecencySpec.post enc Try.prog Try.f5 false true false false) := by
  refine returnsInHanded_of_change_sized (C := Try.checked) own started (by kernel_rfl) Try.func5
    (ChangeSpec.witness6 (enc := enc) (C := Try.checked) false ⟨#[], #[.slice none 0 0, .int .i64 0, .int .u64 0], []⟩ 8 (by kernel_rfl) (by kernel_rfl) (by kernel_rfl) (by kernel_rfl)) ?_
  intro W base args ds gs before hval0 hW hcnd hsz0 _
  have hval : ∀ (j : Nat) t v, Try.f5.params[j]? = some t → args[j]? = some v → Value.okWide Try.prog W .any base t v := hval0
  have hW' := hW
  obtain ⟨p, q, hA0, hV, rfl, hfz, hnd⟩ := hW
  have hA : DataW.TrodAll enc Try.prog W 0 (fun _ => true) true Try.f5.params.toList args.toList ds p := hA0
  rw [Try.params5] at hA hval
  obtain ⟨v0, vs0, d0, ds0, p0, q0, hargs, rfl, rfl, h0, r0⟩ := trodAll_cons hA
  obtain ⟨v1, vs1, d1, ds1, p1, q1, rfl, rfl, rfl, h1, r1⟩ := trodAll_cons r0
  obtain ⟨v2, vs2, d2, ds2, p2, q2, rfl, rfl, rfl, h2, r2⟩ := trodAll_cons r1
  obtain ⟨rfl, rfl, rfl⟩ := trodAll_nil r2
  obtain rfl : args = #[v0, v1, v2] := by cases args; simp_all
  obtain ⟨rfl, rfl⟩ := trodVars_none hV
  have hin : GlobIn W C.nG C.gs := fun x hx => nomatch (show x ∈ ([] : Globs) from hx)
  have e0 := emb_HG hin
  have no0 := noOwn_HG C.nG C.gs
  have k0 := h0
  have lt0 : ∀ x ∈ p0, x.block < W.heap.size := by obtain ⟨m, hm⟩ := k0; exact DataW.trod_lt m _ _ _ hm
  obtain ⟨a0, len0, cap0, rfl⟩ := okWide_slice Try.underlying22 (hval 0 22 v0 rfl rfl)
  obtain ⟨sv0, H1, ρ1, O0, xs0, le1, hvr0, e1, no1, fr1, hrow0, hlen0, hwf0, hlow0⟩ := arg_in (T := 28) (tv_ints Try.underlying28) e0 no0 (open_vals Try.underlying22 (by kernel_rfl) (by kernel_rfl) h0)
  obtain ⟨a1, rfl, rfl, rfl, w1⟩ := open_int Try.underlying3 (hval 1 3 v1 rfl rfl) h1
  obtain ⟨a2, rfl, rfl, rfl, w2⟩ := open_int Try.underlying28 (hval 2 28 v2 rfl rfl) h2
  clear hA0 hval0
  have hva : VRA (ρ1) #[sv0, .int .i64 a1, .int .u64 a2] #[(.slice a0 len0 cap0), .int .i64 a1, .int .u64 a2] := vra_list (.cons (hvr0) (.cons (.int _ _) (.cons (.int _ _) (.nil))))
  have hgs0 : HasG C.gs (HG C.nG C.gs) := hasG_HG (of_decide_eq_true (by kernel_rfl))
  have hn1 : C.nG ≤ H1.next := Nat.le_trans (Nat.le_refl _) fr1.1
  have hgs1 := hgs0.fresh C.gs_lt (Nat.le_refl _) fr1
  refine (law_callC (C := C.cx) C.mixed C.allOk C.orcOk (H := H1) (ρ := ρ1) (C.reuseRecency_run hgs1 (hn1) (hrow0) hlen0 hwf0 w1 w2) ((globOk W C.nG).mono le1) hva e1).mono fun e W' ⟨he, bel⟩ => ?_
  subst he
  exact ⟨_, rfl, _, _, _, [], _, [], hW', trodAll_mk1 (shut_bool Try.underlying4 _), (trodAll_cons_mk (Below.trod laidOut (by kernel_rfl) (of_decide_eq_true (by kernel_rfl)) k0 bel lt0) (trodAll_cons_mk (shut_int Try.underlying3 w1) (trodAll_cons_mk (shut_int Try.underlying28 w2) trodAll_mk0))), rfl, bel.frame _, fun h => by cases h⟩
theorem over : Rows.reuseRecencyRow.holds Try.pinned (OpenSpec.ofChange Rows.reuseRecencySpec) :=
  OpenClaim.holds_of_wide 5 Try.f5 rfl rfl rfl rfl rfl rfl rfl ⟨rfl, rfl, rfl, rfl, rfl⟩ rfl rfl rfl rfl rfl (by kernel_rfl) Try.func5 (by kernel_rfl)
    (of_decide_eq_true (by kernel_rfl)) (by unfold Func.isWrapper; first | (rw [if_pos (by decide +kernel)]; kernel_rfl) | (rw [if_neg (by decide +kernel)]; exact ⟨rfl, rfl⟩))
    (fun os started H enc _ => lifted os started H enc)
theorem proved : Rows.ReuseRecencySaid := over
#print axioms proved
end Go.Proofs.Ytikkokolmipppaa.reuseRecency
namespace Go.Proofs.Ytikkokolmipppaa
/-- The row, under a short name, for the claim. -/
theorem reuseRecency_holds : Rows.ReuseRecencySaid := reuseRecency.proved
end Go.Proofs.Ytikkokolmipppaa

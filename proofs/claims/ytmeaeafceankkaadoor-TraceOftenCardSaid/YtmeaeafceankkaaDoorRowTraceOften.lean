/- The statement TraceOften holds: for every input the law returns true and leaves its arguments as they were. (The row's frame is turned from the one that the kit's print wrote for the mix claims, and from the guide's worked example of a tied card.) -/
import Derived.Test.YtmeaeafceankkaaDoorRows
import Derived.Test.YtmeaeafceankkaaDoorLOg
import Derived.WalkKit
import Derived.ProofKit
import Derived.OpenShut
import Derived.ShutString
import Derived.ChangeOld
import Derived.Below
import Derived.SizedLaws
import Derived.LaidMore
import Derived.Lay
import Derived.LaidOnce
import Derived.LaidHandle
import Derived.LaidLaws
import Derived.Stop.Joined
import Derived.Test.YtmeaeafceankkaaDoorTie
import Derived.Test.YtmeaeafceankkaaDoorCards
import Derived.SevenTiedAt
namespace Go.Proofs.YtmeaeafceankkaaDoor.traceOften
open Go.ChangeShapes Go.WideShapes Go.ChangeAt Go.RowKit Go.Proofs.YtmeaeafceankkaaDoorA
open Go.ChangeMaps (open_string shut_string)
set_option linter.unusedVariables false
theorem own : ownKnob Tryd.prog.godebug = none := by kernel_rfl
theorem laidOut : laidOutB Tryd.prog = true := by kernel_rfl
noncomputable def laidL : List (String × DataW Unit) := [("unicode/utf8.acceptRanges", Rows.laid_unicode_utf8_acceptRanges), ("unicode/utf8.first", Rows.laid_unicode_utf8_first)]
set_option maxRecDepth 100000 in
set_option maxHeartbeats 2000000 in
theorem lifted (os : Os) (started : os.Started) (H : Type) (enc : TypeId × Value → H) :
    ReturnsInHanded {} Tryd.checked os 5 .any (fun w args => (Rows.traceOftenSpec.pre enc Tryd.prog Tryd.f5 [] false w args ∧ laidMetH Tryd.prog laidL w) ∧ sizedMet enc Tryd.prog Tryd.f5 (OpenSpec.ofChange Rows.traceOftenSpec) false w args)
      (Rows.traceOftenSpec.post enc Tryd.prog Tryd.f5 false true false false) := by
  refine returnsInHanded_of_change_and (C := Tryd.checked) (X := fun w _ => laidMetH Tryd.prog laidL w) (fun _ _ _ hh h => h.of_heap hh) own started (by kernel_rfl) Tryd.func5
    (ChangeSpec.witness_shaped (enc := enc) (C := Tryd.checked) (os := os) (X := fun w _ => laidMetH Tryd.prog laidL w) false (World.laidAll Tryd.prog os laidL) #[.slice none 0 0, .int .u8 0] 8 (World.laidAll_os _ _ _) (World.shaped_of_ZipB (by kernel_rfl) (by kernel_rfl)) (by kernel_rfl) (by kernel_rfl) (by kernel_rfl)
      (by rw [MakeChecks.laidMetH_plain _ _ _ (by kernel_rfl)]; exact laidMet_laidAll _ (by kernel_rfl) (by kernel_rfl))) ?_
  intro W base args ds gs before hval0 hW _ _ hL _
  have hval : ∀ (j : Nat) t v, Tryd.f5.params[j]? = some t → args[j]? = some v → Value.okWide Tryd.prog W .any base t v := hval0
  have hW' := hW
  obtain ⟨p, q, hA0, hV, rfl, hfz, hnd⟩ := hW
  have hA : DataW.TrodAll enc Tryd.prog W 0 (fun _ => true) true Tryd.f5.params.toList args.toList ds p := hA0
  rw [Tryd.params5] at hA hval
  obtain ⟨v0, vs0, d0, ds0, p0, q0, hargs, rfl, rfl, h0, r0⟩ := trodAll_cons hA
  obtain ⟨v1, vs1, d1, ds1, p1, q1, rfl, rfl, rfl, h1, r1⟩ := trodAll_cons r0
  obtain ⟨rfl, rfl, rfl⟩ := trodAll_nil r1
  obtain rfl : args = #[v0, v1] := by cases args; simp_all
  obtain ⟨rfl, rfl⟩ := trodVars_none hV
  rw [MakeChecks.laidMetH_plain _ _ _ (by kernel_rfl)] at hL
  obtain ⟨lps, hlv, _, _⟩ := hL
  have hin : GlobIn W C.nG C.gs := globIn_of (k := 8) laidL C.gs lps hlv (fun x hx => of_decide_eq_true (List.all_eq_true.1 C.gs_lt x hx)) (fun x hx => List.all_eq_true.1 C.gs_dat x hx) (by kernel_rfl)
  have e0 := emb_HG hin
  have no0 := noOwn_HG C.nG C.gs
  have k0 := h0
  have lt0 : ∀ x ∈ p0, x.block < W.heap.size := by obtain ⟨m, hm⟩ := k0; exact DataW.trod_lt m _ _ _ hm
  obtain ⟨a0, len0, cap0, rfl⟩ := okWide_slice Tryd.underlying22 (hval 0 22 v0 rfl rfl)
  obtain ⟨sv0, H1, ρ1, O0, xs0, le1, hvr0, e1, no1, fr1, hrow0, hlen0, hwf0, hlow0⟩ := arg_in (T := 39) (tv_ints Tryd.underlying39) e0 no0 (open_vals Tryd.underlying22 (by kernel_rfl) (by kernel_rfl) h0)
  obtain ⟨a1, rfl, rfl, rfl, w1⟩ := open_int Tryd.underlying5 (hval 1 5 v1 rfl rfl) h1
  clear hA0 hval0
  have hva : VRA (ρ1) #[sv0, .int .u8 a1] #[(.slice a0 len0 cap0), .int .u8 a1] := vra_list (.cons (hvr0) (.cons (.int _ _) (.nil)))
  have hgs0 : HasG C.gs (HG C.nG C.gs) := hasG_HG (of_decide_eq_true (by kernel_rfl))
  have hn1 : C.nG ≤ H1.next := Nat.le_trans (Nat.le_refl _) fr1.1
  have hgs1 := hgs0.fresh C.gs_lt (Nat.le_refl _) fr1
  refine (law_callC (C := C.cx) C.mixed C.allOk C.orcOk (H := H1) (ρ := ρ1) (C.traceOften_run hgs1 (hn1) (hrow0) hlen0 hwf0 w1) ((globOk W C.nG).mono le1) hva e1).mono fun e W' ⟨he, bel⟩ => ?_
  subst he
  exact ⟨_, rfl, _, _, _, [], _, [], hW', trodAll_mk1 (shut_bool Tryd.underlying4 _), (trodAll_cons_mk (Below.trod laidOut (by kernel_rfl) (of_decide_eq_true (by kernel_rfl)) k0 bel lt0) (trodAll_cons_mk (shut_int Tryd.underlying5 w1) trodAll_mk0)), rfl, bel.frame _, fun h => by cases h⟩
theorem over : Rows.traceOftenRow.holds Tryd.pinned (OpenSpec.ofChange Rows.traceOftenSpec) :=
  OpenClaim.holds_of_wide 5 Tryd.f5 rfl rfl rfl rfl rfl rfl rfl ⟨rfl, rfl, rfl, rfl, rfl⟩ rfl rfl rfl rfl rfl (by kernel_rfl) Tryd.func5 (by kernel_rfl)
    (of_decide_eq_true (by kernel_rfl)) (by unfold Func.isWrapper; first | (rw [if_pos (by decide +kernel)]; kernel_rfl) | (rw [if_neg (by decide +kernel)]; exact ⟨rfl, rfl⟩))
    (fun os started H enc _ => lifted os started H enc)
theorem card_proved : Rows.TraceOftenCardSaid :=
  Claim7.holds_tied_plain_at .later [] [.data, .pinned] true (true, "b25754d51c64c442e1cda0ad0e32eff3e6db378ea5c51b3f063a80ba580f73a8") false
    over (fun _ h => by cases h) (by kernel_rfl) (fun _ h => by cases h) traceOften_row_tie rfl ⟨rfl, rfl⟩ (by kernel_rfl) rfl
    (fun f fn hf hfn => by
      obtain rfl : f = 5 := Option.some.inj ((show Tryd.prog.funcNamed "hutch/hutchlaw24.TraceOften" = some 5 by kernel_rfl).symm.trans hf) |>.symm
      obtain rfl : fn = Tryd.f5 := (Option.some.inj (Tryd.func5.symm.trans hfn)).symm
      exact ⟨by kernel_rfl, fun j t ht => by
        rw [Tryd.params5] at ht
        have hm : t ∈ [22, 5] := by simpa using Array.mem_of_getElem? ht
        have hall : ([22, 5].all fun u => !Tryd.prog.wantsStandIn u) = true := by kernel_rfl
        exact (show Tryd.prog.wantsStandIn t = false by simpa using List.all_eq_true.1 hall t hm)⟩)
    (by kernel_rfl)
#print axioms card_proved
end Go.Proofs.YtmeaeafceankkaaDoor.traceOften
namespace Go.Proofs.YtmeaeafceankkaaDoor
/-- The card, under a short name, for the claim. -/
theorem traceOften_holds : Rows.TraceOftenCardSaid := traceOften.card_proved
end Go.Proofs.YtmeaeafceankkaaDoor

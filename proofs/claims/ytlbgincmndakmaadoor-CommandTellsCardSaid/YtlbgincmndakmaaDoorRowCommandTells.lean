/- The statement CommandTells holds: for every input the law returns true and leaves its arguments as they were. (The row's frame is turned from the one that the kit's print wrote for the mix claims, and from the guide's worked example of a tied card.) -/
import Derived.Test.YtlbgincmndakmaaDoorA22
import Derived.Test.YtlbgincmndakmaaDoorRows
import Derived.Test.YtlbgincmndakmaaDoorLCt
import Derived.WalkKit
import Derived.ProofKit
import Derived.OpenShut
import Derived.ShutString
import Derived.ChangeOld
import Derived.Below
import Derived.SizedLaws
import Derived.LaidMore
import Derived.Lay
import Derived.LaidOnce
import Derived.LaidHandle
import Derived.LaidLaws
import Derived.Stop.Joined
import Derived.Test.YtlbgincmndakmaaDoorTie
import Derived.Test.YtlbgincmndakmaaDoorCards
import Derived.SevenTiedAt
namespace Go.Proofs.YtlbgincmndakmaaDoor.commandTells
open Go.ChangeShapes Go.WideShapes Go.ChangeAt Go.RowKit Go.Proofs.YtlbgincmndakmaaDoorA
open Go.ChangeMaps (open_string shut_string)
set_option linter.unusedVariables false
theorem own : ownKnob Tryd.prog.godebug = none := by kernel_rfl
theorem laidOut : laidOutB Tryd.prog = true := by kernel_rfl
noncomputable def laidL : List (String × DataW Unit) := [("unicode/utf8.acceptRanges", Rows.laid_unicode_utf8_acceptRanges), ("unicode/utf8.first", Rows.laid_unicode_utf8_first)]
set_option maxRecDepth 100000 in
set_option maxHeartbeats 2000000 in
theorem lifted (os : Os) (started : os.Started) (H : Type) (enc : TypeId × Value → H) :
    ReturnsInHanded {} Tryd.checked os 3 .any (fun w args => (Rows.commandTellsSpec.pre enc Tryd.prog Tryd.f3 [] false w args ∧ laidMetH Tryd.prog laidL w) ∧ sizedMet enc Tryd.prog Tryd.f3 (OpenSpec.ofChange Rows.commandTellsSpec) false w args)
      (Rows.commandTellsSpec.post enc Tryd.prog Tryd.f3 false true false false) := by
  refine returnsInHanded_of_change_and (C := Tryd.checked) (X := fun w _ => laidMetH Tryd.prog laidL w) (fun _ _ _ hh h => h.of_heap hh) own started (by kernel_rfl) Tryd.func3
    (ChangeSpec.witness_shaped (enc := enc) (C := Tryd.checked) (os := os) (X := fun w _ => laidMetH Tryd.prog laidL w) false (World.laidAll Tryd.prog os laidL) #[.agg #[.int .i64 0, .int .u64 0, .slice none 0 0, .int .i64 0, .int .i64 0, .int .i64 0, .int .i64 0]] 8 (World.laidAll_os _ _ _) (World.shaped_of_ZipB (by kernel_rfl) (by kernel_rfl)) (by kernel_rfl) (by kernel_rfl) (by kernel_rfl)
      (by rw [MakeChecks.laidMetH_plain _ _ _ (by kernel_rfl)]; exact laidMet_laidAll _ (by kernel_rfl) (by kernel_rfl))) ?_
  intro W base args ds gs before hval0 hW _ _ hL _
  have hval : ∀ (j : Nat) t v, Tryd.f3.params[j]? = some t → args[j]? = some v → Value.okWide Tryd.prog W .any base t v := hval0
  have hW' := hW
  obtain ⟨p, q, hA0, hV, rfl, hfz, hnd⟩ := hW
  have hA : DataW.TrodAll enc Tryd.prog W 0 (fun _ => true) true Tryd.f3.params.toList args.toList ds p := hA0
  rw [Tryd.params3] at hA hval
  obtain ⟨v0, vs0, d0, ds0, p0, q0, hargs, rfl, rfl, h0, r0⟩ := trodAll_cons hA
  obtain ⟨rfl, rfl, rfl⟩ := trodAll_nil r0
  obtain rfl : args = #[v0] := by cases args; simp_all
  obtain ⟨rfl, rfl⟩ := trodVars_none hV
  rw [MakeChecks.laidMetH_plain _ _ _ (by kernel_rfl)] at hL
  obtain ⟨lps, hlv, _, _⟩ := hL
  have hin : GlobIn W C.nG C.gs := globIn_of (k := 8) laidL C.gs lps hlv (fun x hx => of_decide_eq_true (List.all_eq_true.1 C.gs_lt x hx)) (fun x hx => List.all_eq_true.1 C.gs_dat x hx) (by kernel_rfl)
  have e0 := emb_HG hin
  have no0 := noOwn_HG C.nG C.gs
  have k0 := h0
  have lt0 : ∀ x ∈ p0, x.block < W.heap.size := by obtain ⟨m, hm⟩ := k0; exact DataW.trod_lt m _ _ _ hm
  obtain ⟨cl0, rfl, cn0, hf0⟩ := open_struct Tryd.underlying29 (hval 0 29 v0 rfl rfl) h0
  obtain ⟨c0_0, c0_1, c0_2, c0_3, c0_4, c0_5, c0_6, rfl⟩ := lst7 (cn0.trans (by kernel_rfl))
  obtain ⟨b0_0, rfl, w0_0⟩ := fld_int Tryd.underlying22 (by kernel_rfl) rfl (hf0 0 _ rfl)
  obtain ⟨b0_1, rfl, w0_1⟩ := fld_int Tryd.underlying23 (by kernel_rfl) rfl (hf0 1 _ rfl)
  obtain ⟨a0_2, len0_2, cap0_2, dd0_2, pp0_2, rfl, ht0_2⟩ := fld_slice Tryd.underlying24 (by kernel_rfl) rfl (hf0 2 _ rfl)
  obtain ⟨sv0_2, H1, ρ1, O0_2, xs0_2, le1, hvr0_2, e1, no1, fr1, hrow0_2, hlen0_2, hwf0_2, hlow0_2⟩ := arg_in (T := 5) (tv_ints Tryd.underlying5) e0 no0 (open_vals Tryd.underlying24 (by kernel_rfl) (by kernel_rfl) ht0_2)
  have hs0_3 := fld_struct Tryd.underlying27 (by kernel_rfl : _ = 4) rfl (hf0 3 _ rfl)
  obtain ⟨b0_3_0, rfl, w0_3_0⟩ := fld_int Tryd.underlying25 (by kernel_rfl) rfl (hs0_3 0 _ rfl)
  obtain ⟨b0_3_1, rfl, w0_3_1⟩ := fld_int Tryd.underlying3 (by kernel_rfl) rfl (hs0_3 1 _ rfl)
  obtain ⟨b0_3_2, rfl, w0_3_2⟩ := fld_int Tryd.underlying3 (by kernel_rfl) rfl (hs0_3 2 _ rfl)
  obtain ⟨b0_3_3, rfl, w0_3_3⟩ := fld_int Tryd.underlying3 (by kernel_rfl) rfl (hs0_3 3 _ rfl)
  clear hA0 hval0
  have hva : VRA (ρ1) #[(.agg #[.int .i64 b0_0, .int .u64 b0_1, sv0_2, .int .i64 b0_3_0, .int .i64 b0_3_1, .int .i64 b0_3_2, .int .i64 b0_3_3])] #[(.agg #[.int .i64 b0_0, .int .u64 b0_1, .slice a0_2 len0_2 cap0_2, .int .i64 b0_3_0, .int .i64 b0_3_1, .int .i64 b0_3_2, .int .i64 b0_3_3])] := vra_list (.cons (vr_aggL (.cons (.int _ _) (.cons (.int _ _) (.cons (hvr0_2) (.cons (.int _ _) (.cons (.int _ _) (.cons (.int _ _) (.cons (.int _ _) .nil)))))))) (.nil))
  have hgs0 : HasG C.gs (HG C.nG C.gs) := hasG_HG (of_decide_eq_true (by kernel_rfl))
  have hn1 : C.nG ≤ H1.next := Nat.le_trans (Nat.le_refl _) fr1.1
  have hgs1 := hgs0.fresh C.gs_lt (Nat.le_refl _) fr1
  refine (law_callC (C := C.cx) C.mixed C.allOk C.orcOk (H := H1) (ρ := ρ1) (C.commandTells_run hgs1 (hn1) (hrow0_2) hlen0_2 hwf0_2 w0_0 w0_1 w0_3_0 w0_3_1 w0_3_2 w0_3_3) ((globOk W C.nG).mono le1) hva e1).mono fun e W' ⟨he, bel⟩ => ?_
  subst he
  exact ⟨_, rfl, _, _, _, [], _, [], hW', trodAll_mk1 (shut_bool Tryd.underlying4 _), (trodAll_cons_mk (Below.trod laidOut (by kernel_rfl) (of_decide_eq_true (by kernel_rfl)) k0 bel lt0) trodAll_mk0), rfl, bel.frame _, fun h => by cases h⟩
theorem over : Rows.commandTellsRow.holds Tryd.pinned (OpenSpec.ofChange Rows.commandTellsSpec) :=
  OpenClaim.holds_of_wide 3 Tryd.f3 rfl rfl rfl rfl rfl rfl rfl ⟨rfl, rfl, rfl, rfl, rfl⟩ rfl rfl rfl rfl rfl (by kernel_rfl) Tryd.func3 (by kernel_rfl)
    (of_decide_eq_true (by kernel_rfl)) (by unfold Func.isWrapper; first | (rw [if_pos (by decide +kernel)]; kernel_rfl) | (rw [if_neg (by decide +kernel)]; exact ⟨rfl, rfl⟩))
    (fun os started H enc _ => lifted os started H enc)
theorem card_proved : Rows.CommandTellsCardSaid :=
  Claim7.holds_tied_plain_at .later [] [.data, .pinned] true (true, "0bc99f95baf9b7ee7d9224a78a7a44e1a3b6b4cb43859cf307c2bb8aa5a1fa75") false
    over (fun _ h => by cases h) (by kernel_rfl) (fun _ h => by cases h) commandTells_row_tie rfl ⟨rfl, rfl⟩ (by kernel_rfl) rfl
    (fun f fn hf hfn => by
      obtain rfl : f = 3 := Option.some.inj ((show Tryd.prog.funcNamed "hutch/hutchlaw36.CommandTells" = some 3 by kernel_rfl).symm.trans hf) |>.symm
      obtain rfl : fn = Tryd.f3 := (Option.some.inj (Tryd.func3.symm.trans hfn)).symm
      exact ⟨by kernel_rfl, fun j t ht => by
        rw [Tryd.params3] at ht
        have hm : t ∈ [29] := by simpa using Array.mem_of_getElem? ht
        have hall : ([29].all fun u => !Tryd.prog.wantsStandIn u) = true := by kernel_rfl
        exact (show Tryd.prog.wantsStandIn t = false by simpa using List.all_eq_true.1 hall t hm)⟩)
    (by kernel_rfl)
#print axioms card_proved
end Go.Proofs.YtlbgincmndakmaaDoor.commandTells
namespace Go.Proofs.YtlbgincmndakmaaDoor
/-- The card, under a short name, for the claim. -/
theorem commandTells_holds : Rows.CommandTellsCardSaid := commandTells.card_proved
end Go.Proofs.YtlbgincmndakmaaDoor

/- The statement ReplyTells holds: for every input the law returns true and leaves its arguments as they were. (The row's frame is turned from the one that the kit's print wrote for the mix claims, and from the guide's worked example of a tied card.) -/
import Derived.Test.YtpimepdlbhejhaaDoorA22
import Derived.Test.YtpimepdlbhejhaaDoorRows
import Derived.Test.YtpimepdlbhejhaaDoorLTd
import Derived.WalkKit
import Derived.ProofKit
import Derived.OpenShut
import Derived.ShutString
import Derived.ChangeOld
import Derived.Below
import Derived.SizedLaws
import Derived.LaidMore
import Derived.Lay
import Derived.LaidOnce
import Derived.LaidHandle
import Derived.LaidLaws
import Derived.Stop.Joined
import Derived.Test.YtpimepdlbhejhaaDoorTie
import Derived.Test.YtpimepdlbhejhaaDoorCards
import Derived.SevenTiedAt
namespace Go.Proofs.YtpimepdlbhejhaaDoor.replyTells
open Go.ChangeShapes Go.WideShapes Go.ChangeAt Go.RowKit Go.Proofs.YtpimepdlbhejhaaDoorA
open Go.ChangeMaps (open_string shut_string)
set_option linter.unusedVariables false
theorem own : ownKnob Tryd.prog.godebug = none := by kernel_rfl
theorem laidOut : laidOutB Tryd.prog = true := by kernel_rfl
noncomputable def laidL : List (String × DataW Unit) := [("unicode/utf8.acceptRanges", Rows.laid_unicode_utf8_acceptRanges), ("unicode/utf8.first", Rows.laid_unicode_utf8_first)]
set_option maxRecDepth 100000 in
set_option maxHeartbeats 2000000 in
theorem lifted (os : Os) (started : os.Started) (H : Type) (enc : TypeId × Value → H) :
    ReturnsInHanded {} Tryd.checked os 3 .any (fun w args => (Rows.replyTellsSpec.pre enc Tryd.prog Tryd.f3 [] false w args ∧ laidMetH Tryd.prog laidL w) ∧ sizedMet enc Tryd.prog Tryd.f3 (OpenSpec.ofChange Rows.replyTellsSpec) false w args)
      (Rows.replyTellsSpec.post enc Tryd.prog Tryd.f3 false true false false) := by
  refine returnsInHanded_of_change_and (C := Tryd.checked) (X := fun w _ => laidMetH Tryd.prog laidL w) (fun _ _ _ hh h => h.of_heap hh) own started (by kernel_rfl) Tryd.func3
    (ChangeSpec.witness_shaped (enc := enc) (C := Tryd.checked) (os := os) (X := fun w _ => laidMetH Tryd.prog laidL w) false (World.laidAll Tryd.prog os laidL) #[.int .i64 0, .agg #[.bool false, .slice none 0 0, .slice none 0 0, .int .i64 0]] 8 (World.laidAll_os _ _ _) (World.shaped_of_ZipB (by kernel_rfl) (by kernel_rfl)) (by kernel_rfl) (by kernel_rfl) (by kernel_rfl)
      (by rw [MakeChecks.laidMetH_plain _ _ _ (by kernel_rfl)]; exact laidMet_laidAll _ (by kernel_rfl) (by kernel_rfl))) ?_
  intro W base args ds gs before hval0 hW _ _ hL _
  have hval : ∀ (j : Nat) t v, Tryd.f3.params[j]? = some t → args[j]? = some v → Value.okWide Tryd.prog W .any base t v := hval0
  have hW' := hW
  obtain ⟨p, q, hA0, hV, rfl, hfz, hnd⟩ := hW
  have hA : DataW.TrodAll enc Tryd.prog W 0 (fun _ => true) true Tryd.f3.params.toList args.toList ds p := hA0
  rw [Tryd.params3] at hA hval
  obtain ⟨v0, vs0, d0, ds0, p0, q0, hargs, rfl, rfl, h0, r0⟩ := trodAll_cons hA
  obtain ⟨v1, vs1, d1, ds1, p1, q1, rfl, rfl, rfl, h1, r1⟩ := trodAll_cons r0
  obtain ⟨rfl, rfl, rfl⟩ := trodAll_nil r1
  obtain rfl : args = #[v0, v1] := by cases args; simp_all
  obtain ⟨rfl, rfl⟩ := trodVars_none hV
  rw [MakeChecks.laidMetH_plain _ _ _ (by kernel_rfl)] at hL
  obtain ⟨lps, hlv, _, _⟩ := hL
  have hin : GlobIn W C.nG C.gs := globIn_of (k := 8) laidL C.gs lps hlv (fun x hx => of_decide_eq_true (List.all_eq_true.1 C.gs_lt x hx)) (fun x hx => List.all_eq_true.1 C.gs_dat x hx) (by kernel_rfl)
  have e0 := emb_HG hin
  have no0 := noOwn_HG C.nG C.gs
  obtain ⟨a0, rfl, rfl, rfl, w0⟩ := open_int Tryd.underlying22 (hval 0 22 v0 rfl rfl) h0
  have k1 := h1
  have lt1 : ∀ x ∈ p1, x.block < W.heap.size := by obtain ⟨m, hm⟩ := k1; exact DataW.trod_lt m _ _ _ hm
  obtain ⟨cl1, rfl, cn1, hf1⟩ := open_struct Tryd.underlying27 (hval 1 27 v1 rfl rfl) h1
  obtain ⟨c1_0, c1_1, c1_2, c1_3, rfl⟩ := lst4 (cn1.trans (by kernel_rfl))
  obtain ⟨b1_0, rfl⟩ := fld_bool Tryd.underlying4 (by kernel_rfl) rfl (hf1 0 _ rfl)
  obtain ⟨a1_1, len1_1, cap1_1, dd1_1, pp1_1, rfl, ht1_1⟩ := fld_slice Tryd.underlying23 (by kernel_rfl) rfl (hf1 1 _ rfl)
  obtain ⟨sv1_1, H1, ρ1, O1_1, xs1_1, le1, hvr1_1, e1, no1, fr1, hrow1_1, hlen1_1, hwf1_1, hlow1_1⟩ := arg_in (T := 5) (tv_ints Tryd.underlying5) e0 no0 (open_vals Tryd.underlying23 (by kernel_rfl) (by kernel_rfl) ht1_1)
  obtain ⟨a1_2, len1_2, cap1_2, dd1_2, pp1_2, rfl, ht1_2⟩ := fld_slice Tryd.underlying24 (by kernel_rfl) rfl (hf1 2 _ rfl)
  obtain ⟨sv1_2, H2, ρ2, O1_2, xs1_2, le2, hvr1_2, e2, no2, fr2, hrow1_2, hlen1_2, hwf1_2, hlow1_2⟩ := arg_in (T := 39) (tv_ints Tryd.underlying39) e1 no1 (open_vals Tryd.underlying24 (by kernel_rfl) (by kernel_rfl) ht1_2)
  obtain ⟨b1_3, rfl, w1_3⟩ := fld_int Tryd.underlying25 (by kernel_rfl) rfl (hf1 3 _ rfl)
  clear hA0 hval0
  have hva : VRA (ρ2) #[.int .i64 a0, (.agg #[.bool b1_0, sv1_1, sv1_2, .int .i64 b1_3])] #[.int .i64 a0, (.agg #[.bool b1_0, .slice a1_1 len1_1 cap1_1, .slice a1_2 len1_2 cap1_2, .int .i64 b1_3])] := vra_list (.cons (.int _ _) (.cons (vr_aggL (.cons (.bool _) (.cons ((hvr1_1).mono le2) (.cons (hvr1_2) (.cons (.int _ _) .nil))))) (.nil)))
  have hgs0 : HasG C.gs (HG C.nG C.gs) := hasG_HG (of_decide_eq_true (by kernel_rfl))
  have hn1 : C.nG ≤ H1.next := Nat.le_trans (Nat.le_refl _) fr1.1
  have hgs1 := hgs0.fresh C.gs_lt (Nat.le_refl _) fr1
  have hn2 : C.nG ≤ H2.next := Nat.le_trans (hn1) fr2.1
  have hgs2 := hgs1.fresh C.gs_lt (hn1) fr2
  refine (law_callC (C := C.cx) C.mixed C.allOk C.orcOk (H := H2) (ρ := ρ2) (C.replyTells_run hgs2 (hn2) ((hrow1_1).keep fr2 (fun _ _ => id)) hlen1_1 hwf1_1 (hrow1_2) hlen1_2 hwf1_2 w0 w1_3) (((globOk W C.nG).mono le1).mono le2) hva e2).mono fun e W' ⟨he, bel⟩ => ?_
  subst he
  exact ⟨_, rfl, _, _, _, [], _, [], hW', trodAll_mk1 (shut_bool Tryd.underlying4 _), (trodAll_cons_mk (shut_int Tryd.underlying22 w0) (trodAll_cons_mk (Below.trod laidOut (by kernel_rfl) (of_decide_eq_true (by kernel_rfl)) k1 bel lt1) trodAll_mk0)), rfl, bel.frame _, fun h => by cases h⟩
theorem over : Rows.replyTellsRow.holds Tryd.pinned (OpenSpec.ofChange Rows.replyTellsSpec) :=
  OpenClaim.holds_of_wide 3 Tryd.f3 rfl rfl rfl rfl rfl rfl rfl ⟨rfl, rfl, rfl, rfl, rfl⟩ rfl rfl rfl rfl rfl (by kernel_rfl) Tryd.func3 (by kernel_rfl)
    (of_decide_eq_true (by kernel_rfl)) (by unfold Func.isWrapper; first | (rw [if_pos (by decide +kernel)]; kernel_rfl) | (rw [if_neg (by decide +kernel)]; exact ⟨rfl, rfl⟩))
    (fun os started H enc _ => lifted os started H enc)
theorem card_proved : Rows.ReplyTellsCardSaid :=
  Claim7.holds_tied_plain_at .later [] [.data, .pinned] true (true, "b808040f5b4f4c47ee052729157e0db02db1ff054a7f096d1d72e833046e85c6") false
    over (fun _ h => by cases h) (by kernel_rfl) (fun _ h => by cases h) replyTells_row_tie rfl ⟨rfl, rfl⟩ (by kernel_rfl) rfl
    (fun f fn hf hfn => by
      obtain rfl : f = 3 := Option.some.inj ((show Tryd.prog.funcNamed "hutch/hutchlaw37.ReplyTells" = some 3 by kernel_rfl).symm.trans hf) |>.symm
      obtain rfl : fn = Tryd.f3 := (Option.some.inj (Tryd.func3.symm.trans hfn)).symm
      exact ⟨by kernel_rfl, fun j t ht => by
        rw [Tryd.params3] at ht
        have hm : t ∈ [22, 27] := by simpa using Array.mem_of_getElem? ht
        have hall : ([22, 27].all fun u => !Tryd.prog.wantsStandIn u) = true := by kernel_rfl
        exact (show Tryd.prog.wantsStandIn t = false by simpa using List.all_eq_true.1 hall t hm)⟩)
    (by kernel_rfl)
#print axioms card_proved
end Go.Proofs.YtpimepdlbhejhaaDoor.replyTells
namespace Go.Proofs.YtpimepdlbhejhaaDoor
/-- The card, under a short name, for the claim. -/
theorem replyTells_holds : Rows.ReplyTellsCardSaid := replyTells.card_proved
end Go.Proofs.YtpimepdlbhejhaaDoor

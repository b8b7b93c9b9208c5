/- The statement ReplyStats holds: for every input the law returns true and leaves its arguments as they were. (The row's frame is turned from the one that the kit's print wrote for the mix claims, and from the guide's worked example of a tied card.) -/
import Derived.Test.YtpimepdlbhejhaaDoorRows
import Derived.Test.YtpimepdlbhejhaaDoorSts
import Derived.WalkKit
import Derived.ProofKit
import Derived.OpenShut
import Derived.ShutString
import Derived.ChangeOld
import Derived.Below
import Derived.SizedLaws
import Derived.LaidMore
import Derived.Lay
import Derived.LaidOnce
import Derived.LaidHandle
import Derived.LaidLaws
import Derived.Stop.Joined
import Derived.Test.YtpimepdlbhejhaaDoorTie
import Derived.Test.YtpimepdlbhejhaaDoorCards
import Derived.SevenTiedAt
namespace Go.Proofs.YtpimepdlbhejhaaDoor.replyStats
open Go.ChangeShapes Go.WideShapes Go.ChangeAt Go.RowKit Go.Proofs.YtpimepdlbhejhaaDoorA
open Go.ChangeMaps (open_string shut_string)
set_option linter.unusedVariables false
theorem own : ownKnob Tryd.prog.godebug = none := by kernel_rfl
theorem laidOut : laidOutB Tryd.prog = true := by kernel_rfl
noncomputable def laidL : List (String × DataW Unit) := [("unicode/utf8.acceptRanges", Rows.laid_unicode_utf8_acceptRanges), ("hutch/tally.names", Rows.laid_hutch_tally_names), ("unicode/utf8.first", Rows.laid_unicode_utf8_first)]
set_option maxRecDepth 100000 in
set_option maxHeartbeats 2000000 in
theorem lifted (os : Os) (started : os.Started) (H : Type) (enc : TypeId × Value → H) :
    ReturnsInHanded {} Tryd.checked os 5 .any (fun w args => (Rows.replyStatsSpec.pre enc Tryd.prog Tryd.f5 [] false w args ∧ laidMetH Tryd.prog laidL w) ∧ sizedMet enc Tryd.prog Tryd.f5 (OpenSpec.ofChange Rows.replyStatsSpec) false w args)
      (Rows.replyStatsSpec.post enc Tryd.prog Tryd.f5 false true false false) := by
  refine returnsInHanded_of_change_and (C := Tryd.checked) (X := fun w _ => laidMetH Tryd.prog laidL w) (fun _ _ _ hh h => h.of_heap hh) own started (by kernel_rfl) Tryd.func5
    (ChangeSpec.witness_shaped (enc := enc) (C := Tryd.checked) (os := os) (X := fun w _ => laidMetH Tryd.prog laidL w) false (World.laidAll Tryd.prog os laidL) #[.agg #[.int .u64 0, .int .u64 0, .int .u64 0, .int .u64 0, .int .u64 0, .int .i64 0, .int .i64 0, .int .i64 0, .int .u64 0, .int .u64 0, .int .u64 0, .int .u64 0, .int .u64 0, .int .u64 0, .int .u64 0, .int .u64 0, .int .u64 0, .int .u64 0], .slice none 0 0] 8 (World.laidAll_os _ _ _) (World.shaped_of_ZipB (by kernel_rfl) (by kernel_rfl)) (by kernel_rfl) (by kernel_rfl) (by kernel_rfl)
      (by rw [MakeChecks.laidMetH_plain _ _ _ (by kernel_rfl)]; exact laidMet_laidAll _ (by kernel_rfl) (by kernel_rfl))) ?_
  intro W base args ds gs before hval0 hW _ _ hL _
  have hval : ∀ (j : Nat) t v, Tryd.f5.params[j]? = some t → args[j]? = some v → Value.okWide Tryd.prog W .any base t v := hval0
  have hW' := hW
  obtain ⟨p, q, hA0, hV, rfl, hfz, hnd⟩ := hW
  have hA : DataW.TrodAll enc Tryd.prog W 0 (fun _ => true) true Tryd.f5.params.toList args.toList ds p := hA0
  rw [Tryd.params5] at hA hval
  obtain ⟨v0, vs0, d0, ds0, p0, q0, hargs, rfl, rfl, h0, r0⟩ := trodAll_cons hA
  obtain ⟨v1, vs1, d1, ds1, p1, q1, rfl, rfl, rfl, h1, r1⟩ := trodAll_cons r0
  obtain ⟨rfl, rfl, rfl⟩ := trodAll_nil r1
  obtain rfl : args = #[v0, v1] := by cases args; simp_all
  obtain ⟨rfl, rfl⟩ := trodVars_none hV
  rw [MakeChecks.laidMetH_plain _ _ _ (by kernel_rfl)] at hL
  obtain ⟨lps, hlv, _, _⟩ := hL
  have hin : GlobIn W C.nG C.gsN := globIn_of (k := 8) laidL C.gsN lps hlv (fun x hx => of_decide_eq_true (List.all_eq_true.1 C.gsN_lt x hx)) (fun x hx => List.all_eq_true.1 C.gsN_dat x hx) (by kernel_rfl)
  have e0 := emb_HG hin
  have no0 := noOwn_HG C.nG C.gsN
  have k0 := h0
  have lt0 : ∀ x ∈ p0, x.block < W.heap.size := by obtain ⟨m, hm⟩ := k0; exact DataW.trod_lt m _ _ _ hm
  obtain ⟨ns0, nl0, rfl, nh0⟩ := open_nums (ts := (Tryd.prog.cellTypes Tryd.prog.depth 43).getD []) (ks := [.u64, .u64, .u64, .u64, .u64, .i64, .i64, .i64, .u64, .u64, .u64, .u64, .u64, .u64, .u64, .u64, .u64, .u64]) Tryd.underlying43 (by kernel_rfl) (by kernel_rfl) (by kernel_rfl) (hval 0 43 v0 rfl rfl)
  obtain ⟨x0_0, x0_1, x0_2, x0_3, x0_4, x0_5, x0_6, x0_7, x0_8, x0_9, x0_10, x0_11, x0_12, x0_13, x0_14, x0_15, x0_16, x0_17, rfl⟩ := len18 nl0
  have k1 := h1
  have lt1 : ∀ x ∈ p1, x.block < W.heap.size := by obtain ⟨m, hm⟩ := k1; exact DataW.trod_lt m _ _ _ hm
  obtain ⟨a1, len1, cap1, rfl⟩ := okWide_slice Tryd.underlying44 (hval 1 44 v1 rfl rfl)
  obtain ⟨sv1, H1, ρ1, O1, xs1, le1, hvr1, e1, no1, fr1, hrow1, hlen1, hwf1, hlow1⟩ := arg_in (T := 3) (tv_ints Tryd.underlying3) e0 no0 (open_vals Tryd.underlying44 (by kernel_rfl) (by kernel_rfl) h1)
  clear hA0 hval0
  have hva : VRA (ρ1) #[(.agg (List.zipWith Value.int [.u64, .u64, .u64, .u64, .u64, .i64, .i64, .i64, .u64, .u64, .u64, .u64, .u64, .u64, .u64, .u64, .u64, .u64] [x0_0, x0_1, x0_2, x0_3, x0_4, x0_5, x0_6, x0_7, x0_8, x0_9, x0_10, x0_11, x0_12, x0_13, x0_14, x0_15, x0_16, x0_17]).toArray), sv1] #[(.agg (List.zipWith Value.int [.u64, .u64, .u64, .u64, .u64, .i64, .i64, .i64, .u64, .u64, .u64, .u64, .u64, .u64, .u64, .u64, .u64, .u64] [x0_0, x0_1, x0_2, x0_3, x0_4, x0_5, x0_6, x0_7, x0_8, x0_9, x0_10, x0_11, x0_12, x0_13, x0_14, x0_15, x0_16, x0_17]).toArray), (.slice a1 len1 cap1)] := vra_list (.cons (vr_nums _ _) (.cons (hvr1) (.nil)))
  have hgs0 : HasG C.gsN (HG C.nG C.gsN) := hasG_HG (of_decide_eq_true (by kernel_rfl))
  have hn1 : C.nG ≤ H1.next := Nat.le_trans (Nat.le_refl _) fr1.1
  have hgs1 := hgs0.fresh C.gsN_lt (Nat.le_refl _) fr1
  refine (law_callC (C := C.cx) C.mixed C.allOk C.orcOk (H := H1) (ρ := ρ1) (C.replyStats_run hgs1 (hn1) (hrow1) hlen1 hwf1 (nh0 0 _ _ rfl rfl) (nh0 1 _ _ rfl rfl) (nh0 2 _ _ rfl rfl) (nh0 3 _ _ rfl rfl) (nh0 4 _ _ rfl rfl) (nh0 5 _ _ rfl rfl) (nh0 6 _ _ rfl rfl) (nh0 7 _ _ rfl rfl) (nh0 8 _ _ rfl rfl) (nh0 9 _ _ rfl rfl) (nh0 10 _ _ rfl rfl) (nh0 11 _ _ rfl rfl) (nh0 12 _ _ rfl rfl) (nh0 13 _ _ rfl rfl) (nh0 14 _ _ rfl rfl) (nh0 15 _ _ rfl rfl) (nh0 16 _ _ rfl rfl) (nh0 17 _ _ rfl rfl)) ((globOk W C.nG).mono le1) hva e1).mono fun e W' ⟨he, bel⟩ => ?_
  subst he
  exact ⟨_, rfl, _, _, _, [], _, [], hW', trodAll_mk1 (shut_bool Tryd.underlying4 _), (trodAll_cons_mk (Below.trod laidOut (by kernel_rfl) (of_decide_eq_true (by kernel_rfl)) k0 bel lt0) (trodAll_cons_mk (Below.trod laidOut (by kernel_rfl) (of_decide_eq_true (by kernel_rfl)) k1 bel lt1) trodAll_mk0)), rfl, bel.frame _, fun h => by cases h⟩
theorem over : Rows.replyStatsRow.holds Tryd.pinned (OpenSpec.ofChange Rows.replyStatsSpec) :=
  OpenClaim.holds_of_wide 5 Tryd.f5 rfl rfl rfl rfl rfl rfl rfl ⟨rfl, rfl, rfl, rfl, rfl⟩ rfl rfl rfl rfl rfl (by kernel_rfl) Tryd.func5 (by kernel_rfl)
    (of_decide_eq_true (by kernel_rfl)) (by unfold Func.isWrapper; first | (rw [if_pos (by decide +kernel)]; kernel_rfl) | (rw [if_neg (by decide +kernel)]; exact ⟨rfl, rfl⟩))
    (fun os started H enc _ => lifted os started H enc)
theorem card_proved : Rows.ReplyStatsCardSaid :=
  Claim7.holds_tied_plain_at .later [] [.data, .data, .pinned] true (true, "b808040f5b4f4c47ee052729157e0db02db1ff054a7f096d1d72e833046e85c6") false
    over (fun _ h => by cases h) (by kernel_rfl) (fun _ h => by cases h) replyStats_row_tie rfl ⟨rfl, rfl⟩ (by kernel_rfl) rfl
    (fun f fn hf hfn => by
      obtain rfl : f = 5 := Option.some.inj ((show Tryd.prog.funcNamed "hutch/hutchlaw37.ReplyStats" = some 5 by kernel_rfl).symm.trans hf) |>.symm
      obtain rfl : fn = Tryd.f5 := (Option.some.inj (Tryd.func5.symm.trans hfn)).symm
      exact ⟨by kernel_rfl, fun j t ht => by
        rw [Tryd.params5] at ht
        have hm : t ∈ [43, 44] := by simpa using Array.mem_of_getElem? ht
        have hall : ([43, 44].all fun u => !Tryd.prog.wantsStandIn u) = true := by kernel_rfl
        exact (show Tryd.prog.wantsStandIn t = false by simpa using List.all_eq_true.1 hall t hm)⟩)
    (by kernel_rfl)
#print axioms card_proved
end Go.Proofs.YtpimepdlbhejhaaDoor.replyStats
namespace Go.Proofs.YtpimepdlbhejhaaDoor
/-- The card, under a short name, for the claim. -/
theorem replyStats_holds : Rows.ReplyStatsCardSaid := replyStats.card_proved
end Go.Proofs.YtpimepdlbhejhaaDoor

/- The text of counts: the document's, and the parts of reading. Own text of this session. -/
import Derived.Test.YtpimepdlbhejhaaDoorTxt
set_option linter.unusedVariables false
set_option linter.unusedSimpArgs false
set_option maxRecDepth 4000
set_option maxHeartbeats 8000000
namespace Go.Proofs.YtpimepdlbhejhaaDoor.C
open Go Go.RowKit Go.Proofs.YtpimepdlbhejhaaDoorA Go.Proofs.YtpimepdlbhejhaaDoor.Plain
variable {H : AH}
/-- ref.Print -/
theorem trprint_run {ns : List Int} (hl : ns.length = 10) (hu : ∀ n ∈ ns, U64 n) : CallR cx 15 #[cntV ns] H (fun v H' => v = .string (str (textC ns)) ∧ Fresh H H') := by
  refine wk15 (by simp) ?_
  unfold c15
  refine aw_cut (fun t => t.env 1 = ptr H.next ∧ t.ds = [] ∧ t.H = ⟨H.next + 1, upd H.get H.next (cntB ns)⟩) (by simp [AH.new]) ?_
  rintro ⟨env, H1, ds⟩ ⟨e1, eds, hH⟩
  simp only at e1 eds hH
  have hf : Fresh H H1 := by rw [hH]; exact Fresh.ofNew
  have hr : H1.get H.next = some (cntB ns) := by rw [hH]; simp
  have hlt : H.next < H1.next := by rw [hH]; simp
  clear hH
  have hld : aLoad Tryd.prog 41 (ptr H.next) H1 = some (cntV ns) := by
    rw [ld41, row_of hr (by simp [hl]), List.drop_zero, List.take_of_length_le (by simp [hl])]
    rfl
  refine aw_cut (fun t => t.ds = [] ∧ Fresh H1 t.H ∧ ∃ O, Row 39 true t.H (t.env 3) (cnts ns) O) ?_ ?_
  · simp [e1, hld, -ld41]
    refine callV_R cb29 (list_run hl) ?_
    rintro v H2 ⟨f2, h2⟩
    simp [eds, f2]
    exact ⟨_, h2⟩
  clear e1 eds
  rintro ⟨env, H2, ds⟩ ⟨eds, f2, O2, h2⟩
  simp only at eds f2 h2
  generalize e3 : env 3 = lv at h2
  obtain ⟨rl, rfl, _⟩ := h2.isSlice
  rw [cnts_length, hl] at e3 h2
  refine aw_cut (fun t => t.env 3 = .slice rl 10 10 ∧ t.ds = [] ∧ Fresh H2 t.H ∧ ∃ O, Row 9 true t.H (t.env 4) (strs nm) O) ?_ ?_
  · simp
    refine callV_R cb30 rnames_run ?_
    rintro v H3 ⟨f3, h3⟩
    simp [e3, eds, f3]
    exact ⟨_, h3⟩
  clear e3 eds
  rintro ⟨env, H3, ds⟩ ⟨e3, eds, f3, O3, h3⟩
  simp only at e3 eds f3 h3
  have h23 := h2.keep f3 (fun _ _ => id)
  generalize e4 : env 4 = nv at h3
  obtain ⟨rn, rfl, _⟩ := h3.isSlice
  rw [strs_length, nm_len] at e4 h3
  simp
  refine aw_loop_to 10 (fun k t => t.env 3 = .slice rl 10 10 ∧ t.env 4 = .slice rn 10 10 ∧ t.env 5 = .string (str (Lib.join (wordsK ns k) [32])) ∧ t.env 6 = i64 (k : Nat) ∧ t.ds = [] ∧ Fresh H3 t.H) ?_ ?_ ?_
  · clear e3 e4 eds
    rintro k ⟨env, H4, ds⟩ hk ⟨e3, e4, e5, e6, eds, f4⟩
    simp only at e3 e4 e5 e6 eds f4
    have hk10 : (k : Int) < 10 := by omega
    have h0k : (0 : Int) ≤ k := by omega
    have hkl : k < ns.length := by omega
    have hw : IntKind.i64.wrap ((k : Int) + 1) = ((k + 1 : Nat) : Int) := by rw [w64 (by omega)]; push_cast; rfl
    have hun := hu ns[k] (List.getElem_mem hkl)
    obtain ⟨m, hm⟩ : ∃ m : Nat, ns[k] = (m : Int) := ⟨ns[k].toNat, by unfold U64 at hun; omega⟩
    have h24 := h23.keep f4 (fun _ _ => id)
    have h34 := h3.keep f4 (fun _ _ => id)
    obtain ⟨la, oa, ca, rfl, g1, g2, hOa⟩ := h34.cell (nm_cell k hk)
    have hcn := cnts_at hkl
    rw [hm] at hcn hun
    obtain ⟨lb, ob, cb, rfl, g3, g4, _⟩ := h24.cell hcn
    have ix1 := ix60 la oa 10 10 .i64 (k : Int) h0k (by omega)
    have ix2 := ix24 lb ob 10 10 .i64 (k : Int) h0k (by omega)
    simp only [Int.toNat_natCast] at ix1 ix2
    have hal : la < H4.next := by subst hOa; exact h34.low
    obtain ⟨t0, ht0⟩ : ∃ t, t = Lib.join (wordsK ns k) [32] := ⟨_, rfl⟩
    have hs0 := wordsK_short hu k (by omega)
    have hjn : Lib.join (wordsK ns (k + 1)) [32] = t0 ++ ((if k = 0 then [] else [32]) ++ (nm[k]'(by simp [nm_len, hk]) ++ ([32] ++ dec m))) := by
      rw [wordsK, join_app2, nm_getD hk, List.getD_eq_getElem?_getD, List.getElem?_eq_getElem hkl, Option.getD_some, hm, ← ht0]
      have : wordsK ns k = [] ↔ k = 0 := by
        constructor
        · intro h; have := wordsK_len ns k; rw [h] at this; simp at this; omega
        · rintro rfl; rfl
      simp only [this, Int.toNat_natCast]
    rw [← ht0] at e5 hs0
    have hnl := nm_short _ (List.getElem_mem (show k < nm.length by simp [nm_len, hk]))
    have hdl := u64_len hun
    rw [Int.toNat_natCast] at hdl
    obtain ⟨t1, ht1⟩ : ∃ t, t = t0 ++ (if k = 0 then [] else [32]) := ⟨_, rfl⟩
    have hl1 : t1.length ≤ t0.length + 1 := by rw [ht1]; split <;> simp
    obtain ⟨t2, ht2⟩ : ∃ t, t = t1 ++ nm[k]'(by simp [nm_len, hk]) := ⟨_, rfl⟩
    have hl2 : t2.length ≤ t0.length + 10 := by rw [ht2, List.length_append]; omega
    obtain ⟨t3, ht3⟩ : ∃ t, t = t2 ++ [32] := ⟨_, rfl⟩
    have hl3 : t3.length ≤ t0.length + 11 := by rw [ht3, List.length_append]; simp; omega
    obtain ⟨t4, ht4⟩ : ∃ t, t = t3 ++ dec m := ⟨_, rfl⟩
    have hfin : Lib.join (wordsK ns (k + 1)) [32] = t4 := by rw [hjn, ht4, ht3, ht2, ht1]; simp
    have a2 := addW t1 (nm[k]'(by simp [nm_len, hk])) (by omega)
    have a3 := addW t2 [32] (by simp; omega)
    have a4 := addW t3 (dec m) (by omega)
    rw [← ht2] at a2; rw [← ht3] at a3; rw [← ht4] at a4
    simp only [← blank] at a3
    have fin : ∀ H5, Fresh H4 H5 → (H5.get la = some (.cells ca 9 true 1)) := fun H5 h => by rw [h.get hal, g1]
    by_cases hk0 : k = 0
    · rw [if_pos hk0, List.append_nil] at ht1
      subst ht1
      have hkz : ¬ 0 < k := by omega
      simp [e3, e4, e5, e6, hk10, hkz, ix1, ix2, g1, g2, g3, g4, a2, a3]
      refine callV_R cb13 (rprint_run (n := m) (by unfold U64 at hun; omega)) ?_
      rintro _ H5 ⟨rfl, f5⟩
      have hc5 := fin H5 f5
      simp [a4, e3, e4, e6, hw, eds, g1, g2, hc5, hfin, f4.trans f5]
    · rw [if_neg hk0] at ht1
      have a1 := addW t0 [32] (by simp; omega)
      rw [← ht1] at a1
      simp only [← blank] at a1
      have hkp : 0 < k := by omega
      simp [e3, e4, e5, e6, hk10, hkp, ix1, ix2, g1, g2, g3, g4, a1, a2, a3]
      refine callV_R cb13 (rprint_run (n := m) (by unfold U64 at hun; omega)) ?_
      rintro _ H5 ⟨rfl, f5⟩
      have hc5 := fin H5 f5
      simp [a4, e3, e4, e6, hw, eds, g1, g2, hc5, hfin, f4.trans f5]
  · clear e3 e4 eds
    rintro ⟨env, H4, ds⟩ ⟨e3, e4, e5, e6, eds, f4⟩
    simp only at e3 e4 e5 e6 eds f4
    simp [e3, e5, e6, eds]
    exact ⟨rfl, hf.trans (f2.trans (f3.trans f4))⟩
  · simp [e3, e4, eds, Fresh.refl, wordsK, Lib.join_nil]
/-- the words at even places -/
def evens (ws : List (List UInt8)) : List (List UInt8) := (List.range ((ws.length + 1) / 2)).map fun k => ws.getD (2 * k) []
def evK (ws : List (List UInt8)) (k : Nat) : List (List UInt8) := (List.range k).map fun k => ws.getD (2 * k) []
end Go.Proofs.YtpimepdlbhejhaaDoor.C

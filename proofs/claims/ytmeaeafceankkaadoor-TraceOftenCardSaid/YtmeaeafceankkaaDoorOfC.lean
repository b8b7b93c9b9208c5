/- Going through the keys of a trace. Own text of this session. -/
import Derived.Test.YtmeaeafceankkaaDoorOfB
set_option linter.unusedVariables false
set_option linter.unusedSimpArgs false
set_option maxRecDepth 4000
set_option maxHeartbeats 8000000
namespace Go.Proofs.YtmeaeafceankkaaDoor.C
open Go Go.RowKit Go.Proofs.YtmeaeafceankkaaDoorA Go.Proofs.YtmeaeafceankkaaDoor.Plain
variable {H : AH}
def kv (xs : List Nat) (k : Nat) : Array Value := #[u64 (((unl xs).getD k 0 : Nat) : Int), i64 ((xs.count ((unl xs).getD k 0) : Nat) : Int)]
/-- the function that Often makes -/
theorem often1_run {H0 : AH} {O : Nat → Prop} {g : Value} {c B : Nat} {xs : List Nat} {I : Nat → AH → (Nat → Prop) → Prop} {K : AH → (Nat → Prop) → Prop}
    (hc : Client cx g (kv xs) (unl xs).length I K) (hof : OftR xs B H0 c) (hl : xs.length ≤ 50000) (h0 : I 0 H0 O) :
    CallR cx 34 #[g, ptr c] H0 (fun v H' => v = .tuple #[] ∧ TellEnd (unl xs).length I K H0 O H') := by
  have hlow := hc.low h0
  have hul := unl_le _ xs rfl
  obtain ⟨mv, Oc, hBc, hcn, hgc, hmine, hOc, hne⟩ := hof
  obtain ⟨m, hm⟩ : ∃ m, m = (unl xs).length := ⟨_, rfl⟩
  rw [← hm] at hc ⊢
  refine wk34 (by simp) ?_
  unfold c34
  refine aw_cut (fun t => t.env 0 = g ∧ t.ds = [] ∧ Fresh H0 t.H ∧ CntR xs H0.next t.H (.tuple #[t.env 3, t.env 4])) ?_ ?_
  · simp [hgc]
    refine callV_R cb35 (counts_run hmine hl) ?_
    rintro _ H1 ⟨f1, gv, O1, m1, es, rfl, hrow, hO1, hm1, hm2, hg1, hcs⟩
    have res : CntR xs H0.next H1 (.tuple #[gv, .map (some m1)]) := ⟨gv, O1, m1, es, rfl, hrow, hO1, hm1, hm2, hg1, hcs⟩
    simp [f1]
    exact res
  rintro ⟨env, Hs, ds⟩ ⟨e0, eds, hf, gv, Or, mm, es, h34, hrow, hO, hmm1, hmm2, hmap, hcs⟩
  simp only at e0 eds hf h34 hrow hmm2 hmap
  obtain ⟨e3, e4⟩ : env 3 = gv ∧ env 4 = .map (some mm) := by simpa using h34
  clear h34
  have hI0 : I 0 Hs O := hc.stable h0 (fun l hl => by rw [hf.get (hlow l hl)]) hf.1
  have hs := hrow.isSlice
  obtain ⟨ra, rfl, _⟩ := hs
  simp only [List.length_map, ← hm] at e3 hrow
  have fin : ∀ (H2 : AH) (Ok : Nat → Prop), (∀ l, Ok l → O l ∨ Hs.next ≤ l) → Keep O Hs H2 → (∀ l, Ok l → O l ∨ H0.next ≤ l) ∧ Keep O H0 H2 := by
    intro H2 Ok hO hk
    refine ⟨fun l hl => (hO l hl).imp id (by have := hf.1; omega), ⟨by have := hk.1; have := hf.1; omega, fun l hl hn => ?_⟩⟩
    rw [hk.get (by have := hf.1; omega) hn, hf.get hl]
  refine aw_cut (fun t => t.env 0 = g ∧ t.env 4 = .map (some mm) ∧ t.env 12 = .slice ra m m ∧ t.env 13 = i64 m ∧ t.env 14 = i64 0 ∧ t.ds = [] ∧ t.H = Hs) (by simp [e0, e3, e4, eds]) ?_
  clear e0 e3 e4 eds
  rintro ⟨env, H3, ds⟩ ⟨e0, e4, e12, e13, e14, eds, hH⟩
  simp only at e0 e4 e12 e13 e14 eds hH
  subst hH
  simp
  refine aw_loop_to m (fun k s => s.env 0 = g ∧ s.env 4 = .map (some mm) ∧ s.env 12 = .slice ra m m ∧ s.env 13 = i64 m ∧ s.env 14 = i64 k ∧ s.ds = [] ∧ ∃ Ok, I k s.H Ok ∧ (∀ l, Ok l → O l ∨ H3.next ≤ l) ∧ Keep O H3 s.H) ?_ ?_ ?_
  · clear e0 e4 e12 e13 e14 eds
    rintro k ⟨env, H1, ds⟩ hk ⟨f0, f4, f12, f13, f14, fds, Ok, hik, hok, hkeep⟩
    simp only at f0 f4 f12 f13 f14 fds hik hkeep
    have hkN : (k : Int) < m := by omega
    have hw : IntKind.i64.wrap ((k : Int) + 1) = (k : Int) + 1 := w64 (by omega)
    have hku : k < (unl xs).length := by omega
    have hxc : (gcells (unl xs))[k]? = some (u64 ((unl xs)[k] : Nat)) := by simp [hku]
    have hr1 : Row 39 true H1 (.slice ra m m) (gcells (unl xs)) Or := hrow.keep hkeep (fun l e h => by have := hlow _ h; have := hO l e; omega)
    obtain ⟨la, oa, ca, hra, g1, g2, _⟩ := hr1.cell hxc
    have hix := ix22 la oa m m .i64 (k : Int) (by omega) hkN
    rw [Int.toNat_natCast] at hix
    have hmp : H1.get mm = some (.map .u64 .i64 es) := by rw [hkeep.get hmm2 (fun h => by have := hlow _ h; omega), hmap]
    have hst := hc.step hk hik
    have hgd : (unl xs).getD k 0 = (unl xs)[k] := by rw [List.getD_eq_getElem?_getD, List.getElem?_eq_getElem hku]; rfl
    unfold kv at hst
    rw [hgd] at hst
    have hck := hcs (unl xs)[k]
    generalize (unl xs)[k] = x at g2 hst hck
    have hlk := aLookup_of (P := Tryd.prog) (t := 66) mk66 hmp (x : Int) false
    rw [lkV_eq, hck] at hlk
    simp only [Bool.false_eq_true, if_false] at hlk
    simp [f0, f4, f12, f13, f14, hk, hra, hix, g1, g2, hlk]
    obtain ⟨v, H2, hcall, O', hO', hk', hv⟩ := callV_of hst
    have hok' : ∀ l, O' l → O l ∨ H3.next ≤ l := fun l hl => by
      rcases hO' l hl with h | h
      · exact hok l h
      · exact .inr (Nat.le_trans hkeep.1 h)
    have hkp : Keep O H3 H2 := ⟨Nat.le_trans hkeep.1 hk'.1, fun l hl hn => by
      rw [hk'.get (Nat.lt_of_lt_of_le hl hkeep.1) (fun h => by rcases hok l h with h | h; exact hn h; omega), hkeep.get hl hn]⟩
    refine callV_G hcall ?_
    rcases hv with ⟨rfl, hv⟩ | ⟨rfl, hv⟩
    · simp [f0, f4, f12, f13, f14, hra, hw, fds]
      exact ⟨O', hv, hok', hkp⟩
    · obtain ⟨h1, h2⟩ := fin H2 O' hok' hkp
      simp [f0, f4, f12, f13, f14, fds]
      exact ⟨O', h1, h2, .inr hv⟩
  · clear e0 e4 e12 e13 e14 eds
    rintro ⟨env, H1, ds⟩ ⟨f0, f4, f12, f13, f14, fds, Ok, hik, hok, hkeep⟩
    simp only at f0 f4 f12 f13 f14 fds hik hkeep
    obtain ⟨h1, h2⟩ := fin H1 Ok hok hkeep
    simp [f13, f14, fds]
    exact ⟨Ok, h1, h2, .inl hik⟩
  · simp [e0, e4, e12, e13, e14, eds]
    exact ⟨O, hI0, fun l hl => .inl hl, Keep.refl⟩
end Go.Proofs.YtmeaeafceankkaaDoor.C

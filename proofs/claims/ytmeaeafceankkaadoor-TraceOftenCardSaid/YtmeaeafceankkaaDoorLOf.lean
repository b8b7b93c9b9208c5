/- TraceOften over the small heap. Own text of this session. -/
import Derived.Test.YtmeaeafceankkaaDoorOfD
import Derived.Test.YtmeaeafceankkaaDoorLMk
set_option linter.unusedVariables false
set_option linter.unusedSimpArgs false
set_option maxRecDepth 4000
set_option maxHeartbeats 8000000
namespace Go.Proofs.YtmeaeafceankkaaDoor.C
open Go Go.RowKit Go.Proofs.YtmeaeafceankkaaDoorA Go.Proofs.YtmeaeafceankkaaDoor.Plain
variable {H : AH}
theorem hasG_any (H : AH) : HasG gs H := by intro x hx; cases hx
theorem alloc4 (H : AH) : aAlloc Tryd.prog 4 H = some (ptr H.next, ⟨H.next + 1, upd H.get H.next (.cells [.bool false] 4 true 0)⟩) := by kernel_rfl
theorem alloc3 (H : AH) : aAlloc Tryd.prog 3 H = some (ptr H.next, ⟨H.next + 1, upd H.get H.next (.cells [i64 0] 3 true 0)⟩) := by kernel_rfl
/-- what the law's loop keeps: the keys' cell, the number's, the wanted ones', the count's -/
def OfI (K M Wc Nn L mk : Nat) (Oa : Option Nat) (xs : List Nat) (most : Nat) (env1 : Env) (st : LoopState) (pd : Option Code) (k : Nat) (H : AH) (Ok : Nat → Prop) : Prop :=
  ∃ sv wv Ow, (∀ x, Ok x ↔ (x = K ∨ x = M ∨ x = Wc ∨ x = Nn ∨ x = L ∨ Oa = some x ∨ Ow = some x)) ∧ k ≤ (unl xs).length ∧ k ≤ most ∧ H.get K = some (.cells [sv] 22 true 0) ∧ H.get M = some (.cells [.int .u8 most] 5 true 0) ∧ H.get Wc = some (.cells [wv] 22 true 0) ∧
    H.get Nn = some (.cells [i64 (k : Nat)] 3 true 0) ∧ H.get L = some (.loop env1 65 #[28, 29] c5_0as c5_0bd st pd mk) ∧ Row 39 false H sv (gcells xs) Oa ∧ Row 39 true H wv (gcells (unl xs)) Ow ∧
    (∀ o, Oa = some o → o < K) ∧ (∀ o, Ow = some o → o ≠ L ∧ o ≠ Nn) ∧ (K < M ∧ M < Wc ∧ Wc < Nn ∧ Nn < L ∧ L < H.next)
theorem OfI.stable {K M Wc Nn L mk : Nat} {Oa : Option Nat} {xs : List Nat} {most : Nat} {env1 : Env} {st : LoopState} {pd : Option Code} {k : Nat} {H H' : AH} {Ok : Nat → Prop} (h : OfI K M Wc Nn L mk Oa xs most env1 st pd k H Ok) (hk : ∀ l, Ok l → H'.get l = H.get l) (hn : H.next ≤ H'.next) : OfI K M Wc Nn L mk Oa xs most env1 st pd k H' Ok := by
  obtain ⟨sv, wv, Ow, h1, h2, h3, h4, h5, h6, h7, h8, h9, h10, h11, h12, h13⟩ := h
  refine ⟨sv, wv, Ow, h1, h2, h3, ?_, ?_, ?_, ?_, ?_, h9.same (fun l hl => hk l ((h1 l).2 (by simp [hl]))) hn, h10.same (fun l hl => hk l ((h1 l).2 (by simp [hl]))) hn, h11, h12, by omega⟩
  · rw [hk _ ((h1 _).2 (by simp)), h4]
  · rw [hk _ ((h1 _).2 (by simp)), h5]
  · rw [hk _ ((h1 _).2 (by simp)), h6]
  · rw [hk _ ((h1 _).2 (by simp)), h7]
  · rw [hk _ ((h1 _).2 (by simp)), h8]
theorem OfI.low {K M Wc Nn L mk : Nat} {Oa : Option Nat} {xs : List Nat} {most : Nat} {env1 : Env} {st : LoopState} {pd : Option Code} {k : Nat} {H : AH} {Ok : Nat → Prop} (h : OfI K M Wc Nn L mk Oa xs most env1 st pd k H Ok) : ∀ l, Ok l → l < H.next := by
  obtain ⟨sv, wv, Ow, h1, h2, h3, h4, h5, h6, h7, h8, h9, h10, h11, h12, h13⟩ := h
  intro l hl
  rcases (h1 l).1 hl with h | h | h | h | h | h | h
  all_goals try omega
  · subst h; exact h9.low
  · subst h; exact h10.low
theorem of_client {K M Wc Nn L mk : Nat} {Oa : Option Nat} {xs : List Nat} {most : Nat} {env1 : Env} (e2 : env1 2 = ptr K) (e3 : env1 3 = ptr M) (e5 : env1 5 = ptr Wc) (e7 : env1 7 = ptr Nn) (hl : xs.length ≤ 300) (hmo : most ≤ 255) :
    Client cx (.func (.yield L) #[] #[]) (kv xs) (unl xs).length (fun k => OfI K M Wc Nn L mk Oa xs most env1 .ready none k) (OfI K M Wc Nn L mk Oa xs most env1 .done (some (.exit 0)) most) := by
  have hul := unl_le _ xs rfl
  refine ⟨fun h => h.stable, fun h => h.stable, fun h => h.low, fun h => h.low, ?_⟩
  rintro k H Ok hk ⟨sv, wv, Ow, h1, h2, h3, h4, h5, h6, h7, h8, h9, h10, h11, h12, h13⟩
  have hgd : (unl xs).getD k 0 = (unl xs)[k] := by rw [List.getD_eq_getElem?_getD, List.getElem?_eq_getElem hk]; rfl
  have hwk : (gcells (unl xs))[k]? = some (u64 ((unl xs)[k] : Nat)) := by simp [hk]
  unfold kv
  rw [hgd]
  generalize (unl xs)[k] = x at hwk
  refine yield_go h8 rfl c5_0as_c_code c5_0bd_c_code c5_0as_c_ok c5_0bd_c_ok ?_
  simp [c5_0as_c, bindAll, h8]
  generalize hHb : upd H.get L (.loop env1 65 #[28, 29] c5_0as c5_0bd .busy none mk) = gb
  have hgb : ∀ y, y ≠ L → gb y = H.get y := fun y hy => by rw [← hHb]; simp [hy]
  have hgl : gb L = some (.loop env1 65 #[28, 29] c5_0as c5_0bd .busy none mk) := by rw [← hHb]; simp
  have nK : K ≠ L := by omega
  have nM : M ≠ L := by omega
  have nW : Wc ≠ L := by omega
  have nN : Nn ≠ L := by omega
  have hm255 : IntKind.i64.wrap (most : Int) = (most : Int) := w64 (by omega)
  have oA : ∀ o, Oa = some o → o ≠ L ∧ o ≠ Nn := fun o ho => by have := h11 o ho; omega
  have h9s := h9.isSlice
  have h10s := h10.isSlice
  obtain ⟨ra, rfl, _⟩ := h9s
  obtain ⟨rw', rfl, _⟩ := h10s
  simp only [List.length_map] at h4 h6 h9 h10
  have h9b : Row 39 false ⟨H.next, gb⟩ (.slice ra xs.length xs.length) (gcells xs) Oa := h9.same (fun o ho => hgb o (oA o ho).1) (Nat.le_refl _)
  have h10b : Row 39 true ⟨H.next, gb⟩ (.slice rw' (unl xs).length (unl xs).length) (gcells (unl xs)) Ow := h10.same (fun o ho => hgb o (h12 o ho).1) (Nat.le_refl _)
  by_cases hm : most ≤ k
  · obtain rfl : k = most := by omega
    simp [c5_0bd_c, e2, e3, e5, e7, hgb, nK, nM, nW, nN, h4, h5, h6, h7, hm255, hgl, Ex.isNormal, Ex.jump]
    refine ⟨Ok, fun l hl => .inl hl, ⟨Nat.le_refl _, fun l hl hn => ?_⟩, ?_⟩
    · have : ¬ l = L := fun e => hn ((h1 l).2 (by simp [e]))
      simp [this, hgb]
    · refine ⟨_, _, Ow, h1, h2, Nat.le_refl _, ?_, ?_, ?_, ?_, by simp, h9b.same (fun o ho => by simp [(oA o ho).1]) (Nat.le_refl _), h10b.same (fun o ho => by simp [(h12 o ho).1]) (Nat.le_refl _), h11, h12, h13⟩
      · simp [nK, hgb, h4]
      · simp [nM, hgb, h5]
      · simp [nW, hgb, h6]
      · simp [nN, hgb, h7]
  · have hmk : ¬ (most : Int) ≤ k := by omega
    have hkI : (k : Int) < (unl xs).length := by omega
    have hnk : ¬ (unl xs).length ≤ k := by omega
    obtain ⟨lw, ow, cw, hrw, g1, g2, _⟩ := h10b.cell hwk
    simp only at g1
    have hix := ix22 lw ow (unl xs).length (unl xs).length .i64 (k : Int) (by omega) hkI
    rw [Int.toNat_natCast] at hix
    have hcl : xs.count x ≤ 300 := Nat.le_trans List.count_le_length hl
    have hw : IntKind.i64.wrap ((k : Int) + 1) = ((k + 1 : Nat) : Int) := by rw [w64 (by omega)]; push_cast; rfl
    simp [c5_0bd_c, e2, e3, e5, e7, hgb, nK, nM, nW, nN, h4, h5, h6, h7, hm255, hm, hmk, hnk, hrw, hix, g1, g2]
    refine callV_R cb16 (roften_run h9b (by omega)) ?_
    rintro _ H2 ⟨rfl, hH⟩
    subst hH
    have nNL : ¬ L = Nn := by omega
    simp [e2, e3, e5, e7, hgb, nK, nM, nW, nN, h4, h5, h6, h7, hw, hgl, nNL, Ex.isNormal, Ex.jump]
    refine ⟨Ok, fun l hl => .inl hl, ⟨Nat.le_refl _, fun l hl hn => ?_⟩, ?_⟩
    · have n1 : ¬ l = L := fun e => hn ((h1 l).2 (by simp [e]))
      have n2 : ¬ l = Nn := fun e => hn ((h1 l).2 (by simp [e]))
      simp [n1, n2, hgb]
    · have nKN : ¬ K = Nn := by omega
      have nMN : ¬ M = Nn := by omega
      have nWN : ¬ Wc = Nn := by omega
      refine ⟨_, _, Ow, h1, by omega, by omega, ?_, ?_, ?_, ?_, by simp, h9b.same (fun o ho => by simp [(oA o ho).1, (oA o ho).2]) (Nat.le_refl _), h10b.same (fun o ho => by simp [(h12 o ho).1, (h12 o ho).2]) (Nat.le_refl _), h11, h12, h13⟩
      · simp [nK, nKN, hgb, h4]
      · simp [nM, nMN, hgb, h5]
      · simp [nW, nWN, hgb, h6]
      · simp [nN]
end Go.Proofs.YtmeaeafceankkaaDoor.C

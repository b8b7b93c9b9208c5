/-
  A SMALL HEAP FOR A LARGE ONE (part 21: reckoning with functions of the library that are known by contract). Own text of this session.
-/
import Derived.Test.YtmeaeafceankkaaDoorA20
set_option linter.unusedVariables false
set_option linter.unusedSimpArgs false
namespace Go.Proofs.YtmeaeafceankkaaDoorA
open Go Go.RowKit

def levX (X : FE) (P : Program) (G : Nat → Bool) (m : Nat) : Nat → FE × CE
  | 0 => (fun _ _ _ => none, fun _ _ _ _ => none)
  | n + 1 => (fun f args H => match X f args H with
      | some r => some r
      | none => xF P (xE P G (levX X P G m n).1 (levX X P G m n).2 m) f args H, xE P G (levX X P G m n).1 (levX X P G m n).2 m)
theorem levX_ok {C : Cx} {X : FE} (hX : FOk C X) (m : Nat) : ∀ n, FOk C (levX X C.P C.G m n).1 ∧ EOk C (levX X C.P C.G m n).2
  | 0 => ⟨fun _ _ _ _ _ h => (by cases h), fun _ _ _ _ _ _ h => (by cases h)⟩
  | n + 1 => by
    obtain ⟨h1, h2⟩ := levX_ok hX m n
    refine ⟨fun f args H v H' h => ?_, xE_ok h1 h2 m⟩
    simp only [levX] at h
    split at h
    · rename_i r hr
      cases h
      exact hX _ _ _ _ _ hr
    · exact xF_ok (xE_ok h1 h2 m) _ _ _ _ _ h
def comesToX (X : FE) (P : Program) (n : Nat) (gs : Globs) (m k : Nat) (c : Closed) : Bool := match (levX X P (GG n) m k).1 c.1 c.2.1 (HG n gs) with
  | some (v, _) => veqT v c.2.2
  | _ => false
theorem closedOrcX_ok {P : Program} {X : FE} {orc0 : FuncId → Array Value → AH → Value → AH → Prop} {n : Nat} {gs : Globs} {m k : Nat} {cs : List Closed} {orc : FuncId → Array Value → AH → Value → AH → Prop} (hmix : P.follows .mixedOrders = true) (hP : progOk P (GG n) = true) (hlt : gs.all (fun x => decide (x.1 < n)) = true)
    (hdat : ∀ x ∈ gs, ∀ v ∈ x.2, ∀ ρ ρ' v', VR ρ v v' → v' = v ∧ VR ρ' v v) (hb : (cs.all fun c => c.2.1.toList.all bareA && bare c.2.2) = true) (hX : FOk ⟨P, GG n, orc0⟩ X) (hO : ∀ f args H v H', orc0 f args H v H' → JOk ⟨P, GG n, orc0⟩ (.call f args H v H')) (h : (cs.all (comesToX X P n gs m k)) = true) :
    ∀ f args H v H', closedOrc gs cs f args H v H' → JOk ⟨P, GG n, orc⟩ (.call f args H v H') := by
  rintro f args H v H' ⟨hc, rfl, hg⟩ ρ B args' w hG ha hE
  have hb' := List.all_eq_true.1 hb _ hc
  simp only [Bool.and_eq_true] at hb'
  have h0 : args' = args := by
    refine Array.ext ha.1.symm (fun i hi hi' => ?_)
    have hv := ha.2 i hi'
    simp only [Array.getD, hi, hi', dif_pos] at hv
    exact bareA_eq (List.all_eq_true.1 hb'.1 args[i] (by simp)) hv
  subst h0
  have hin : GlobIn w n gs := by
    intro x hx
    have hxn : x.1 < n := of_decide_eq_true (List.all_eq_true.1 hlt x hx)
    refine ⟨hxn, fun v hv ρ' => ?_, ?_⟩
    · obtain ⟨p, hp, C, T, z, h1, h2, h3, h4, h5, h6⟩ := hE.blk _ _ (hg x hx)
      obtain ⟨i, hi⟩ := List.getElem?_of_mem hv
      obtain ⟨v', _, h7⟩ := h5 i v hi
      exact (hdat x hx v hv ρ ρ' v' h7).2
    · obtain ⟨p, hp, C, T, z, h1, h2, h3, h4, h5, h6⟩ := hE.blk _ _ (hg x hx)
      obtain ⟨q, hq, hq1, hq2⟩ := hG x.1 (by simp [GG, hxn])
      rw [hp] at hq
      cases hq
      rw [hq1] at h1
      refine ⟨C, T, z, h1, fun i v hv => ?_⟩
      obtain ⟨v', h7, h8⟩ := h5 i v hv
      rw [hq2, Nat.zero_add, (hdat x hx v (List.mem_of_getElem? hv) ρ ρ v' h8).1] at h7
      exact h7
  have hrun : ∃ H1, Run ⟨P, GG n, orc0⟩ (.call f args' (HG n gs) v H1) := by
    have h1 := List.all_eq_true.1 h _ hc
    unfold comesToX at h1
    split at h1
    · rename_i v' H1 h2
      have := veqT_eq h1
      simp only at this
      subst this
      exact ⟨H1, (levX_ok (C := ⟨P, GG n, orc0⟩) hX m k).1 _ _ _ _ _ h2⟩
    · cases h1
  obtain ⟨H1, hr⟩ := hrun
  have ha' : VRA (ρG w n) args' args' := vra_data fun v hv => by
    have := List.all_eq_true.1 hb'.1 v (by simpa using hv)
    unfold bareA at this
    split at this
    · exact bare_vr (by simpa [bare] using this)
    · exact bare1_vr this
  have := sound (C := ⟨P, GG n, orc0⟩) hmix (progOk_inv hP) hO hr
  refine (this (ρG w n) w.heap.size args' w (globOk w n) ha' (emb_HG hin)).mono ?_
  rintro e w' ⟨v', ρ', rfl, _, hv, _, hbl⟩
  have e : v' = v := by
    have hbv := hb'.2
    cases v with
    | tuple a =>
      cases hv with
      | tuple _ cs' h1 h2 =>
        congr 1
        refine Array.ext h1.symm fun i hi hi' => ?_
        have := h2 i hi'
        simp only [Array.getD, hi, hi', dif_pos] at this
        exact bare1_eq (List.all_eq_true.1 hbv a[i] (by simp)) this
    | agg a => exact bare_agg_eq hbv hv
    | _ => exact bare1_eq hbv hv
  subst e
  exact ⟨v', ρ, rfl, LMap.le_refl _, bare_vr hb'.2, hE.below hbl, hbl.mono hE.size⟩

/-! ### strings.Join reckoned -/
def textsOf : List Value → Option (List (List UInt8))
  | [] => some []
  | .string s :: l => (textsOf l).map (s.data.toList :: ·)
  | _ => none
theorem textsOf_eq : ∀ {l : List Value} {xs : List (List UInt8)}, textsOf l = some xs → l = strs xs
  | [], xs, h => by cases h; rfl
  | v :: l, xs, h => by
    cases v with
    | string s =>
      simp only [textsOf, Option.map_eq_some_iff] at h
      obtain ⟨ys, h1, rfl⟩ := h
      rw [textsOf_eq h1]
      show _ = Value.string (str s.data.toList) :: strs ys
      rw [← str_eta]
    | _ => simp [textsOf] at h
def rowOf (T0 : TypeId) (H : AH) : Value → Option (List (List UInt8))
  | .slice none 0 0 => some []
  | .slice (some ⟨l, o, none⟩) n n' => match H.get l with
    | some (.cells cs T own z) => if n = n' ∧ T = T0 ∧ z = 1 ∧ o + n ≤ cs.length ∧ l < H.next then textsOf ((cs.drop o).take n) else none
    | _ => none
  | _ => none
theorem rowOf_row {T : TypeId} {H : AH} {sv : Value} {xs : List (List UInt8)} (h : rowOf T H sv = some xs) : ∃ own O, Row T own H sv (strs xs) O := by
  unfold rowOf at h
  split at h
  · cases h; exact ⟨true, none, Row.nil⟩
  · split at h
    · rename_i l o n n' _ cs T' own z hg
      split at h
      · rename_i hc
        obtain ⟨rfl, rfl, rfl, h1, h2⟩ := hc
        have e := textsOf_eq h
        have hl : (strs xs).length = n := by rw [← e]; simp; omega
        exact ⟨own, some l, o, cs, by rw [hl], hg, by rw [hl, e], by rw [hl]; exact h1, h2⟩
      · cases h
    · cases h
  · cases h
def joinFE (f0 : FuncId) (T : TypeId) : FE := fun f args H => if f = f0 then (match args.toList with
  | [sv, .string sep] => match rowOf T H sv with
    | some xs => if xs.length ≤ 140737488355328 ∧ (Lib.join xs sep.data.toList).length ≤ 140737488355328 then some (.string (str (Lib.join xs sep.data.toList)), H) else none
    | none => none
  | _ => none) else none
theorem joinFE_ok {C : Cx} {f0 : FuncId} {T : TypeId} (h : ∀ f args H v H', joinOrc f0 T f args H v H' → C.orc f args H v H') : FOk C (joinFE f0 T) := by
  intro f args H v H' hx
  unfold joinFE at hx
  split at hx
  · rename_i hf
    split at hx
    · rename_i sv sep ha
      split at hx
      · rename_i xs hr
        split at hx
        · rename_i hl
          cases hx
          obtain ⟨own, O, hrow⟩ := rowOf_row hr
          refine .orc (h _ _ _ _ _ ⟨hf, rfl, sv, own, xs, sep.data.toList, O, ?_, hrow, hl.1, hl.2, rfl⟩)
          rw [← str_eta]
          cases args
          simp at ha
          simp [ha]
        · cases hx
      · cases hx
    · cases hx
  · cases hx
end Go.Proofs.YtmeaeafceankkaaDoorA

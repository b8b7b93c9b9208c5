/- Answers read of a line: the program's. Own text of this session. -/
import Derived.Test.YtpimepdlbhejhaaDoorHex4
import Derived.Test.YtpimepdlbhejhaaDoorWords
import Derived.Test.YtpimepdlbhejhaaDoorFld
set_option linter.unusedVariables false
set_option linter.unusedSimpArgs false
set_option maxRecDepth 4000
set_option maxHeartbeats 8000000
namespace Go.Proofs.YtpimepdlbhejhaaDoor.C
open Go Go.RowKit Go.Proofs.YtpimepdlbhejhaaDoorA Go.Proofs.YtpimepdlbhejhaaDoor.Plain
variable {H : AH}
/-- does a text begin so? -/
def pre (p l : List UInt8) : Bool := decide (l.take p.length = p)
theorem pre_iff {p l : List UInt8} : pre p l = true ↔ ∃ r, l = p ++ r := by
  simp only [pre, decide_eq_true_eq]
  constructor
  · intro h
    have := List.take_append_drop p.length l
    rw [h] at this
    exact ⟨_, this.symm⟩
  · rintro ⟨r, rfl⟩; simp
theorem hasP_run {p l : List UInt8} : CallR cx 56 #[.string (str l), .string (str p)] H (fun v H' => v = .bool (pre p l) ∧ H' = H) := by
  refine wk56 (by simp) ?_
  by_cases h : p.length ≤ l.length
  · have hI : (p.length : Int) ≤ l.length := by omega
    have hs := aSlice_str (P := Tryd.prog) (t := 9) un9 l (lo := none) (hi := some (i64 (p.length : Nat))) (a := 0) (b := p.length) (H := H) (by simp [bnd]; omega) (by simp [bnd]) (by omega) (by omega)
    have heq := fun ox oy => aBin_streqL (P := Tryd.prog) (t := 9) ox oy un9 (l.take p.length) p
    simp at hs
    simp [c56, hI, h, hs, heq, pre]
  · have hI : ¬ (p.length : Int) ≤ l.length := by omega
    have hp : pre p l = false := by
      cases hc : pre p l with
      | false => rfl
      | true => obtain ⟨r, rfl⟩ := pre_iff.1 hc; simp at h
    simp [c56, hI, h, hp]
theorem cutP1_run {p l : List UInt8} : CallR cx 50 #[.string (str l), .string (str p)] H (fun v H' => v = .tuple #[.string (str (if pre p l = true then l.drop p.length else l)), .bool (pre p l)] ∧ H' = H) := by
  refine wk50 (by simp) ?_
  simp [c50]
  refine callV_R cb56 hasP_run ?_
  rintro _ H1 ⟨rfl, rfl⟩
  cases hc : pre p l with
  | false => simp
  | true =>
    obtain ⟨r, rfl⟩ := pre_iff.1 hc
    have hs := aSlice_str (P := Tryd.prog) (t := 9) un9 (p ++ r) (lo := some (i64 (p.length : Nat))) (hi := none) (a := p.length) (b := (p ++ r).length) (H := H1) (by simp [bnd]) (by simp [bnd]; omega) (by simp) (by simp)
    have ht : List.take (p ++ r).length (p ++ r) = p ++ r := List.take_of_length_le (Nat.le_refl _)
    rw [ht] at hs
    simp at hs
    simp [hs]
theorem cutP_run {p l : List UInt8} : CallR cx 37 #[.string (str l), .string (str p)] H (fun v H' => v = .tuple #[.string (str (if pre p l = true then l.drop p.length else l)), .bool (pre p l)] ∧ H' = H) := by
  refine wk37 (by simp) ?_
  simp [c37]
  refine callV_R cb50 cutP1_run ?_
  rintro _ H1 ⟨rfl, rfl⟩
  simp
/-- an answer -/
abbrev ansV (hit : Bool) (sv gv : Value) (e : Int) : Value := .agg #[.bool hit, sv, gv, i64 e]
abbrev nilS : Value := .slice none 0 0
abbrev ansB (hit : Bool) (sv gv : Value) (e : Int) : ABlk := .cells [.bool hit, sv, gv, i64 e] 27 true 0
theorem alloc27 (H : AH) : aAlloc Tryd.prog 27 H = some (ptr H.next, ⟨H.next + 1, upd H.get H.next (ansB false nilS nilS 0)⟩) := by kernel_rfl
theorem build27 : aBuild Tryd.prog 27 [] = some (ansV false nilS nilS 0) := by kernel_rfl
theorem build27h (b : Bool) : aBuild Tryd.prog 27 [(0, .bool b)] = some (ansV b nilS nilS 0) := by kernel_rfl
theorem build27e (e : Int) : aBuild Tryd.prog 27 [(3, i64 e)] = some (ansV false nilS nilS e) := by kernel_rfl
theorem build27v (b : Bool) (a : Option Addr) (n c : Nat) : aBuild Tryd.prog 27 [(0, .bool b), (1, .slice a n c)] = some (ansV b (.slice a n c) nilS 0) := by kernel_rfl
theorem build27g (a : Option Addr) (n c : Nat) : aBuild Tryd.prog 27 [(2, .slice a n c)] = some (ansV false nilS (.slice a n c) 0) := by kernel_rfl
def errP : List UInt8 := [101, 114, 114, 111, 114, 32]
def hitP : List UInt8 := [104, 105, 116, 32]
def errLine (n : Int) : List UInt8 := errP ++ sdec n
theorem isI_uniq {l : List UInt8} {i j : Int} (h1 : IsI l i) (h2 : IsI l j) : i = j := by
  by_cases h : l.head? = some 45
  · obtain ⟨a1, a2⟩ := isI_neg h1 h
    obtain ⟨b1, b2⟩ := isI_neg h2 h
    have := a2.uniq b2
    omega
  · obtain ⟨a1, a2⟩ := isI_pos h1 h
    obtain ⟨b1, b2⟩ := isI_pos h2 h
    have := a2.uniq b2
    omega
/-- what readErr tells -/
def ErrR (s : List UInt8) (v : Value) : Prop := (∃ n, 1 ≤ n ∧ n ≤ 99 ∧ s = errLine n ∧ v = .tuple #[ansV false nilS nilS n, .bool true]) ∨ ((∀ n, 1 ≤ n → n ≤ 99 → s ≠ errLine n) ∧ v = .tuple #[ansV false nilS nilS 0, .bool false])
theorem st27b {H : AH} {l : Nat} {b b' : Bool} {s g s' g' : Value} {e e' : Int} (hg : H.get l = some (ansB b s g e)) (hs : isCell s' = true) (hgc : isCell g' = true) : aStore Tryd.prog 27 (ptr l) (ansV b' s' g' e') H = some ⟨H.next, upd H.get l (ansB b' s' g' e')⟩ := by
  rw [st27 _ _ _ rfl]
  show H.wrs l 0 [.bool b', s', g', i64 e'] = _
  rw [wrs_of hg (by simp) (by simp [hs, hgc]), setAll_all _ _ (by simp)]
theorem ld27b {H : AH} {l : Nat} {b : Bool} {s g : Value} {e : Int} (hg : H.get l = some (ansB b s g e)) : aLoad Tryd.prog 27 (ptr l) H = some (ansV b s g e) := by
  rw [ld27, row_of hg (by simp)]
  simp
theorem readErr_run {s : List UInt8} (hs : s.length < 100000) : CallR cx 24 #[.string (str s)] H (fun v H' => Fresh H H' ∧ ErrR s v) := by
  refine wk24 (by simp) ?_
  unfold c24
  refine aw_cut (fun t => t.env 0 = .string (str s) ∧ t.env 2 = ptr H.next ∧ t.ds = [] ∧ t.H = ⟨H.next + 1, upd H.get H.next (ansB false nilS nilS 0)⟩) (by simp [alloc27]) ?_
  rintro ⟨env, H1, ds⟩ ⟨e0, e2, eds, hH⟩
  simp only at e0 e2 eds hH
  have f1 : Fresh H H1 := by rw [hH]; exact Fresh.ofNew
  have r1 : H1.get H.next = some (ansB false nilS nilS 0) := by rw [hH]; simp
  clear hH
  have hcut := cutP_run (H := H1) (p := errP) (l := s)
  refine aw_cut (fun t => t.env 2 = ptr H.next ∧ t.env 4 = .string (str (if pre errP s = true then s.drop errP.length else s)) ∧ t.env 5 = .bool (pre errP s) ∧ t.ds = [] ∧ t.H = H1) ?_ ?_
  · simp [e0]
    refine callV_R cb37 hcut ?_
    rintro _ H2 ⟨rfl, hH⟩
    subst hH
    simp [e2, eds]
  clear e0 e2 eds hcut
  rintro ⟨env, H2, ds⟩ ⟨e2, e4, e5, eds, hH⟩
  simp only at e2 e4 e5 eds hH
  subst hH
  refine aw_cut (fun t => t.env 2 = ptr H.next ∧ t.env 5 = .bool (pre errP s) ∧ t.ds = [] ∧ t.H = H2 ∧ ∃ n b, t.env 6 = i64 n ∧ t.env 7 = .bool b ∧ ToldI (if pre errP s = true then s.drop errP.length else s) (.tuple #[i64 n, .bool b])) ?_ ?_
  · simp [e4]
    refine callV_R cb38 readInt_run ?_
    rintro v H3 ⟨hH, ht⟩
    subst hH
    have hv : ∃ n b, v = .tuple #[i64 n, .bool b] := by
      rcases ht with ⟨n, _, rfl⟩ | ⟨_, rfl⟩
      · exact ⟨_, _, rfl⟩
      · exact ⟨_, _, rfl⟩
    obtain ⟨n, b, rfl⟩ := hv
    simp [e2, e5, eds]
    exact ht
  clear e2 e4 e5 eds
  rintro ⟨env, H3, ds⟩ ⟨e2, e5, eds, hH, n, b, e6, e7, ht⟩
  simp only at e2 e5 e6 e7 eds hH
  subst hH
  have hfin : ∀ n, Fresh H ⟨H3.next, upd H3.get H.next (ansB false nilS nilS n)⟩ := fun n => fresh_upd' f1 (Nat.le_refl _)
  have hst := fun n => st27b (b' := false) (s' := nilS) (g' := nilS) (e' := n) r1 rfl rfl
  have hld : ∀ n, aLoad Tryd.prog 27 (ptr H.next) ⟨H3.next, upd H3.get H.next (ansB false nilS nilS n)⟩ = some (ansV false nilS nilS n) := fun n => ld27b (by simp)
  by_cases hc : pre errP s = true ∧ b = true ∧ 1 ≤ n ∧ n ≤ 99
  · obtain ⟨h1, rfl, h3, h4⟩ := hc
    have h3' : ¬ n < 1 := by omega
    have h4' : ¬ 99 < n := by omega
    obtain ⟨r, rfl⟩ := pre_iff.1 h1
    simp [e2, e5, e6, e7, h1, h3', h4', build27e, hst, hld, eds, -aBuild, -ld27, -st27]
    refine ⟨hfin n, .inl ⟨n, h3, h4, ?_, rfl⟩⟩
    rcases ht with ⟨m, hm, he⟩ | ⟨_, he⟩
    · obtain rfl : n = m := by simpa using he
      have := hm.2
      simp [h1] at this
      rw [errLine, this]
    · simp at he
  · have hno : ∀ n, 1 ≤ n → n ≤ 99 → s ≠ errLine n := by
      rintro m hm1 hm2 rfl
      have hp : pre errP (errLine m) = true := pre_iff.2 ⟨_, rfl⟩
      have hdr : (errLine m).drop errP.length = sdec m := by simp [errLine]
      rw [hp, if_pos rfl, hdr] at ht
      have him : IsI (sdec m) m := ⟨by unfold I64; omega, rfl⟩
      rcases ht with ⟨m', hm', he⟩ | ⟨hnone, he⟩
      · have : m' = m := by
          rcases isI_uniq hm' him with h
          exact h
        subst this
        obtain ⟨rfl, rfl⟩ : n = m' ∧ b = true := by simpa using he
        exact hc ⟨hp, rfl, hm1, hm2⟩
      · exact hnone m him
    have hres : ErrR s (.tuple #[ansV false nilS nilS 0, .bool false]) := .inr ⟨hno, rfl⟩
    cases hp : pre errP s with
    | false =>
      simp [e2, e5, e6, e7, hp, build27, hst, hld, eds, -aBuild, -ld27, -st27]
      exact ⟨hfin 0, hres⟩
    | true =>
      cases b with
      | false =>
        simp [e2, e5, e6, e7, hp, build27, hst, hld, eds, -aBuild, -ld27, -st27]
        exact ⟨hfin 0, hres⟩
      | true =>
        by_cases h3 : n < 1
        · simp [e2, e5, e6, e7, hp, h3, build27, hst, hld, eds, -aBuild, -ld27, -st27]
          exact ⟨hfin 0, hres⟩
        · have h4 : 99 < n := by
            rcases Int.lt_or_le 99 n with h | h
            · exact h
            · exact absurd ⟨hp, rfl, by omega, h⟩ hc
          simp [e2, e5, e6, e7, hp, h3, h4, build27, hst, hld, eds, -aBuild, -ld27, -st27]
          exact ⟨hfin 0, hres⟩
end Go.Proofs.YtpimepdlbhejhaaDoor.C

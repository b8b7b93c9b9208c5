/- command.Parse. Own text of this session. -/
import Derived.Test.YtlbgincmndakmaaDoorOpA
set_option linter.unusedVariables false
set_option linter.unusedSimpArgs false
set_option maxRecDepth 4000
set_option maxHeartbeats 8000000
namespace Go.Proofs.YtlbgincmndakmaaDoor.C
open Go Go.RowKit Go.Proofs.YtlbgincmndakmaaDoorA Go.Proofs.YtlbgincmndakmaaDoor.Plain
variable {H : AH}
/-- what a line is read as: an op, and the error's number -/
structure Rd where
  k : Int
  n : Nat
  val : List UInt8
  p : Int
  c : Int
  q : Int
  g : Int
  e : Int
def bad (e : Int) : Rd := ⟨0, 0, [], 0, 0, 0, 0, e⟩
noncomputable def oT (k : Int) (tl : List (List UInt8)) : Int × Int × Int × Int × Int := if k = 4 then outOf (Lib.join tl [32]) else (0, 0, 0, 0, 0)
noncomputable def nU (k : Int) (tl : List (List UInt8)) : Nat := if keyP k then rdN (tl.headD []) else 0
noncomputable def eU (k : Int) (tl : List (List UInt8)) : Int := if keyP k then (if okN (tl.headD []) = true then 0 else 7) else (oT k tl).2.2.2.2
noncomputable def vV (k : Int) (tl : List (List UInt8)) : List UInt8 × Int := if k = 2 ∧ tl.length = 2 ∧ eU k tl = 0 then valOf (tl.getD 1 []) else ([], eU k tl)
noncomputable def opT (k : Int) (tl : List (List UInt8)) : Rd := if (vV k tl).2 = 0 then ⟨k, nU k tl, (vV k tl).1, (oT k tl).1, (oT k tl).2.1, (oT k tl).2.2.1, (oT k tl).2.2.2.1, 0⟩ else bad (vV k tl).2
noncomputable def opOf (s : List UInt8) : Rd := match splitL 32 s with
  | [] => bad 7
  | w0 :: tl => if fitsP (kindL w0) tl.length then opT (kindL w0) tl else bad 7
theorem opOf_fits {s w0 : List UInt8} {tl : List (List UInt8)} (hw : splitL 32 s = w0 :: tl) (h : fitsP (kindL w0) tl.length) : opOf s = opT (kindL w0) tl := by simp only [opOf, hw, if_pos h]
theorem opOf_not {s w0 : List UInt8} {tl : List (List UInt8)} (hw : splitL 32 s = w0 :: tl) (h : ¬ fitsP (kindL w0) tl.length) : opOf s = bad 7 := by simp only [opOf, hw, if_neg h]
abbrev opV (k : Int) (n : Nat) (sv : Value) (p c q g : Int) : Value := .agg #[i64 k, u64 n, sv, i64 p, i64 c, i64 q, i64 g]
abbrev opB (k : Int) (n : Nat) (sv : Value) (p c q g : Int) : ABlk := .cells [i64 k, u64 n, sv, i64 p, i64 c, i64 q, i64 g] 29 true 0
abbrev nilS : Value := .slice none 0 0
def ParR (s : List UInt8) (H : AH) (v : Value) : Prop := ∃ sv O, v = .tuple #[opV (opOf s).k (opOf s).n sv (opOf s).p (opOf s).c (opOf s).q (opOf s).g, i64 (opOf s).e] ∧ Row 5 true H sv ((opOf s).val.map u8v) O
theorem alloc29 (H : AH) : aAlloc Tryd.prog 29 H = some (ptr H.next, ⟨H.next + 1, upd H.get H.next (opB 0 0 nilS 0 0 0 0)⟩) := by kernel_rfl
theorem build29 : aBuild Tryd.prog 29 [] = some (opV 0 0 nilS 0 0 0 0) := by kernel_rfl
theorem build29k (k : Int) : aBuild Tryd.prog 29 [(0, i64 k)] = some (opV k 0 nilS 0 0 0 0) := by kernel_rfl
theorem updd (g : Nat → Option ABlk) (l : Nat) (a b : ABlk) : upd (upd g l a) l b = upd g l b := by
  funext x
  simp only [upd_get]
  split <;> rfl
theorem st29b {H : AH} {l : Nat} {k k' : Int} {n n' : Nat} {s s' : Value} {p c q g p' c' q' g' : Int} (hg : H.get l = some (opB k n s p c q g)) (hs : isCell s' = true) : aStore Tryd.prog 29 (ptr l) (opV k' n' s' p' c' q' g') H = some ⟨H.next, upd H.get l (opB k' n' s' p' c' q' g')⟩ := by
  rw [st29 _ _ _ rfl]
  show H.wrs l 0 [i64 k', u64 n', s', i64 p', i64 c', i64 q', i64 g'] = _
  rw [wrs_of hg (by simp) (by simp [hs]), setAll_all _ _ (by simp)]
theorem ld29b {H : AH} {l : Nat} {k : Int} {n : Nat} {s : Value} {p c q g : Int} (hg : H.get l = some (opB k n s p c q g)) : aLoad Tryd.prog 29 (ptr l) H = some (opV k n s p c q g) := by
  rw [ld29, row_of hg (by simp)]
  simp
theorem st27at {H : AH} {l : Nat} {k : Int} {n : Nat} {s : Value} {p c q g p' c' q' g' : Int} (hg : H.get l = some (opB k n s p c q g)) : aStore Tryd.prog 27 (.pointer (some ⟨l, 3, none⟩)) (cfg p' c' q' g') H = some ⟨H.next, upd H.get l (opB k n s p' c' q' g')⟩ := by
  rw [st27 _ _ _ rfl]
  show H.wrs l 3 [i64 p', i64 c', i64 q', i64 g'] = _
  rw [wrs_of hg (by simp) (by simp)]
  rfl
theorem st23at {H : AH} {l : Nat} {k : Int} {n n' : Nat} {s : Value} {p c q g : Int} (hg : H.get l = some (opB k n s p c q g)) : aStore Tryd.prog 23 (.pointer (some ⟨l, 1, none⟩)) (u64 (n' : Int)) H = some ⟨H.next, upd H.get l (opB k n' s p c q g)⟩ := by
  rw [st23 _ _ _ rfl, wrs_of hg (by simp) (by simp)]
  rfl
theorem st24at {H : AH} {l : Nat} {k : Int} {n : Nat} {s s' : Value} {p c q g : Int} (hg : H.get l = some (opB k n s p c q g)) (hs : isCell s' = true) : aStore Tryd.prog 24 (.pointer (some ⟨l, 2, none⟩)) s' H = some ⟨H.next, upd H.get l (opB k n s' p c q g)⟩ := by
  rw [st24 _ _ _ hs, wrs_of hg (by simp) (by simp [hs])]
  rfl
theorem words_cons (s : List UInt8) : ∃ w0 tl, splitL 32 s = w0 :: tl := by
  cases h : splitL 32 s with
  | nil => exact absurd h (splitL_ne 32 s)
  | cons a b => exact ⟨a, b, rfl⟩
theorem keep_upd {S : Nat → Prop} {H H' : AH} {l : Nat} {b : ABlk} (h : Keep S H H') (hl : S l) : Keep S H ⟨H'.next, upd H'.get l b⟩ := by
  refine ⟨h.1, fun x hx hs => ?_⟩
  have : ¬ x = l := fun e => hs (by rw [e]; exact hl)
  simp only [upd_get, this, if_false]
  exact h.2 x hx hs
theorem oparse_run {s : List UInt8} (hg : HasG gs H) (hn : nG ≤ H.next) (hs : s.length < 90000) : CallR cx 9 #[.string (str s)] H (fun v H' => Fresh H H' ∧ ParR s H' v) := by
  obtain ⟨w0, tl, hw⟩ := words_cons s
  have hwl := splitL_le 32 s
  have hsh := splitL_short 32 s
  have hjs := join_splitL 32 s
  rw [hw] at hwl hsh hjs
  rw [List.length_cons] at hwl
  refine wk9 (by simp) ?_
  unfold c9
  refine aw_cut (fun t => t.env 0 = .string (str s) ∧ t.env 2 = ptr H.next ∧ t.ds = [] ∧ t.H = ⟨H.next + 1, upd H.get H.next (opB 0 0 nilS 0 0 0 0)⟩) (by simp [alloc29]) ?_
  rintro ⟨env, H1, ds⟩ ⟨e0, e2, eds, hH⟩
  simp only at e0 e2 eds hH
  have f1 : Fresh H H1 := by rw [hH]; exact Fresh.ofNew
  have r1 : H1.get H.next = some (opB 0 0 nilS 0 0 0 0) := by rw [hH]; simp
  have l1 : H.next < H1.next := by rw [hH]; simp
  have hg1 := hg.fresh gs_lt hn f1
  have hn1 : nG ≤ H1.next := Nat.le_trans hn f1.1
  clear hH
  have hwords := words_run (H := H1) (s := s) (by omega)
  rw [hw] at hwords
  refine aw_cut (fun t => t.env 2 = ptr H.next ∧ t.ds = [] ∧ Fresh H1 t.H ∧ Row 9 true t.H (t.env 4) (strs (w0 :: tl)) (some H1.next)) ?_ ?_
  · simp [e0]
    refine callV_R cb26 hwords ?_
    rintro v H2 ⟨f2, h2⟩
    simp [e2, eds, f2, h2]
  clear e0 e2 eds hwords
  rintro ⟨env, H2, ds⟩ ⟨e2, eds, f2, hrow⟩
  simp only at e2 eds f2 hrow
  generalize e4 : env 4 = wv at hrow
  obtain ⟨ra, rfl, _⟩ := hrow.isSlice
  simp only [strs_length, List.length_cons] at e4 hrow
  have l2 : H.next < H2.next := Nat.lt_of_lt_of_le l1 f2.1
  have r2 : H2.get H.next = some (opB 0 0 nilS 0 0 0 0) := by rw [f2.get l1, r1]
  have hg2 := hg1.fresh gs_lt hn1 f2
  have hn2 : nG ≤ H2.next := Nat.le_trans hn1 f2.1
  have hc0 : (strs (w0 :: tl))[0]? = some (.string (str w0)) := rfl
  obtain ⟨la, oa, ca, hra, g1, g2, _⟩ := hrow.cell hc0
  have hix := ix54 la oa (tl.length + 1) (tl.length + 1) .i64 0 (by omega) (by omega)
  simp at g2
  -- the op, of its kind
  generalize hk : kindL w0 = k at *
  refine aw_cut (fun t => t.env 2 = ptr H.next ∧ t.env 4 = .slice ra (tl.length + 1) (tl.length + 1) ∧ t.env 5 = ptr H2.next ∧ t.ds = [] ∧ t.H = ⟨H2.next + 1, upd H2.get H2.next (opB k 0 nilS 0 0 0 0)⟩) ?_ ?_
  · simp [e4, hra, hix, g1, g2]
    refine callV_R cb27 kind_run ?_
    rintro _ H3 ⟨rfl, hH⟩
    subst hH
    rw [hk]
    have a1 : aStore Tryd.prog 29 (ptr H3.next) (opV k 0 nilS 0 0 0 0) ⟨H3.next + 1, upd H3.get H3.next (opB 0 0 nilS 0 0 0 0)⟩ = some ⟨H3.next + 1, upd H3.get H3.next (opB k 0 nilS 0 0 0 0)⟩ := by
      rw [st29b (k := 0) (n := 0) (s := nilS) (p := 0) (c := 0) (q := 0) (g := 0) (by simp) rfl, updd]
    simp [build29k, alloc29, a1, e2, e4, hra, eds, -st29, -ld29, -aBuild]
  clear e2 e4 eds
  rintro ⟨env, H3, ds⟩ ⟨e2, e4, e5, eds, hH⟩
  simp only at e2 e4 e5 eds hH
  have f3 : Fresh H2 H3 := by rw [hH]; exact Fresh.ofNew
  have r5 : H3.get H2.next = some (opB k 0 nilS 0 0 0 0) := by rw [hH]; simp
  have l5 : H2.next < H3.next := by rw [hH]; simp
  have l3 : H.next < H3.next := by omega
  have r3 : H3.get H.next = some (opB 0 0 nilS 0 0 0 0) := by rw [f3.get l2, r2]
  have hg3 := hg2.fresh gs_lt hn2 f3
  have hn3 : nG ≤ H3.next := Nat.le_trans hn2 f3.1
  have f13 : Fresh H H3 := f1.trans (f2.trans f3)
  clear hH
  have hrow3 := hrow.keep f3 (fun _ _ => id)
  obtain ⟨sp, hsp, hrowt⟩ := row_part el54 hrow3 (lo := some (i64 1)) (hi := none) (a := 1) (b := tl.length + 1) (by simp [bnd]) (by simp [bnd]; omega) (by omega) (by simp)
  have htl : ((strs (w0 :: tl)).take (tl.length + 1)).drop 1 = strs tl := by
    rw [List.take_of_length_le (by simp)]
    rfl
  rw [htl] at hrowt
  have hrl := hrow.low
  have hrn : H1.next ≠ H2.next := by omega
  obtain ⟨rt, rfl, _⟩ := hrowt.isSlice
  simp only [strs_length] at hrowt hsp
  refine aw_cut (fun t => t.env 2 = ptr H.next ∧ t.env 5 = ptr H2.next ∧ t.env 6 = .slice rt tl.length tl.length ∧ t.ds = [] ∧ t.H = H3) (by simp [e2, e4, e5, hsp, eds]) ?_
  clear e2 e4 e5 eds
  rintro ⟨env, H4, ds⟩ ⟨e2, e5, e6, eds, hH⟩
  simp only at e2 e5 e6 eds hH
  subst hH
  -- what comes of it at the end
  have fin : ∀ {H5 : AH} (k' : Int) (n : Nat) (sv : Value) (p c q g : Int), Keep (fun l => l = H2.next) H4 H5 → isCell sv = true → aStore Tryd.prog 29 (ptr H.next) (opV k' n sv p c q g) H5 = some ⟨H5.next, upd H5.get H.next (opB k' n sv p c q g)⟩ ∧ aLoad Tryd.prog 29 (ptr H.next) ⟨H5.next, upd H5.get H.next (opB k' n sv p c q g)⟩ = some (opV k' n sv p c q g) ∧ Fresh H ⟨H5.next, upd H5.get H.next (opB k' n sv p c q g)⟩ ∧ H5.get H.next = some (opB 0 0 nilS 0 0 0 0) := by
    intro H5 k' n sv p c q g kp hc
    have r5' : H5.get H.next = some (opB 0 0 nilS 0 0 0 0) := by rw [kp.get l3 (by omega), r3]
    refine ⟨st29b r5' hc, ld29b (by simp), ⟨by have := f13.1; have := kp.1; simp only; omega, fun x hx _ => ?_⟩, r5'⟩
    have h1 : ¬ x = H.next := by omega
    have h2 := f13.1
    simp only [upd_get, h1, if_false]
    rw [kp.get (by omega) (by omega), f13.get hx]
  by_cases hf : fitsP k tl.length
  case neg =>
    have hop : opOf s = bad 7 := opOf_not hw (by rw [hk]; exact hf)
    obtain ⟨a1, a2, a3, _⟩ := fin 0 0 nilS 0 0 0 0 Keep.refl rfl
    simp [e5, e6, r5]
    refine callV_R cb28 fits_run ?_
    rintro _ H5 ⟨rfl, hH⟩
    subst hH
    simp [hf, e2, build29, a1, a2, eds, -st29, -ld29, -aBuild]
    exact ⟨a3, nilS, none, by rw [hop]; rfl, by rw [hop]; exact Row.nil⟩
  have hop : opOf s = opT k tl := by rw [opOf_fits hw (by rw [hk]; exact hf), hk]
  refine aw_cut (fun t => t.env 2 = ptr H.next ∧ t.env 5 = ptr H2.next ∧ t.env 6 = .slice rt tl.length tl.length ∧ t.ds = [] ∧ t.H = H4) ?_ ?_
  · simp [e5, e6, r5]
    refine callV_R cb28 fits_run ?_
    rintro _ H5 ⟨rfl, hH⟩
    subst hH
    simp [hf, e2, e5, e6, eds]
  clear e2 e5 e6 eds
  rintro ⟨env, H5, ds⟩ ⟨e2, e5, e6, eds, hH⟩
  simp only at e2 e5 e6 eds hH
  subst hH
  refine aw_cut (fun t => t.env 2 = ptr H.next ∧ t.env 5 = ptr H2.next ∧ t.env 6 = .slice rt tl.length tl.length ∧ t.env 7 = i64 0 ∧ t.ds = [] ∧ t.H = H5) (by simp [e2, e5, e6, eds]) ?_
  clear e2 e5 e6 eds
  rintro ⟨env, H6, ds⟩ ⟨e2, e5, e6, e7, eds, hH⟩
  simp only at e2 e5 e6 e7 eds hH
  subst hH
  -- Resize
  refine aw_cut (fun t => t.env 2 = ptr H.next ∧ t.env 5 = ptr H2.next ∧ t.env 6 = .slice rt tl.length tl.length ∧ t.env 7 = i64 (oT k tl).2.2.2.2 ∧ t.ds = [] ∧ Keep (fun l => l = H2.next) H6 t.H ∧ t.H.get H2.next = some (opB k 0 nilS (oT k tl).1 (oT k tl).2.1 (oT k tl).2.2.1 (oT k tl).2.2.2.1)) ?_ ?_
  · by_cases h4 : k = 4
    · have ho : oT k tl = outOf (Lib.join tl [32]) := by rw [oT, if_pos h4]
      rw [ho]
      have hjl : (Lib.join tl [32]).length ≤ s.length := by
        cases tl with
        | nil => simp [Lib.join_nil]
        | cons a b => rw [← hjs, join_cons2]; simp; omega
      simp [e5, e6, r5, h4]
      refine callV_R cb24 (join_row hrowt (by omega) (by omega)) ?_
      rintro _ H7 ⟨rfl, hH⟩
      subst hH
      simp
      refine callV_R cb29 (parse_run hg3 hn3 (by omega)) ?_
      rintro _ H8 ⟨f8, rfl⟩
      have r8 : H8.get H2.next = some (opB 4 0 nilS 0 0 0 0) := by rw [f8.get l5, r5, h4]
      generalize outOf (Lib.join tl [32]) = o
      obtain ⟨p, c, q, g, e⟩ := o
      have a1 := st27at (p' := p) (c' := c) (q' := q) (g' := g) r8
      simp [e2, e5, e6, a1, eds, -st27]
      exact ⟨keep_upd (S := fun l => l = H2.next) ⟨f8.1, fun x hx _ => f8.get hx⟩ rfl, h4.symm⟩
    · have ho : oT k tl = (0, 0, 0, 0, 0) := by rw [oT, if_neg h4]
      rw [ho]
      simp [e2, e5, e6, e7, r5, h4, eds, Keep.refl]
  clear e2 e5 e6 e7 eds
  rintro ⟨env, H7, ds⟩ ⟨e2, e5, e6, e7, eds, k7, r7⟩
  simp only at e2 e5 e6 e7 eds k7 r7
  have hrow7 := hrowt.keep k7 (fun l hl => by cases hl; exact hrn)
  -- the key
  refine aw_cut (fun t => t.env 2 = ptr H.next ∧ t.env 5 = ptr H2.next ∧ t.env 6 = .slice rt tl.length tl.length ∧ t.env 7 = i64 (eU k tl) ∧ t.ds = [] ∧ Keep (fun l => l = H2.next) H6 t.H ∧ t.H.get H2.next = some (opB k (nU k tl) nilS (oT k tl).1 (oT k tl).2.1 (oT k tl).2.2.1 (oT k tl).2.2.2.1)) ?_ ?_
  · by_cases hky : keyP k
    · obtain ⟨w1, r, rfl⟩ : ∃ w1 r, tl = w1 :: r := by
        cases tl with
        | nil =>
          unfold fitsP at hf
          unfold keyP at hky
          rcases hky with rfl | rfl | rfl <;> simp at hf
        | cons a b => exact ⟨a, b, rfl⟩
      have hu : nU k (w1 :: r) = rdN w1 := by rw [nU, if_pos hky]; rfl
      have heu : eU k (w1 :: r) = if okN w1 = true then 0 else 7 := by rw [eU, if_pos hky]; rfl
      have h4 : k ≠ 4 := by unfold keyP at hky; omega
      have ho : oT k (w1 :: r) = (0, 0, 0, 0, 0) := by rw [oT, if_neg h4]
      rw [hu, heu]
      rw [ho] at e7 r7 ⊢
      have hc1 : (strs (w1 :: r))[0]? = some (.string (str w1)) := rfl
      obtain ⟨lb, ob, cb, hrb, g3, g4, _⟩ := hrow7.cell hc1
      have hixb := ix54 lb ob (w1 :: r).length (w1 :: r).length .i64 0 (by omega) (by simp)
      simp at g4 hixb
      simp [e5, r7]
      refine callV_R cb20 keyed_run ?_
      rintro _ H8 ⟨rfl, hH⟩
      subst hH
      simp at e6
      simp [hky, e6, hrb, hixb, g3, g4]
      refine callV_R cb30 (read_run (l := w1)) ?_
      rintro v H9 ⟨hH, hv⟩
      subst hH
      obtain rfl := toldN hv
      have a1 := st23at (n' := rdN w1) r7
      have kk := keep_upd (b := opB k (rdN w1) nilS 0 0 0 0) k7 rfl
      cases hb : okN w1 with
      | true =>
        simp [e2, e5, e6, e7, hrb, a1, eds, -st23]
        exact kk
      | false =>
        simp [e2, e5, e6, e7, hrb, a1, eds, -st23]
        exact kk
    · have hu : nU k tl = 0 := by rw [nU, if_neg hky]
      have heu : eU k tl = (oT k tl).2.2.2.2 := by rw [eU, if_neg hky]
      rw [hu, heu]
      simp [e5, r7]
      refine callV_R cb20 keyed_run ?_
      rintro _ H8 ⟨rfl, hH⟩
      subst hH
      simp [hky, e2, e5, e6, e7, eds, r7, k7]
  clear e2 e5 e6 e7 eds k7 r7 hrow7
  rintro ⟨env, H8, ds⟩ ⟨e2, e5, e6, e7, eds, k8, r8⟩
  simp only at e2 e5 e6 e7 eds k8 r8
  have hrow8 := hrowt.keep k8 (fun l hl => by cases hl; exact hrn)
  -- the value
  refine aw_cut (fun t => t.env 2 = ptr H.next ∧ t.env 5 = ptr H2.next ∧ t.env 7 = i64 (vV k tl).2 ∧ t.ds = [] ∧ Keep (fun l => l = H2.next) H6 t.H ∧ ∃ sv O, Row 5 true t.H sv ((vV k tl).1.map u8v) O ∧ (∀ x, O = some x → H6.next ≤ x) ∧ t.H.get H2.next = some (opB k (nU k tl) sv (oT k tl).1 (oT k tl).2.1 (oT k tl).2.2.1 (oT k tl).2.2.2.1)) ?_ ?_
  · have hnil : ∀ {H : AH}, Row 5 true H nilS (([] : List UInt8).map u8v) none := Row.nil
    by_cases hv : k = 2 ∧ tl.length = 2 ∧ eU k tl = 0
    · obtain ⟨h2, hl2, he0⟩ := id hv
      have hvv : vV k tl = valOf (tl.getD 1 []) := by rw [vV, if_pos hv]
      obtain ⟨w1, w2, rfl⟩ : ∃ w1 w2, tl = [w1, w2] := by
        match tl, hl2 with
        | [w1, w2], _ => exact ⟨w1, w2, rfl⟩
      have hvv' : vV k [w1, w2] = valOf w2 := hvv
      rw [hvv']
      rw [he0] at e7
      have hc1 : (strs [w1, w2])[1]? = some (.string (str w2)) := rfl
      obtain ⟨lb, ob, cb, hrb, g3, g4, _⟩ := hrow8.cell hc1
      have hixb := ix54 lb ob 2 2 .i64 1 (by omega) (by omega)
      have hw2 := hsh w2 (by simp)
      simp at e6
      generalize nU k [w1, w2] = n at *
      generalize oT k [w1, w2] = o at *
      obtain ⟨p, c, q, g, e⟩ := o
      subst h2
      simp only at r8
      simp [e5, e6, e7, r8, hrb, hixb, g3, g4]
      refine callV_R cb31 (value_run (by omega)) ?_
      rintro v H9 ⟨f9, sv, O, rfl, hsv, hO⟩
      obtain ⟨rb, rfl, _⟩ := hsv.isSlice
      simp only [List.length_map] at hsv
      have r9 : H9.get H2.next = some (opB 2 n nilS p c q g) := by rw [f9.get (Nat.lt_of_lt_of_le l5 k8.1), r8]
      have a1 := st24at (s' := .slice rb (valOf w2).1.length (valOf w2).1.length) r9 rfl
      have k9 : Keep (fun l => l = H2.next) H6 H9 := ⟨Nat.le_trans k8.1 f9.1, fun x hx hs => by rw [f9.get (Nat.lt_of_lt_of_le hx k8.1), k8.2 x hx hs]⟩
      have hsv' := hsv.keep (S := fun z => z = H2.next) (H' := ⟨H9.next, upd H9.get H2.next (opB 2 n (.slice rb (valOf w2).1.length (valOf w2).1.length) p c q g)⟩) ⟨Nat.le_refl _, fun z _ hz => by simp at hz; simp [hz]⟩ (fun z hz hzz => by have := hO z hz; have := k8.1; omega)
      simp [e2, e5, a1, eds, -st24]
      exact ⟨keep_upd k9 rfl, _, O, hsv', fun x hx => by have := hO x hx; have := k8.1; omega, rfl⟩
    · have hvv : vV k tl = ([], eU k tl) := by rw [vV, if_neg hv]
      rw [hvv]
      generalize nU k tl = n at *
      generalize oT k tl = o at *
      generalize eU k tl = eu at *
      obtain ⟨p, c, q, g, e⟩ := o
      simp only at r8 ⊢
      have last : Keep (fun l => l = H2.next) H6 H8 ∧ ∃ sv, (∃ O, Row 5 true H8 sv (([] : List UInt8).map u8v) O ∧ ∀ x, O = some x → H6.next ≤ x) ∧ H8.get H2.next = some (opB k n sv p c q g) := ⟨k8, nilS, ⟨none, hnil, by simp⟩, r8⟩
      by_cases h2 : k = 2
      · by_cases hl2 : tl.length = 2
        · have he0 : ¬ eu = 0 := fun h => hv ⟨h2, hl2, h⟩
          subst h2
          simp [e2, e5, e6, e7, r8, hl2, he0, eds]
          exact ⟨k8, nilS, none, hnil, by simp, rfl⟩
        · have hli : ¬ ((tl.length : Int) = 2) := by omega
          subst h2
          simp [e2, e5, e6, e7, r8, hl2, hli, eds]
          exact ⟨k8, nilS, none, hnil, by simp, rfl⟩
      · simp [e2, e5, e6, e7, r8, h2, eds]
        exact ⟨k8, nilS, none, hnil, by simp, rfl⟩
  clear e2 e5 e6 e7 eds k8 r8 hrow8
  rintro ⟨env, H9, ds⟩ ⟨e2, e5, e7, eds, k9, sv, O, hsv, hO, r9⟩
  simp only at e2 e5 e7 eds k9 hsv r9
  obtain ⟨rb, rfl, _⟩ := hsv.isSlice
  simp only [List.length_map] at hsv r9
  by_cases hv0 : (vV k tl).2 = 0
  · have hopt : opOf s = ⟨k, nU k tl, (vV k tl).1, (oT k tl).1, (oT k tl).2.1, (oT k tl).2.2.1, (oT k tl).2.2.2.1, 0⟩ := by rw [hop, opT, if_pos hv0]
    have a0 := ld29b r9
    obtain ⟨a1, a2, a3, r0⟩ := fin k (nU k tl) (.slice rb (vV k tl).1.length (vV k tl).1.length) (oT k tl).1 (oT k tl).2.1 (oT k tl).2.2.1 (oT k tl).2.2.2.1 k9 rfl
    have hsv' := hsv.keep (S := fun z => z = H.next) (H' := ⟨H9.next, upd H9.get H.next (opB k (nU k tl) (.slice rb (vV k tl).1.length (vV k tl).1.length) (oT k tl).1 (oT k tl).2.1 (oT k tl).2.2.1 (oT k tl).2.2.2.1)⟩) ⟨Nat.le_refl _, fun z _ hz => by simp at hz; simp [hz]⟩ (fun z hz hzz => by have := hO z hz; omega)
    rw [hv0] at e7
    have res : ParR s ⟨H9.next, upd H9.get H.next (opB k (nU k tl) (.slice rb (vV k tl).1.length (vV k tl).1.length) (oT k tl).1 (oT k tl).2.1 (oT k tl).2.2.1 (oT k tl).2.2.2.1)⟩ (.tuple #[opV k (nU k tl) (.slice rb (vV k tl).1.length (vV k tl).1.length) (oT k tl).1 (oT k tl).2.1 (oT k tl).2.2.1 (oT k tl).2.2.2.1, i64 0]) :=
      ⟨_, O, by rw [hopt], by rw [hopt]; exact hsv'⟩
    simp [e2, e5, e7, a0, a1, a2, eds, -st29, -ld29]
    exact ⟨a3, res⟩
  · have hopt : opOf s = bad (vV k tl).2 := by rw [hop, opT, if_neg hv0]
    obtain ⟨a1, a2, a3, _⟩ := fin 0 0 nilS 0 0 0 0 k9 rfl
    have res : ParR s ⟨H9.next, upd H9.get H.next (opB 0 0 nilS 0 0 0 0)⟩ (.tuple #[opV 0 0 nilS 0 0 0 0, i64 (vV k tl).2]) := ⟨nilS, none, by rw [hopt]; rfl, by rw [hopt]; exact Row.nil⟩
    simp [e2, e5, e7, hv0, build29, a1, a2, eds, -st29, -ld29, -aBuild]
    exact ⟨a3, res⟩
end Go.Proofs.YtlbgincmndakmaaDoor.C

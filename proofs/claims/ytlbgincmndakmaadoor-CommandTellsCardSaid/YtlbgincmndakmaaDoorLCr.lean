/- CommandReads over the small heap. Own text of this session. -/
import Derived.Test.YtlbgincmndakmaaDoorOpF
set_option linter.unusedVariables false
set_option linter.unusedSimpArgs false
set_option maxRecDepth 4000
set_option maxHeartbeats 8000000
namespace Go.Proofs.YtlbgincmndakmaaDoor.C
open Go Go.RowKit Go.Proofs.YtlbgincmndakmaaDoorA Go.Proofs.YtlbgincmndakmaaDoor.Plain
variable {H : AH}
def OpJ (x : Rd) (H : AH) (v : Value) : Prop := ∃ sv O l, v = ptr l ∧ l < H.next ∧ H.get l = some (opB x.k x.n sv x.p x.c x.q x.g) ∧ Row 5 true H sv (x.val.map u8v) O
def RdJ (x : Rd) (H : AH) (v : Value) : Prop := ∃ sv O l, v = ptr l ∧ l < H.next ∧ H.get l = some (rdB x.k x.n sv x.p x.c x.q x.g x.e) ∧ Row 5 true H sv (x.val.map u8v) O
/-- a place that is filled with an op -/
theorem put_op {k : Int} {n : Nat} {ra : Option Addr} {m : Nat} {p c q g : Int} {H : AH} : aStore Tryd.prog 29 (ptr H.next) (opV k n (.slice ra m m) p c q g) ⟨H.next + 1, upd H.get H.next (opB 0 0 nilS 0 0 0 0)⟩ = some ⟨H.next + 1, upd H.get H.next (opB k n (.slice ra m m) p c q g)⟩ := by
  rw [st29b (k := 0) (n := 0) (s := nilS) (p := 0) (c := 0) (q := 0) (g := 0) (by simp) rfl, updd]
theorem put_rd {k : Int} {n : Nat} {ra : Option Addr} {m : Nat} {p c q g e : Int} {H : AH} : aStore Tryd.prog 40 (ptr H.next) (rdV k n (.slice ra m m) p c q g e) ⟨H.next + 1, upd H.get H.next (rdB 0 0 nilS 0 0 0 0 0)⟩ = some ⟨H.next + 1, upd H.get H.next (rdB k n (.slice ra m m) p c q g e)⟩ := by
  rw [st40b (k := 0) (n := 0) (s := nilS) (p := 0) (c := 0) (q := 0) (g := 0) (e := 0) (by simp) rfl, updd]
theorem commandReads_run {t : ByteArray} (hg : HasG gs H) (hn : nG ≤ H.next) : CallR cx 4 #[.string t] H (fun v _ => v = .bool true) := by
  rw [str_eta t]
  generalize t.data.toList = s
  refine wk4 (by simp) ?_
  unfold c4
  refine aw_cut (fun t => t.env 0 = .string (str s) ∧ t.ds = [] ∧ t.H = H) (by simp) ?_
  rintro ⟨env, H1, ds⟩ ⟨e0, eds, hH⟩
  simp only at e0 eds hH
  subst hH
  by_cases hsl : 2200 < (s.length : Int)
  · simp [e0, hsl]
    refine callV_R cba (alive_run hg) ?_
    rintro _ _ ⟨rfl, _⟩
    simp [eds]
  refine aw_cut (fun t => t.env 0 = .string (str s) ∧ t.ds = [] ∧ t.H = H1) (by simp [e0, eds, hsl]) ?_
  clear e0 eds
  rintro ⟨env, H2, ds⟩ ⟨e0, eds, hH⟩
  simp only at e0 eds hH
  subst hH
  -- Parse
  refine aw_cut (fun t => t.env 0 = .string (str s) ∧ t.env 4 = i64 (opOf s).e ∧ t.ds = [] ∧ Fresh H2 t.H ∧ OpJ (opOf s) t.H (t.env 3)) ?_ ?_
  · simp [e0]
    refine callV_R cb9 (oparse_run hg hn (by omega)) ?_
    rintro v H3 ⟨f3, sv, O, rfl, hv⟩
    obtain ⟨ra, rfl, _⟩ := hv.isSlice
    have k2 : Fresh H3 ⟨H3.next + 1, upd H3.get H3.next (opB (opOf s).k (opOf s).n (.slice ra ((opOf s).val.map u8v).length ((opOf s).val.map u8v).length) (opOf s).p (opOf s).c (opOf s).q (opOf s).g)⟩ := Fresh.ofNew
    have hv2 := hv.keep k2 (fun _ _ => id)
    generalize ((opOf s).val.map u8v).length = n1 at *
    simp [alloc29, put_op, e0, eds, -st29, -ld29]
    exact ⟨f3.trans k2, _, O, H3.next, rfl, by simp only; omega, by simp, hv2⟩
  clear e0 eds
  rintro ⟨env, H3, ds⟩ ⟨e0, e4, eds, f3, sv3, O3, l3, e3, hl3, r3, hv3⟩
  simp only at e0 e4 eds f3 e3 hl3 r3 hv3
  have hg3 := hg.fresh gs_lt hn f3
  have hn3 : nG ≤ H3.next := Nat.le_trans hn f3.1
  -- ref.Parse
  refine aw_cut (fun t => t.env 0 = .string (str s) ∧ t.env 3 = ptr l3 ∧ t.env 4 = i64 (opOf s).e ∧ t.ds = [] ∧ Fresh H3 t.H ∧ RdJ (opOf s) t.H (t.env 5)) ?_ ?_
  · simp [e0]
    refine callV_R cb12 (rparseR (by omega)) ?_
    rintro v H4 ⟨f4, sv, O, rfl, hv⟩
    obtain ⟨ra, rfl, _⟩ := hv.isSlice
    have k2 : Fresh H4 ⟨H4.next + 1, upd H4.get H4.next (rdB (opOf s).k (opOf s).n (.slice ra ((opOf s).val.map u8v).length ((opOf s).val.map u8v).length) (opOf s).p (opOf s).c (opOf s).q (opOf s).g (opOf s).e)⟩ := Fresh.ofNew
    have hv2 := hv.keep k2 (fun _ _ => id)
    generalize ((opOf s).val.map u8v).length = n1 at *
    simp [alloc40, put_rd, e0, e3, e4, eds, -st40, -ld40]
    exact ⟨f4.trans k2, _, O, H4.next, rfl, by simp only; omega, by simp, hv2⟩
  clear e0 e3 e4 eds
  rintro ⟨env, H4, ds⟩ ⟨e0, e3, e4, eds, f4, sv4, O4, l4, e5, hl4, r4, hv4⟩
  simp only at e0 e3 e4 eds f4 e5 hl4 r4 hv4
  have hg4 := hg3.fresh gs_lt hn3 f4
  have hn4 : nG ≤ H4.next := Nat.le_trans hn3 f4.1
  have r34 : H4.get l3 = some (opB (opOf s).k (opOf s).n sv3 (opOf s).p (opOf s).c (opOf s).q (opOf s).g) := by rw [f4.get hl3, r3]
  have hv34 := hv3.keep f4 (fun _ _ => id)
  have a3 := ld29b r34
  have a4 := ld29r r4
  have hback := fun h => op_back (s := s) h
  generalize opOf s = x at *
  -- Same
  refine aw_cut (fun t => t.env 0 = .string (str s) ∧ t.env 3 = ptr l3 ∧ t.env 4 = i64 x.e ∧ t.ds = [] ∧ Fresh H4 t.H) ?_ ?_
  · simp [e3, e5, a3, a4, -ld29]
    refine callV_R cb11 (sameO_run hv34 hv4) ?_
    rintro _ H5 ⟨rfl, f5⟩
    have r5 : H5.get l4 = some (rdB x.k x.n sv4 x.p x.c x.q x.g x.e) := by rw [f5.get hl4, r4]
    simp [e0, e3, e4, e5, r5, eds, f5]
  clear e0 e3 e4 e5 eds
  rintro ⟨env, H5, ds⟩ ⟨e0, e3, e4, eds, f5⟩
  simp only at e0 e3 e4 eds f5
  have hg5 := hg4.fresh gs_lt hn4 f5
  have hn5 : nG ≤ H5.next := Nat.le_trans hn4 f5.1
  by_cases he : x.e = 0
  case neg =>
    simp [e4, he]
    refine callV_R cba (alive_run hg5) ?_
    rintro _ _ ⟨rfl, _⟩
    simp [eds]
  obtain ⟨hM, hpr, hnn⟩ := hback he
  have r35 : H5.get l3 = some (opB x.k x.n sv3 x.p x.c x.q x.g) := by rw [f5.get (Nat.lt_of_lt_of_le hl3 f4.1), r34]
  have hv35 := hv34.keep f5 (fun _ _ => id)
  have a5 := ld29b r35
  rw [he] at e4
  refine aw_cut (fun t => t.env 0 = .string (str s) ∧ t.env 3 = ptr l3 ∧ t.ds = [] ∧ t.H = H5) (by simp [e0, e3, e4, eds]) ?_
  clear e0 e3 e4 eds
  rintro ⟨env, H6, ds⟩ ⟨e0, e3, eds, hH⟩
  simp only at e0 e3 eds hH
  subst hH
  refine aw_cut (fun t => t.env 0 = .string (str s) ∧ t.env 6 = .string (str s) ∧ t.env 7 = i64 0 ∧ t.ds = [] ∧ Fresh H6 t.H) ?_ ?_
  · simp [e3, a5, -ld29]
    refine callV_R cb7 (oprint_run hg5 hn5 hv35 hnn) ?_
    rintro v H7 ⟨f7, hyes, _⟩
    rw [hpr] at hyes
    obtain rfl := hyes hM
    simp [e0, eds, f7]
  clear e0 e3 eds
  rintro ⟨env, H7, ds⟩ ⟨e0, e6, e7, eds, f7⟩
  simp only at e0 e6 e7 eds f7
  simp [e0, e6, e7]
  refine callV_R cba (alive_run (hg5.fresh gs_lt hn5 f7)) ?_
  rintro _ _ ⟨rfl, _⟩
  simp [eds]
end Go.Proofs.YtlbgincmndakmaaDoor.C

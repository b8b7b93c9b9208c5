/- ReplyReads over the small heap. Own text of this session. -/
import Derived.Test.YtpimepdlbhejhaaDoorPaA
set_option linter.unusedVariables false
set_option linter.unusedSimpArgs false
set_option maxRecDepth 4000
set_option maxHeartbeats 8000000
namespace Go.Proofs.YtpimepdlbhejhaaDoor.C
open Go Go.RowKit Go.Proofs.YtpimepdlbhejhaaDoorA Go.Proofs.YtpimepdlbhejhaaDoor.Plain
variable {H : AH}
theorem box27 (b : Bool) (s g : Value) (e : Int) (H : AH) : aBox 27 (ansV b s g e) H = (ptr H.next, H.new (ansB b s g e)) := rfl
/-- same: of two answers that are one -/
theorem same_run {hit : Bool} {sv gv sv2 gv2 : Value} {val : List UInt8} {gone : List Nat} {Ov Og Ov2 Og2 : Option Nat} {w w' w2 w2' : Bool} {e : Int}
    (hv : Row 5 w H sv (val.map u8v) Ov) (hgr : Row 39 w' H gv (gcells gone) Og) (hv2 : Row 5 w2 H sv2 (val.map u8v) Ov2) (hgr2 : Row 39 w2' H gv2 (gcells gone) Og2) (hgl : gone.length ≤ 100000) :
    CallR cx 11 #[ansV hit sv gv e, ansV hit sv2 gv2 e] H (fun v H' => v = .bool true ∧ Fresh H H') := by
  obtain ⟨ra, rfl, _⟩ := hv.isSlice
  obtain ⟨rg, rfl, _⟩ := hgr.isSlice
  obtain ⟨rb, rfl, _⟩ := hv2.isSlice
  obtain ⟨rh, rfl, _⟩ := hgr2.isSlice
  simp only [List.length_map] at hv hgr hv2 hgr2 ⊢
  refine wk11 (by simp) ?_
  unfold c11
  refine aw_cut (fun t => t.env 2 = ptr H.next ∧ t.env 3 = ptr (H.next + 1) ∧ t.ds = [] ∧ t.H = (H.new (ansB hit (.slice ra val.length val.length) (.slice rg gone.length gone.length) e)).new (ansB hit (.slice rb val.length val.length) (.slice rh gone.length gone.length) e)) (by simp [AH.new]) ?_
  rintro ⟨env, H1, ds⟩ ⟨e2, e3, eds, hH⟩
  simp only at e2 e3 eds hH
  have f1 : Fresh H H1 := by rw [hH]; exact Fresh.ofNew.trans Fresh.ofNew
  have hne : ¬ H.next = H.next + 1 := by omega
  have r2 : H1.get H.next = some (ansB hit (.slice ra val.length val.length) (.slice rg gone.length gone.length) e) := by rw [hH]; simp [AH.new, hne]
  have r3 : H1.get (H.next + 1) = some (ansB hit (.slice rb val.length val.length) (.slice rh gone.length gone.length) e) := by rw [hH]; simp [AH.new]
  clear hH
  have c1 := conv_row (hv.keep f1 (fun _ _ => id))
  have c2 := conv_row (hv2.keep f1 (fun _ _ => id))
  have hs := ksame_run (hgr.keep f1 (fun _ _ => id)) (hgr2.keep f1 (fun _ _ => id)) (by omega)
  simp [e2, e3, r2, r3, c1, c2]
  refine callV_R cb27 hs ?_
  rintro _ H2 ⟨rfl, hH⟩
  subst hH
  simp [e2, e3, eds, f1]
theorem ld27r {H : AH} {l : Nat} {b k : Bool} {s g : Value} {e : Int} (hg : H.get l = some (rdB b s g e k)) : aLoad Tryd.prog 27 (ptr l) H = some (ansV b s g e) := by
  rw [ld27, row_of hg (by simp)]
  simp
def RdI (k : Int) (s : List UInt8) (H : AH) (p okv : Value) : Prop := ∃ hit val gone err sv gv Ov Og l ok, p = ptr l ∧ okv = .bool ok ∧ l < H.next ∧ H.get l = some (ansB hit sv gv err) ∧ Row 5 true H sv (val.map u8v) Ov ∧ Row 39 true H gv (gcells gone) Og ∧
  (ok = true → Good k s hit val gone err) ∧ (ok = false → hit = false ∧ val = [] ∧ gone = [] ∧ err = 0 ∧ ∀ h2 v2 g2 e2, ¬ Good k s h2 v2 g2 e2)
def PaJ (H : AH) (p : Value) (hit : Bool) (val : List UInt8) (gone : List Nat) (err : Int) (ok : Bool) : Prop := ∃ sv gv Ov Og l, p = ptr l ∧ l < H.next ∧ H.get l = some (rdB hit sv gv err ok) ∧ Row 5 true H sv (val.map u8v) Ov ∧ Row 39 true H gv (gcells gone) Og
theorem readR_shape {k : Int} {s : List UInt8} {H : AH} {v : Value} (h : ReadR k s H v) : ∃ hit val gone err sv gv Ov Og ok, v = .tuple #[ansV hit sv gv err, .bool ok] ∧ Row 5 true H sv (val.map u8v) Ov ∧ Row 39 true H gv (gcells gone) Og ∧
    (ok = true → Good k s hit val gone err) ∧ (ok = false → hit = false ∧ val = [] ∧ gone = [] ∧ err = 0 ∧ ∀ h2 v2 g2 e2, ¬ Good k s h2 v2 g2 e2) := by
  rcases h with ⟨hit, val, gone, err, a, hG, ⟨sv, gv, Ov, Og, rfl, h1, h2⟩, rfl⟩ | ⟨hno, rfl⟩
  · exact ⟨hit, val, gone, err, sv, gv, Ov, Og, true, rfl, h1, h2, fun _ => hG, fun h => by cases h⟩
  · exact ⟨false, [], [], 0, nilS, nilS, none, none, false, rfl, rows0 _, rowg0 _, (fun h => by cases h), fun _ => ⟨rfl, rfl, rfl, rfl, hno⟩⟩
theorem replyReads_run {k : Int} {t : ByteArray} (hg : HasG gs H) (hn : nG ≤ H.next) (hk : (Lit.int .i64 k).wf = true) : CallR cx 4 #[i64 k, .string t] H (fun v _ => v = .bool true) := by
  rw [str_eta t]
  generalize t.data.toList = s
  refine wk4 (by simp) ?_
  unfold c4
  refine aw_cut (fun t => t.env 0 = i64 k ∧ t.env 1 = .string (str s) ∧ t.ds = [] ∧ t.H = H) (by simp) ?_
  rintro ⟨env, H1, ds⟩ ⟨e0, e1, eds, hH⟩
  simp only at e0 e1 eds hH
  subst hH
  by_cases hsl : 400 < (s.length : Int)
  · simp [e0, e1, hsl]
    refine callV_R cba (alive_run hg) ?_
    rintro _ _ ⟨rfl, _⟩
    simp [eds]
  refine aw_cut (fun t => t.env 0 = i64 k ∧ t.env 1 = .string (str s) ∧ t.ds = [] ∧ t.H = H1) (by simp [e0, e1, eds, hsl]) ?_
  clear e0 e1 eds
  rintro ⟨env, H2, ds⟩ ⟨e0, e1, eds, hH⟩
  simp only at e0 e1 eds hH
  subst hH
  -- Read
  refine aw_cut (fun t => t.env 0 = i64 k ∧ t.env 1 = .string (str s) ∧ t.ds = [] ∧ Fresh H2 t.H ∧ RdI k s t.H (t.env 5) (t.env 6)) ?_ ?_
  · simp [e0, e1]
    refine callV_R cb10 (read1_run (by omega)) ?_
    rintro v H3 ⟨f3, hv⟩
    obtain ⟨hit, val, gone, err, sv, gv, Ov, Og, ok, rfl, hr1, hr2, hok, hno⟩ := readR_shape hv
    have hc1 := hr1.isSlice
    have hc2 := hr2.isSlice
    obtain ⟨ra, rfl, _⟩ := hc1
    obtain ⟨rg, rfl, _⟩ := hc2
    generalize (val.map u8v).length = n1 at *
    generalize (gcells gone).length = n2 at *
    have a1 : aStore Tryd.prog 27 (ptr H3.next) (ansV hit (.slice ra n1 n1) (.slice rg n2 n2) err) ⟨H3.next + 1, upd H3.get H3.next (ansB false nilS nilS 0)⟩ = some ⟨H3.next + 1, upd H3.get H3.next (ansB hit (.slice ra n1 n1) (.slice rg n2 n2) err)⟩ := by
      rw [st27b (b := false) (s := nilS) (g := nilS) (e := 0) (by simp) rfl rfl, updd]
    have k2 : Fresh H3 ⟨H3.next + 1, upd H3.get H3.next (ansB hit (.slice ra n1 n1) (.slice rg n2 n2) err)⟩ := Fresh.ofNew
    have hv2 := hr1.keep k2 (fun _ _ => id)
    have hg2 := hr2.keep k2 (fun _ _ => id)
    simp [alloc27, a1, e0, e1, eds, -st27, -ld27]
    exact ⟨f3.trans k2, hit, val, gone, err, _, _, Ov, Og, H3.next, ok, rfl, rfl, by simp only; omega, by simp, hv2, hg2, hok, hno⟩
  clear e0 e1 eds
  rintro ⟨env, H3, ds⟩ ⟨e0, e1, eds, f3, hit, val, gone, err, sv, gv, Ov, Og, l, ok, e5, e6, hl, r3, hr1, hr2, hok, hno⟩
  simp only at e0 e1 eds f3 e5 e6 hl r3 hr1 hr2
  have hg3 := hg.fresh gs_lt hn f3
  have hn3 : nG ≤ H3.next := Nat.le_trans hn f3.1
  obtain ⟨ra, rfl, _⟩ := hr1.isSlice
  obtain ⟨rg, rfl, _⟩ := hr2.isSlice
  simp only [List.length_map] at r3 hr1 hr2
  -- Parse
  refine aw_cut (fun t => t.env 0 = i64 k ∧ t.env 1 = .string (str s) ∧ t.env 5 = ptr l ∧ t.env 6 = .bool ok ∧ t.ds = [] ∧ Fresh H3 t.H ∧ val.length ≤ 100000 ∧ gone.length ≤ 100000 ∧ PaJ t.H (t.env 7) hit val gone err ok) ?_ ?_
  · simp [e0, e1]
    refine callV_R cb12 (parse_run (by omega)) ?_
    rintro v H4 ⟨f4, hv⟩
    have shape : ∃ sv gv Ov Og, v = rdV hit sv gv err ok ∧ Row 5 true H4 sv (val.map u8v) Ov ∧ Row 39 true H4 gv (gcells gone) Og ∧ val.length ≤ 100000 ∧ gone.length ≤ 100000 := by
      rcases hv with ⟨h2, v2, g2, e2, sv, gv, Ov, Og, hG, hall, q1, q2, q3, q4, rfl⟩ | ⟨hnone, rfl⟩
      · cases ok with
        | true =>
          obtain ⟨rfl, rfl, rfl, rfl⟩ := hall _ _ _ _ (hok rfl)
          exact ⟨sv, gv, Ov, Og, rfl, q1, q2, q3, q4⟩
        | false => exact absurd hG ((hno rfl).2.2.2.2 _ _ _ _)
      · cases ok with
        | true => exact absurd (hok rfl) (hnone _ _ _ _)
        | false =>
          obtain ⟨rfl, rfl, rfl, rfl, _⟩ := hno rfl
          exact ⟨nilS, nilS, none, none, rfl, rows0 _, rowg0 _, by simp, by simp⟩
    obtain ⟨sv4, gv4, Ov4, Og4, rfl, q1, q2, q3, q4⟩ := shape
    obtain ⟨rb, rfl, _⟩ := q1.isSlice
    obtain ⟨rh, rfl, _⟩ := q2.isSlice
    generalize (val.map u8v).length = n1 at *
    generalize (gcells gone).length = n2 at *
    have a1 : aStore Tryd.prog 36 (ptr H4.next) (rdV hit (.slice rb n1 n1) (.slice rh n2 n2) err ok) ⟨H4.next + 1, upd H4.get H4.next (rdB false nilS nilS 0 false)⟩ = some ⟨H4.next + 1, upd H4.get H4.next (rdB hit (.slice rb n1 n1) (.slice rh n2 n2) err ok)⟩ := by
      rw [st36b (b := false) (s := nilS) (g := nilS) (e := 0) (k := false) (by simp) rfl rfl, updd]
    have k2 : Fresh H4 ⟨H4.next + 1, upd H4.get H4.next (rdB hit (.slice rb n1 n1) (.slice rh n2 n2) err ok)⟩ := Fresh.ofNew
    have hv2 := q1.keep k2 (fun _ _ => id)
    have hg2 := q2.keep k2 (fun _ _ => id)
    simp [alloc36, a1, e0, e1, e5, e6, eds, -st36, -ld36]
    exact ⟨f4.trans k2, q3, q4, _, _, Ov4, Og4, H4.next, rfl, by simp only; omega, by simp, hv2, hg2⟩
  clear e0 e1 e5 e6 eds
  rintro ⟨env, H4, ds⟩ ⟨e0, e1, e5, e6, eds, f4, q3, q4, sv4, gv4, Ov4, Og4, l4, e7, hl4, r4, p1, p2⟩
  simp only at e0 e1 e5 e6 eds f4 e7 hl4 r4 p1 p2
  have hg4 := hg3.fresh gs_lt hn3 f4
  have hn4 : nG ≤ H4.next := Nat.le_trans hn3 f4.1
  have r34 : H4.get l = some (ansB hit (.slice ra val.length val.length) (.slice rg gone.length gone.length) err) := by rw [f4.get hl, r3]
  have a0 := ld27b r34
  have a1 := ld27r r4
  have hr1' := hr1.keep f4 (fun _ _ => id)
  have hr2' := hr2.keep f4 (fun _ _ => id)
  simp [e5, e7, a0, a1, -ld27, -ld36]
  refine callV_R cb11 (same_run hr1' hr2' p1 p2 (by omega)) ?_
  rintro _ H5 ⟨rfl, f5⟩
  have r45 : H5.get l4 = some (rdB hit sv4 gv4 err ok) := by rw [f5.get hl4, r4]
  have r35 : H5.get l = some (ansB hit (.slice ra val.length val.length) (.slice rg gone.length gone.length) err) := by rw [f5.get (Nat.lt_of_lt_of_le hl f4.1), r34]
  have a5 := ld27b r35
  have hg5 := hg4.fresh gs_lt hn4 f5
  have hn5 : nG ≤ H5.next := Nat.le_trans hn4 f5.1
  cases ok with
  | false =>
    simp [e0, e1, e5, e6, e7, r45, eds]
    refine callV_R cba (alive_run hg5) ?_
    rintro _ _ ⟨rfl, _⟩
    simp [e0, e1, e5, e6, e7, eds]
  | true =>
    obtain ⟨hM, hz, hline⟩ := hok rfl
    have he : I64 err := by have := hM.2.1; unfold I64; omega
    have hp := print1_run (k := k) (hit := hit) (e := err) (hr1'.keep f5 (fun _ _ => id)) (hr2'.keep f5 (fun _ _ => id)) hz q3 q4 he
    rw [hline] at hp
    simp [e0, e1, e5, e6, e7, r45, a5, eds, -ld27]
    refine callV_R cb7 hp ?_
    rintro _ H6 ⟨rfl, f6⟩
    simp [e0, e1, e5, e6, e7, eds]
    refine callV_R cba (alive_run (hg5.fresh gs_lt hn5 f6)) ?_
    rintro _ _ ⟨rfl, _⟩
    simp [e0, e1, e5, e6, e7, eds]
end Go.Proofs.YtpimepdlbhejhaaDoor.C

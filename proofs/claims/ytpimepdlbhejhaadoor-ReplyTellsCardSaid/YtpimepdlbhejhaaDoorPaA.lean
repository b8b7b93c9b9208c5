/- The document's reading of an answer; are two answers one. Own text of this session. -/
import Derived.Test.YtpimepdlbhejhaaDoorGsB
set_option linter.unusedVariables false
set_option linter.unusedSimpArgs false
set_option maxRecDepth 4000
set_option maxHeartbeats 8000000
namespace Go.Proofs.YtpimepdlbhejhaaDoor.C
open Go Go.RowKit Go.Proofs.YtpimepdlbhejhaaDoorA Go.Proofs.YtpimepdlbhejhaaDoor.Plain
variable {H : AH}
abbrev rdV (hit : Bool) (sv gv : Value) (e : Int) (ok : Bool) : Value := .agg #[.bool hit, sv, gv, i64 e, .bool ok]
abbrev rdB (hit : Bool) (sv gv : Value) (e : Int) (ok : Bool) : ABlk := .cells [.bool hit, sv, gv, i64 e, .bool ok] 36 true 0
theorem alloc36 (H : AH) : aAlloc Tryd.prog 36 H = some (ptr H.next, ⟨H.next + 1, upd H.get H.next (rdB false nilS nilS 0 false)⟩) := by kernel_rfl
theorem build36 : aBuild Tryd.prog 36 [] = some (rdV false nilS nilS 0 false) := by kernel_rfl
theorem build36t (b : Bool) (a : Option Addr) (n c : Nat) (a2 : Option Addr) (n2 c2 : Nat) (e : Int) : aBuild Tryd.prog 36 [(0, ansV b (.slice a n c) (.slice a2 n2 c2) e), (1, .bool true)] = some (rdV b (.slice a n c) (.slice a2 n2 c2) e true) := by kernel_rfl
theorem st36b {H : AH} {l : Nat} {b b' k k' : Bool} {s g s' g' : Value} {e e' : Int} (hg : H.get l = some (rdB b s g e k)) (hs : isCell s' = true) (hgc : isCell g' = true) : aStore Tryd.prog 36 (ptr l) (rdV b' s' g' e' k') H = some ⟨H.next, upd H.get l (rdB b' s' g' e' k')⟩ := by
  rw [st36 _ _ _ rfl]
  show H.wrs l 0 [.bool b', s', g', i64 e', .bool k'] = _
  rw [wrs_of hg (by simp) (by simp [hs, hgc]), setAll_all _ _ (by simp)]
theorem ld36b {H : AH} {l : Nat} {b k : Bool} {s g : Value} {e : Int} (hg : H.get l = some (rdB b s g e k)) : aLoad Tryd.prog 36 (ptr l) H = some (rdV b s g e k) := by
  rw [ld36, row_of hg (by simp)]
  simp
theorem good_uniq {k : Int} {s : List UInt8} {h h2 : Bool} {v v2 : List UInt8} {g g2 : List Nat} {e e2 : Int} (hG : Good k s h v g e) (hG2 : Good k s h2 v2 g2 e2)
    (hall : ∀ h2 v2 g2 e2, Good k s h2 v2 g2 e2 → h2 = h ∧ v2 = v ∧ g2 = g ∧ e2 = e) : h2 = h ∧ v2 = v ∧ g2 = g ∧ e2 = e := hall _ _ _ _ hG2
/-- what the document reads -/
def ParseR (k : Int) (s : List UInt8) (H : AH) (v : Value) : Prop :=
  (∃ hit val gone err sv gv Ov Og, Good k s hit val gone err ∧ (∀ h2 v2 g2 e2, Good k s h2 v2 g2 e2 → h2 = hit ∧ v2 = val ∧ g2 = gone ∧ e2 = err) ∧ Row 5 true H sv (val.map u8v) Ov ∧ Row 39 true H gv (gcells gone) Og ∧ val.length ≤ 100000 ∧ gone.length ≤ 100000 ∧ v = rdV hit sv gv err true) ∨
  ((∀ hit val gone err, ¬ Good k s hit val gone err) ∧ v = rdV false nilS nilS 0 false)
def PaI (k : Int) (s : List UInt8) (B : Nat) (H : AH) (p : Value) : Prop := ∃ hit val gone err sv gv Ov Og l, p = ptr l ∧ B ≤ l ∧ l < H.next ∧ H.get l = some (ansB hit sv gv err) ∧ Row 5 true H sv (val.map u8v) Ov ∧ Row 39 true H gv (gcells gone) Og ∧
    Small64 gone ∧ I64 err ∧ val.length ≤ 100000 ∧ gone.length ≤ 100000 ∧ ∀ h2 v2 g2 e2, Good k s h2 v2 g2 e2 → h2 = hit ∧ v2 = val ∧ g2 = gone ∧ e2 = err
theorem updd (g : Nat → Option ABlk) (l : Nat) (a b : ABlk) : upd (upd g l a) l b = upd g l b := by
  funext x
  simp only [upd_get]
  split <;> rfl
/-- ref.Parse -/
theorem parse_run {k : Int} {s : List UInt8} (hs : s.length < 90000) : CallR cx 12 #[i64 k, .string (str s)] H (fun v H' => Fresh H H' ∧ ParseR k s H' v) := by
  refine wk12 (by simp) ?_
  unfold c12
  refine aw_cut (fun t => t.env 0 = i64 k ∧ t.env 1 = .string (str s) ∧ t.env 4 = ptr H.next ∧ t.ds = [] ∧ t.H = ⟨H.next + 1, upd H.get H.next (rdB false nilS nilS 0 false)⟩) (by simp [alloc36]) ?_
  rintro ⟨env, H1, ds⟩ ⟨e0, e1, e4, eds, hH⟩
  simp only at e0 e1 e4 eds hH
  have f1 : Fresh H H1 := by rw [hH]; exact Fresh.ofNew
  have r1 : H1.get H.next = some (rdB false nilS nilS 0 false) := by rw [hH]; simp
  have l1 : H.next < H1.next := by rw [hH]; simp
  clear hH
  refine aw_cut (fun t => t.env 0 = i64 k ∧ t.env 1 = .string (str s) ∧ t.env 4 = ptr H.next ∧ t.ds = [] ∧ Fresh H1 t.H ∧ PaI k s H1.next t.H (t.env 5)) ?_ ?_
  · simp [e0, e1]
    refine callV_R cb28 (guess_run hs) ?_
    rintro v H2 ⟨f2, hit, val, gone, err, ⟨sv, gv, Ov, Og, rfl, hv, hgr⟩, hz, he, hl, hgl, hall⟩
    obtain ⟨ra, rfl, _⟩ := hv.isSlice
    obtain ⟨rg, rfl, _⟩ := hgr.isSlice
    have a1 : aStore Tryd.prog 27 (ptr H2.next) (ansV hit (.slice ra (val.map u8v).length (val.map u8v).length) (.slice rg (gcells gone).length (gcells gone).length) err) ⟨H2.next + 1, upd H2.get H2.next (ansB false nilS nilS 0)⟩ = some ⟨H2.next + 1, upd H2.get H2.next (ansB hit (.slice ra (val.map u8v).length (val.map u8v).length) (.slice rg (gcells gone).length (gcells gone).length) err)⟩ := by
      rw [st27b (b := false) (s := nilS) (g := nilS) (e := 0) (by simp) rfl rfl, updd]
    have k2 : Fresh H2 ⟨H2.next + 1, upd H2.get H2.next (ansB hit (.slice ra (val.map u8v).length (val.map u8v).length) (.slice rg (gcells gone).length (gcells gone).length) err)⟩ := Fresh.ofNew
    have hv2 := hv.keep k2 (fun _ _ => id)
    have hg2 := hgr.keep k2 (fun _ _ => id)
    have hle := f2.1
    generalize (val.map u8v).length = n1 at *
    generalize (gcells gone).length = n2 at *
    simp [alloc27, a1, e0, e1, e4, eds, -st27, -ld27]
    exact ⟨f2.trans k2, hit, val, gone, err, _, _, Ov, Og, H2.next, rfl, hle, by simp only; omega, by simp, hv2, hg2, hz, he, hl, hgl, hall⟩
  clear e0 e1 e4 eds
  rintro ⟨env, H2, ds⟩ ⟨e0, e1, e4, eds, f2, hit, val, gone, err, sv, gv, Ov, Og, l, e5, hl1, hl2, r2, hv, hgr, hz, he, hl, hgl, hall⟩
  simp only at e0 e1 e4 eds f2 e5 hl2 r2 hv hgr
  obtain ⟨ra, rfl, _⟩ := hv.isSlice
  obtain ⟨rg, rfl, _⟩ := hgr.isSlice
  simp only [List.length_map] at hv hgr r2
  have fin : ∀ {H3 : AH} (b : Bool) (sv gv : Value) (e : Int) (ok : Bool), Fresh H2 H3 → isCell sv = true → isCell gv = true → aStore Tryd.prog 36 (ptr H.next) (rdV b sv gv e ok) H3 = some ⟨H3.next, upd H3.get H.next (rdB b sv gv e ok)⟩ ∧ aLoad Tryd.prog 36 (ptr H.next) ⟨H3.next, upd H3.get H.next (rdB b sv gv e ok)⟩ = some (rdV b sv gv e ok) ∧ Fresh H ⟨H3.next, upd H3.get H.next (rdB b sv gv e ok)⟩ ∧ H3.get H.next = some (rdB false nilS nilS 0 false) := by
    intro H3 b sv gv e ok f hc hg
    have l2 : H.next < H2.next := Nat.lt_of_lt_of_le l1 f2.1
    have r3 : H3.get H.next = some (rdB false nilS nilS 0 false) := by rw [f.get l2, f2.get l1, r1]
    exact ⟨st36b r3 hc hg, ld36b (by simp), fresh_upd' (f1.trans (f2.trans f)) (Nat.le_refl _), r3⟩
  have hconv := conv_row hv
  have hvc : isCell (Value.slice ra val.length val.length) = true := rfl
  have out : ∀ {H3 : AH}, Fresh H2 H3 → Row 5 true ⟨H3.next, upd H3.get H.next (rdB hit (.slice ra val.length val.length) (.slice rg gone.length gone.length) err true)⟩ (.slice ra val.length val.length) (val.map u8v) Ov ∧ Row 39 true ⟨H3.next, upd H3.get H.next (rdB hit (.slice ra val.length val.length) (.slice rg gone.length gone.length) err true)⟩ (.slice rg gone.length gone.length) (gcells gone) Og := by
    intro H3 f3
    have l2 : H.next < H2.next := Nat.lt_of_lt_of_le l1 f2.1
    have r3 : H3.get H.next = some (rdB false nilS nilS 0 false) := by rw [f3.get l2, f2.get l1, r1]
    constructor
    · refine (hv.keep f3 (fun _ _ => id)).keep (S := fun z => z = H.next) ⟨Nat.le_refl _, fun z _ hz => by simp at hz; simp [hz]⟩ (fun z hz hzz => ?_)
      subst hz
      subst hzz
      obtain ⟨o, cs, _, h2, _⟩ := hv.keep f3 (fun _ _ => id)
      rw [r3] at h2
      cases h2
    · refine (hgr.keep f3 (fun _ _ => id)).keep (S := fun z => z = H.next) ⟨Nat.le_refl _, fun z _ hz => by simp at hz; simp [hz]⟩ (fun z hz hzz => ?_)
      subst hz
      subst hzz
      obtain ⟨o, cs, _, h2, _⟩ := hgr.keep f3 (fun _ _ => id)
      rw [r3] at h2
      cases h2
  have a0 := ld27b r2
  by_cases hm : MayP k hit val gone err
  case neg =>
    have hno : ∀ hit val gone err, ¬ Good k s hit val gone err := fun h2 v2 g2 e2 hG => by
      obtain ⟨rfl, rfl, rfl, rfl⟩ := hall _ _ _ _ hG
      exact hm hG.1
    simp [e0, e5, a0, -ld27]
    refine callV_R cb9 (may_run hv hgr) ?_
    rintro _ H3 ⟨b, rfl, hb, f3⟩
    have hbf : b = false := by cases b with | false => rfl | true => exact absurd (hb.1 rfl) hm
    subst hbf
    obtain ⟨a1, a2, a3, _⟩ := fin false nilS nilS 0 false f3 rfl rfl
    simp [e4, build36, a1, a2, eds, -st36, -ld36]
    exact ⟨a3, .inr ⟨hno, rfl⟩⟩
  have hline := fun {H3 : AH} (f3 : Fresh H2 H3) => line_run (k := k) (hit := hit) (val := val) (e := err) (hgr.keep f3 (fun _ _ => id)) hz hl hgl he
  have hconv3 := fun {H3 : AH} (f3 : Fresh H2 H3) => conv_row (hv.keep f3 (fun _ _ => id))
  by_cases hs2 : lineOf k hit val gone err = s
  case neg =>
    have hno : ∀ hit val gone err, ¬ Good k s hit val gone err := fun h2 v2 g2 e2 hG => by
      obtain ⟨rfl, rfl, rfl, rfl⟩ := hall _ _ _ _ hG
      exact hs2 hG.2.2
    simp [e0, e1, e5, a0, -ld27]
    refine callV_R cb9 (may_run hv hgr) ?_
    rintro _ H3 ⟨b, rfl, hb, f3⟩
    have hbt : b = true := hb.2 hm
    subst hbt
    have r3 : H3.get l = some (ansB hit (.slice ra val.length val.length) (.slice rg gone.length gone.length) err) := by rw [f3.get hl2, r2]
    have hc3 := hconv3 f3
    have hln := hline f3
    simp [e0, e1, e5, r3, hc3]
    refine callV_R cb8 hln ?_
    rintro _ H4 ⟨rfl, f4⟩
    obtain ⟨a1, a2, a3, _⟩ := fin false nilS nilS 0 false (f3.trans f4) rfl rfl
    simp [e0, e1, e5, hs2, e4, build36, a1, a2, eds, -st36, -ld36]
    exact ⟨a3, .inr ⟨hno, rfl⟩⟩
  have hG : Good k s hit val gone err := ⟨hm, hz, hs2⟩
  simp [e0, e1, e5, a0, -ld27]
  refine callV_R cb9 (may_run hv hgr) ?_
  rintro _ H3 ⟨b, rfl, hb, f3⟩
  have hbt : b = true := hb.2 hm
  subst hbt
  have r3 : H3.get l = some (ansB hit (.slice ra val.length val.length) (.slice rg gone.length gone.length) err) := by rw [f3.get hl2, r2]
  have hc3 := hconv3 f3
  have hln := hline f3
  simp [e0, e1, e5, r3, hc3]
  refine callV_R cb8 hln ?_
  rintro _ H4 ⟨rfl, f4⟩
  have r4 : H4.get l = some (ansB hit (.slice ra val.length val.length) (.slice rg gone.length gone.length) err) := by rw [f4.get (Nat.lt_of_lt_of_le hl2 f3.1), r3]
  have a04 := ld27b r4
  obtain ⟨a1, a2, a3, _⟩ := fin hit (.slice ra val.length val.length) (.slice rg gone.length gone.length) err true (f3.trans f4) rfl rfl
  obtain ⟨o1, o2⟩ := out (f3.trans f4)
  simp [e0, e1, hs2, e4, e5, a04, build36t, a1, a2, eds, -st36, -ld36, -ld27]
  exact ⟨a3, .inl ⟨hit, val, gone, err, _, _, Ov, Og, hG, hall, o1, o2, hl, hgl, rfl⟩⟩
/-- ref K.Same: two rows of numbers -/
theorem ksame_run {w w' : Bool} {sv gv : Value} {a b : List Nat} {O O' : Option Nat} (h : Row 39 w H sv (gcells a) O) (h' : Row 39 w' H gv (gcells b) O') (hl : a.length ≤ 1000000) : CallR cx 27 #[sv, gv] H (fun v H' => v = .bool (decide (a = b)) ∧ H' = H) := by
  obtain ⟨ra, rfl, _⟩ := h.isSlice
  obtain ⟨rg, rfl, _⟩ := h'.isSlice
  simp only [List.length_map] at h h' ⊢
  refine wk27 (by simp) ?_
  unfold c27
  refine aw_cut (fun t => t.env 0 = .slice ra a.length a.length ∧ t.env 1 = .slice rg b.length b.length ∧ t.ds = [] ∧ t.H = H) (by simp) ?_
  rintro ⟨env, H1, ds⟩ ⟨e0, e1, eds, hH⟩
  simp only at e0 e1 eds hH
  subst hH
  by_cases hlen : a.length = b.length
  case neg =>
    have hne : ¬ a = b := fun e => hlen (by rw [e])
    have hli : ¬ ((a.length : Int) = b.length) := by omega
    simp [e0, e1, hlen, hli, hne, eds]
  refine aw_cut (fun t => t.env 0 = .slice ra a.length a.length ∧ t.env 1 = .slice rg b.length b.length ∧ t.ds = [] ∧ t.H = H1) (by simp [e0, e1, hlen, eds]) ?_
  clear e0 e1 eds
  rintro ⟨env, H2, ds⟩ ⟨e0, e1, eds, hH⟩
  simp only at e0 e1 eds hH
  subst hH
  refine aw_cut (fun t => t.ds = [] ∧ t.H = H2 ∧ a = b) ?_ ?_
  · simp
    refine aw_loop_to a.length (fun k t => t.env 0 = .slice ra a.length a.length ∧ t.env 1 = .slice rg b.length b.length ∧ t.env 5 = i64 (k : Nat) ∧ t.ds = [] ∧ t.H = H2 ∧ ∀ j, j < k → a[j]? = b[j]?) ?_ ?_ ?_
    · clear e0 e1 eds
      rintro k ⟨env, H1, ds⟩ hk ⟨e0, e1, e5, eds, hH, hall⟩
      simp only at e0 e1 e5 eds hH
      subst hH
      have hk' : k < b.length := by omega
      have hkN : (k : Int) < a.length := by omega
      have hkN' : (k : Int) < b.length := by omega
      have hwk : IntKind.i64.wrap ((k : Int) + 1) = ((k + 1 : Nat) : Int) := by rw [w64 (by omega)]; push_cast; rfl
      obtain ⟨la, oa, ca, hra, g1, g2, _⟩ := h.cell (i := k) (x := u64 (a[k] : Nat)) (by simp [hk])
      obtain ⟨lb, ob, cb, hrb, g3, g4, _⟩ := h'.cell (i := k) (x := u64 (b[k] : Nat)) (by simp [hk'])
      have hixa := ix24 la oa a.length a.length .i64 (k : Int) (by omega) hkN
      have hixb := ix24 lb ob b.length b.length .i64 (k : Int) (by omega) hkN'
      rw [Int.toNat_natCast] at hixa hixb
      have haj : a[k]? = some a[k] := List.getElem?_eq_getElem hk
      have hbj : b[k]? = some b[k] := List.getElem?_eq_getElem hk'
      by_cases hx : a[k] = b[k]
      · have hall' : ∀ j, j < k + 1 → a[j]? = b[j]? := fun j hj => by
          by_cases e : j = k
          · subst e; rw [haj, hbj, hx]
          · exact hall j (by omega)
        generalize a[k] = x at g2 hx
        generalize b[k] = y at g4 hx
        subst hx
        simp [e0, e1, e5, hk, hkN, hra, hrb, hixa, hixb, g1, g2, g3, g4, hwk, eds]
        exact hall'
      · have hne : ¬ a = b := fun e => hx (by subst e; rfl)
        generalize a[k] = x at g2 hx
        generalize b[k] = y at g4 hx
        have hxi : ¬ ((x : Int) = y) := by omega
        simp [e0, e1, e5, hk, hkN, hra, hrb, hixa, hixb, g1, g2, g3, g4, hx, hxi, hne, eds]
    · clear e0 e1 eds
      rintro ⟨env, H1, ds⟩ ⟨e0, e1, e5, eds, hH, hall⟩
      simp only at e0 e1 e5 eds hH
      have hab : a = b := by
        refine List.ext_getElem? fun j => ?_
        by_cases hj : j < a.length
        · exact hall j hj
        · rw [List.getElem?_eq_none (by omega), List.getElem?_eq_none (by omega)]
      simp [e0, e5, eds, hH, hab]
    · simp [e0, e1, eds]
  clear e0 e1 eds
  rintro ⟨env, H1, ds⟩ ⟨eds, hH, hab⟩
  simp only at eds hH
  subst hH
  simp [eds, hab]
end Go.Proofs.YtpimepdlbhejhaaDoor.C

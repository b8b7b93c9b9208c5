/- Bytes told as text, over the small heap. Own text of this session. -/
import Derived.Test.YtlbgincmndakmaaDoorNum
set_option linter.unusedVariables false
set_option linter.unusedSimpArgs false
set_option maxRecDepth 4000
set_option maxHeartbeats 4000000
namespace Go.Proofs.YtlbgincmndakmaaDoor.C
open Go Go.RowKit Go.Proofs.YtlbgincmndakmaaDoorA Go.Proofs.YtlbgincmndakmaaDoor.Plain
variable {H : AH}
/-- half a byte's digit -/
def hd (n : Nat) : UInt8 := if n < 10 then UInt8.ofNat (48 + n) else UInt8.ofNat (87 + n)
def hexes : List UInt8 := [48, 49, 50, 51, 52, 53, 54, 55, 56, 57, 97, 98, 99, 100, 101, 102]
def hex (l : List UInt8) : List UInt8 := l.flatMap fun b => [hd (b.toNat / 16), hd (b.toNat % 16)]
abbrev u8v (b : UInt8) : Value := .int .u8 (b.toNat : Int)
theorem hexes_at : ∀ n : Fin 16, hexes[n.val]? = some (hd n.val) := by decide
theorem hd_inj : ∀ m n : Fin 16, hd m.val = hd n.val → m = n := by decide
theorem el24 : El Tryd.prog 24 5 := ⟨un24, by kernel_rfl, (Tryd.prog.info? 5).getD default, by kernel_rfl, by kernel_rfl, of_decide_eq_true (by kernel_rfl), by kernel_rfl⟩
theorem and15 : ∀ n : Fin 256, bits .and .u8 (n.val : Int) 15 = ((n.val % 16 : Nat) : Int) := by decide
theorem idxH (k : IntKind) (n : Nat) (h : n < 16) : aIndex Tryd.prog 9 (.string ⟨#[48, 49, 50, 51, 52, 53, 54, 55, 56, 57, 97, 98, 99, 100, 101, 102]⟩) (.int k n) = some (u8v (hd n)) := by
  have h1 := aIndex_str (P := Tryd.prog) (t := 9) un9 hexes k n h
  have h2 := hexes_at ⟨n, h⟩
  rw [List.getElem?_eq_getElem (by exact h)] at h2
  have h3 : hexes[n]'h = hd n := Option.some.inj h2
  rw [h3] at h1
  exact h1
theorem build2 (a b : Value) (ha : isCell a = true) (hb : isCell b = true) (H : AH) : aBuildSlice Tryd.prog 24 2 [(0, a), (1, b)] H = some (.slice (some ⟨H.next, 0, none⟩) 2 2, ⟨H.next + 1, upd H.get H.next (.cells [a, b] 5 true 1)⟩) := by
  have hz : zeroOf Tryd.prog 5 = some [.int .u8 0] := by kernel_rfl
  have hl : rowZeros [Value.int .u8 0] 2 = [.int .u8 0, .int .u8 0] := rfl
  simp [aBuildSlice, un24, sz5, hz, afill, cells_isCell ha, cells_isCell hb, hl, setAll, AH.new]
theorem mk24 (n : Nat) (h : n ≤ 1000000000000) (H : AH) : aMakeSlice Tryd.prog 24 (.int .i64 0) (.int .i64 n) H = some (.slice (some ⟨H.next, 0, none⟩) 0 0, ⟨H.next + 1, upd H.get H.next (.cells [] 5 true 1)⟩) := by
  have hi : Tryd.prog.info? 5 = some ((Tryd.prog.info? 5).getD default) := by kernel_rfl
  have hz : zeroOf Tryd.prog 5 = some [.int .u8 0] := by kernel_rfl
  have hs : ((Tryd.prog.info? 5).getD default).size = 1 := by kernel_rfl
  have hb : ((Tryd.prog.info? 5).getD default).bytes = 1 := by kernel_rfl
  simp only [aMakeSlice, un24, hz]
  rw [hi]
  simp only [hs, hb]
  rw [if_pos ⟨Int.le_refl _, by omega, by omega, by omega⟩]
  rfl
/-- an own row of bytes, two more of them -/
theorem append2 {sv : Value} {l : List UInt8} {O : Option Nat} (h : Row 5 true H sv (l.map u8v) O) (hl : l.length < 1000000000) (a b : UInt8) :
    ∃ sr H2 O2, aAppend Tryd.prog 24 24 sv (.slice (some ⟨H.next, 0, none⟩) 2 2) ⟨H.next + 1, upd H.get H.next (.cells [u8v a, u8v b] 5 true 1)⟩ = some (sr, H2) ∧ Row 5 true H2 sr ((l ++ [a, b]).map u8v) O2 ∧ (∀ x, O2 = some x → O = some x ∨ H.next ≤ x) ∧ H.next ≤ H2.next ∧ ∀ x, x < H.next → O ≠ some x → H2.get x = H.get x := by
  have hlow : ∀ x, O = some x → x < H.next := fun x e => by subst e; exact h.low
  have h1 : Row 5 true ⟨H.next + 1, upd H.get H.next (.cells [u8v a, u8v b] 5 true 1)⟩ sv (l.map u8v) O := h.same (fun x e => by have := hlow x e; simp; omega) (by simp)
  have h2 : Row 5 true ⟨H.next + 1, upd H.get H.next (.cells [u8v a, u8v b] 5 true 1)⟩ (.slice (some ⟨H.next, 0, none⟩) 2 2) [u8v a, u8v b] (some H.next) := ⟨0, [u8v a, u8v b], rfl, by simp, by simp, by simp, by simp⟩
  obtain ⟨sr, H2, O2, a1, a2, a3, a4⟩ := row_append_row el24 h1 h2 (by simp; omega) (by simp)
  refine ⟨sr, H2, O2, a1, by simpa using a2, ?_, ?_, ?_⟩
  · intro x e
    rcases a3 with ⟨h3, h4⟩ | ⟨h3, h4⟩
    · exact .inl (h3 ▸ e)
    · rw [h3] at e; cases e; right; simp
  · rcases a3 with ⟨h3, rfl⟩ | ⟨h3, h4⟩
    · simp
    · simp at h4; omega
  · intro x hx hn
    rw [a4 x (by simp; omega) hn]
    simp; omega
/-- a row of bytes made a text -/
theorem conv_row {w : Bool} {sv : Value} {l : List UInt8} {O : Option Nat} (h : Row 5 w H sv (l.map u8v) O) : aConv Tryd.prog 24 9 sv H = some (.string (str l)) := by
  cases O with
  | none =>
    obtain ⟨⟨a, rfl, ha⟩, hl⟩ := h
    have hl' : l = [] := by simpa using hl
    subst hl'
    rcases ha with rfl | ⟨_, x, o, rfl⟩
    · have h1 : aConvert Tryd.prog 24 9 (.slice none 0 0) H = some (.string (str [])) := by
        simp only [aConvert, un24, un9, u8_is, if_true]
        rfl
      simp only [aConv, h1]
    · exact aConv_bytes (l := []) un24 un9 u8_is (fun h => absurd rfl h)
  | some x =>
    obtain ⟨o, cs, rfl, h2, h3, h4, h5⟩ := h
    simp only [List.length_map] at h3 h4 ⊢
    refine aConv_bytes (l := l) un24 un9 u8_is (fun _ => ?_)
    rw [row_of h2 h4, h3]
theorem hex_len (m : List UInt8) : (hex m).length = 2 * m.length := by
  induction m with
  | nil => rfl
  | cons b m ih =>
    have : hex (b :: m) = [hd (b.toNat / 16), hd (b.toNat % 16)] ++ hex m := rfl
    rw [this, List.length_append, ih]
    simp; omega
/-- digits.Hex -/
theorem hex_run {w : Bool} {sv : Value} {l : List UInt8} {O : Option Nat} (h : Row 5 w H sv (l.map u8v) O) (hl : l.length < 100000000) : CallR cx 22 #[sv] H (fun v H' => v = .string (str (hex l)) ∧ Fresh H H') := by
  obtain ⟨ra, rfl, hra⟩ := h.isSlice
  simp only [List.length_map] at h
  have hw2 : IntKind.i64.wrap (2 * (l.length : Int)) = ((2 * l.length : Nat) : Int) := by rw [wrap_small (by omega)]; push_cast; rfl
  have hmk := mk24 (2 * l.length) (by omega) H
  refine wk22 (by simp) ?_
  simp only [List.length_map]
  simp [c22, hw2]
  simp only [Int.natCast_mul, Int.cast_ofNat_Int] at hmk
  simp [hmk]
  have hrow0 : Row 5 true ⟨H.next + 1, upd H.get H.next (.cells [] 5 true 1)⟩ (.slice (some ⟨H.next, 0, none⟩) 0 0) (([] : List UInt8).map u8v) (some H.next) := ⟨0, [], rfl, by simp, rfl, by simp, by simp⟩
  refine aw_loop_to l.length (fun k s => s.env 10 = .slice ra l.length l.length ∧ s.env 11 = i64 l.length ∧ s.env 12 = i64 k ∧ s.ds = [] ∧ Fresh H s.H ∧ ∃ O', Row 5 true s.H (s.env 3) ((hex (l.take k)).map u8v) O' ∧ ∀ x, O' = some x → H.next ≤ x) ?_ ?_ ?_
  · rintro k ⟨env, H1, ds⟩ hk ⟨e10, e11, e12, eds, hf, O', hrow, hO⟩
    simp only at e10 e11 e12 eds hf hrow
    generalize e3 : env 3 = ov at hrow
    have hkN : (k : Int) < l.length := by omega
    have h0k : (0 : Int) ≤ k := by omega
    have hw : IntKind.i64.wrap ((k : Int) + 1) = (k : Int) + 1 := wrap_small (by omega)
    obtain ⟨a, o, cs, rfl, hcs, hcx, hOa⟩ := h.cell (i := k) (x := u8v l[k]) (by rw [List.getElem?_map, List.getElem?_eq_getElem hk]; rfl)
    have hlow : a < H.next := by subst hOa; exact h.low
    have hcs1 : H1.get a = some (.cells cs 5 w 1) := by rw [hf.get hlow, hcs]
    have hb := UInt8.toNat_lt l[k]
    have hsh : ((l[k].toNat : Nat) : Int) / 2 ^ min (Int.toNat 4) (IntKind.bits .u8) = ((l[k].toNat / 16 : Nat) : Int) := by
      show ((l[k].toNat : Nat) : Int) / 16 = _
      omega
    have hshr := fun ox oy => aBin_shr (P := Tryd.prog) 5 ox oy .u8 .u64 (l[k].toNat : Int) 4 (by omega)
    simp only [hsh] at hshr
    have hand := and15 ⟨l[k].toNat, by omega⟩
    simp only at hand
    have hi1 := idxH .u8 (l[k].toNat / 16) (by omega)
    have hi2 := idxH .u8 (l[k].toNat % 16) (by omega)
    have hb2 := build2 (u8v (hd (l[k].toNat / 16))) (u8v (hd (l[k].toNat % 16))) rfl rfl H1
    have hlen : (hex (l.take k)).length < 1000000000 := by
      rw [hex_len]; simp; omega
    obtain ⟨sr, H2, O2, ha, hrow2, hO2, hn2, hk2⟩ := append2 hrow hlen (hd (l[k].toNat / 16)) (hd (l[k].toNat % 16))
    have htk : hex (l.take (k + 1)) = hex (l.take k) ++ [hd (l[k].toNat / 16), hd (l[k].toNat % 16)] := by
      rw [List.take_add_one, List.getElem?_eq_getElem hk]
      show (l.take k ++ [l[k]]).flatMap _ = _
      rw [List.flatMap_append]
      rfl
    simp [e10, e11, e12, e3, hkN, ix24 _ _ _ _ _ _ h0k hkN, hcs1, hcx, hshr, hand, hi1, hi2, hb2, ha, hw, eds, -Int.natCast_ediv, -Int.natCast_emod]
    refine ⟨?_, O2, by rw [htk]; exact hrow2, ?_⟩
    · exact ⟨Nat.le_trans hf.1 hn2, fun x hx _ => by rw [hk2 x (by have := hf.1; omega) (fun e => by have := hO x e; omega), hf.get hx]⟩
    · intro x e
      rcases hO2 x e with h' | h'
      · exact hO x h'
      · exact Nat.le_trans hf.1 h'
  · rintro ⟨env, H1, ds⟩ ⟨e10, e11, e12, eds, hf, O', hrow, hO⟩
    simp only at e10 e11 e12 eds hf hrow
    rw [List.take_length] at hrow
    have hc := conv_row hrow
    simp [e11, e12, hc, eds, hf]
  · simp
    exact ⟨Fresh.ofNew, some H.next, by simpa [hex] using hrow0, by simp⟩
end Go.Proofs.YtlbgincmndakmaaDoor.C

/-
  A SMALL HEAP FOR A LARGE ONE (part 18: texts). Own text of this session.
-/
import Derived.Test.YtmeaeafceankkaaDoorA17
set_option linter.unusedVariables false
set_option linter.unusedSimpArgs false
namespace Go.Proofs.YtmeaeafceankkaaDoorA
open Go Go.RowKit

/-- a text of these bytes -/
abbrev str (l : List UInt8) : ByteArray := ⟨l.toArray⟩
theorem str_eta (s : ByteArray) : s = str s.data.toList := by cases s; simp [str]
@[simp] theorem str_size (l : List UInt8) : (str l).size = l.length := by simp [str, ByteArray.size]
theorem str_inj {a b : List UInt8} : str a = str b ↔ a = b := by
  constructor
  · intro h; simpa [str] using congrArg (fun s : ByteArray => s.data.toList) h
  · rintro rfl; rfl
theorem str_append (a b : List UInt8) : str a ++ str b = str (a ++ b) := by
  have h : (str a ++ str b).data.toList = a ++ b := by simp [str, ByteArray.data_append]
  rw [str_eta (str a ++ str b), h]
section
variable {P : Program} {t : TypeId} (ox oy : Operand)
theorem aBin_stradd (h : P.underlying t = some .string) (a b : List UInt8) (hl : a.length + b.length < 4611686018427387904) : aBin P .add t ox oy (.string (str a)) (.string (str b)) = some (.string (str (a ++ b))) := by
  rw [aBin_data t ox oy .add (by simp [aNil, h, nilFits]) rfl rfl, ← str_append]
  have e : binOp .add t (.string (str a)) (.string (str b)) = (Pure.pure (.string (str a ++ str b)) : Sem Value) := by
    have h2 : ¬ ((((str a).size + (str b).size : Nat) : Int) > IntKind.i64.max) := by
      simp [IntKind.max, IntKind.signed, IntKind.bits]; omega
    show Op.stringOp .add (str a) (str b) = _
    simp only [Op.stringOp, h2, if_false]
  have e2 : (do eqGuard .add t ox oy (.string (str a)) (.string (str b)); binOp .add t (.string (str a)) (.string (str b))) = binOp .add t (.string (str a)) (.string (str b)) := rfl
  rw [e2, e]
  rfl
theorem aBin_streqL (h : P.underlying t = some .string) (a b : List UInt8) : aBin P .eql t ox oy (.string (str a)) (.string (str b)) = some (.bool (decide (a = b))) := by
  rw [aBin_streq t ox oy h]
  simp only [str_inj]
theorem aBin_strneL (h : P.underlying t = some .string) (a b : List UInt8) : aBin P .neq t ox oy (.string (str a)) (.string (str b)) = some (.bool (decide (a ≠ b))) := by
  rw [aBin_strne t ox oy h]
  simp only [ne_eq, str_inj]
end
theorem aIndex_str {P : Program} {t : TypeId} (h : P.underlying t = some .string) (l : List UInt8) (k : IntKind) (i : Nat) (hi : i < l.length) : aIndex P t (.string (str l)) (.int k i) = some (.int .u8 (l[i].toNat)) := by
  have h0 : (0 : Int) ≤ (i : Nat) := by omega
  simp [aIndex, h, str, hi]
theorem extract_str (l : List UInt8) (a b : Nat) (hab : a ≤ b) (hb : b ≤ l.length) : (str l).extract a b = str ((l.take b).drop a) := by
  have : ((str l).extract a b).data.toList = (l.take b).drop a := by
    simp [str, ByteArray.data_extract, List.extract_eq_take_drop]
    rw [List.drop_take]
  rw [str_eta ((str l).extract a b), this]
theorem aSlice_str {P : Program} {t : TypeId} (h : P.underlying t = some .string) (l : List UInt8) {lo hi : Option Value} {a b : Nat} {H : AH} (hb : bnd hi l.length l.length = some b) (ha : bnd lo 0 b = some a) (hab : a ≤ b) (hbl : b ≤ l.length) :
    aSlice P t (.string (str l)) lo hi H = some (.string (str ((l.take b).drop a))) := by
  simp only [aSlice, h, str_size, hb, ha, Option.bind_some, Option.map_some]
  rw [extract_str l a b hab hbl]
theorem byteOf_u8 (b : UInt8) : byteOf (.int .u8 b.toNat) = some b := by
  simp [byteOf]
theorem mapM_bytes : ∀ (l : List UInt8), (l.map fun b => Value.int .u8 (b.toNat : Int)).mapM byteOf = some l
  | [] => rfl
  | b :: l => by
    rw [List.map_cons, List.mapM_cons, byteOf_u8, mapM_bytes l]
    rfl
/-- bytes made a text -/
theorem aConv_bytes {P : Program} {s d e : TypeId} (hs : P.underlying s = some (.slice e)) (hd : P.underlying d = some .string) (he : isU8 P e = true) {l0 o c : Nat} {l : List UInt8} {H : AH} (hr : l.length ≠ 0 → H.row l0 o l.length = some (l.map fun b => Value.int .u8 (b.toNat : Int))) :
    aConv P s d (.slice (some ⟨l0, o, none⟩) l.length c) H = some (.string (str l)) := by
  have h1 : aConvert P s d (.slice (some ⟨l0, o, none⟩) l.length c) H = some (.string (str l)) := by
    simp only [aConvert, hs, hd, he, if_true]
    split
    · rename_i h0
      obtain rfl := List.length_eq_zero_iff.1 h0
      rfl
    · rename_i h0
      rw [hr h0, Option.bind_some, mapM_bytes]
      rfl
  simp only [aConv, h1]
theorem aBytes_str {P : Program} {s d e : TypeId} (hs : P.underlying s = some .string) (hd : P.underlying d = some (.slice e)) (he : isU8 P e = true) {l : List UInt8} {H : AH} :
    aBytes P s d (.string (str l)) H = some (.slice (some ⟨H.next, 0, none⟩) l.length l.length, H.new (.cells (l.map fun b => Value.int .u8 (b.toNat : Int)) e true 1)) := by
  simp only [aBytes, hs, hd, he, if_true, str_size]

end Go.Proofs.YtmeaeafceankkaaDoorA

/- This seat's setting: its package variables, and the law's own example, reckoned. Written by a program of this session's (wip/tools/base.py). -/
import Derived.Test.YtmeaeafceankkaaDoorA17
import Derived.Test.YtmeaeafceankkaaDoorY
import Derived.Test.YtmeaeafceankkaaDoorA21
import Derived.Test.YtmeaeafceankkaaDoorProg
set_option linter.unusedVariables false
set_option maxRecDepth 100000
namespace Go.Proofs.YtmeaeafceankkaaDoor.C
open Go Go.RowKit Go.Proofs.YtmeaeafceankkaaDoorA
/-- the package variables that the laws read, with what they have -/
noncomputable def gs : Globs := []
/-- how many there are -/
def nG : Nat := 3
/-- what is reckoned once for all: the law's own example, and other calls at given arguments -/
def closed : List Closed := [(7, #[], .bool true)]
noncomputable def cx : Cx := ⟨Tryd.prog, GG nG, fun f args H v H' => closedOrc gs closed f args H v H' ∨ libOrc f args H v H'⟩
@[simp] theorem cxP : cx.P = Tryd.prog := (rfl)
@[simp] theorem cxG : cx.G = GG nG := (rfl)
theorem mixed : Tryd.prog.follows .mixedOrders = true := by kernel_rfl
theorem allOk : progOk Tryd.prog (GG nG) = true := by kernel_rfl
theorem closed_true : (closed.all (comesToX (joinFE 41 9) Tryd.prog nG gs 1000 60)) = true := by kernel_rfl
theorem gs_lt : gs.all (fun x => decide (x.1 < nG)) = true := by kernel_rfl
theorem gs_dat : (gs.all fun x => x.2.all dataV) = true := by kernel_rfl
theorem orcOk : ∀ f args H v H', cx.orc f args H v H' → JOk cx (.call f args H v H') := fun f args H v H' h => h.elim (closedOrcX_ok (orc0 := libOrc) mixed allOk gs_lt (globs_data gs_dat) (by kernel_rfl) (joinFE_ok fun f args H v H' h => Or.inl h) (fun f args H v H' h => libOk f args H v H' h) closed_true f args H v H') (libOk f args H v H')
theorem closed_run {f : FuncId} {args : Array Value} {v : Value} {H : AH} (h : (f, args, v) ∈ closed) (hg : HasG gs H) : CallR cx f args H (fun v' H' => v' = v ∧ H' = H) := ⟨_, _, .orc (.inl ⟨h, rfl, hg⟩), rfl, rfl⟩
theorem alive_run {H : AH} (hg : HasG gs H) : CallR cx 7 #[] H (fun v H' => v = .bool true ∧ H' = H) := closed_run (by simp [closed]) hg
theorem cba : callable cx.P 7 = true := by kernel_rfl
theorem cbj : callable cx.P 41 = true := by kernel_rfl
/-- strings.Join -/
theorem join_run {H : AH} {sv : Value} {own : Bool} {xs : List (List UInt8)} {sep : List UInt8} {O : Option Nat} (hrow : Row 9 own H sv (strs xs) O) (h1 : xs.length ≤ 140737488355328) (h2 : (Lib.join xs sep).length ≤ 140737488355328) : CallR cx 41 #[sv, .string (str sep)] H (fun v H' => v = .string (str (Lib.join xs sep)) ∧ H' = H) :=
  ⟨_, _, .orc (.inr (.inl ⟨rfl, rfl, sv, own, xs, sep, O, rfl, hrow, h1, h2, rfl⟩)), rfl, rfl⟩
theorem cbs : callable cx.P 50 = true := by kernel_rfl
/-- strings.genSplit at one byte -/
theorem split_run {H : AH} {l : List UInt8} {c : UInt8} (hl : l.length < 4294967281) : CallR cx 50 #[.string (str l), .string (str [c]), i64 0, i64 (-1)] H (fun v H' => v = sl H.next 0 (splitL c l).length ∧ H' = H.new (.cells (strs (splitL c l)) 9 true 1)) :=
  ⟨_, _, .orc (.inr (.inr ⟨rfl, l, c, rfl, hl, rfl, rfl⟩)), rfl, rfl⟩
end Go.Proofs.YtmeaeafceankkaaDoor.C

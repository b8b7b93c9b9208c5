/- This seat's setting: its package variables, and the law's own example, reckoned. Written by a program of this session's (wip/tools/base.py). -/
import Derived.Test.YtikkokolmipppaaA17
import Derived.Test.YtikkokolmipppaaProg
set_option linter.unusedVariables false
set_option maxRecDepth 100000
namespace Go.Proofs.Ytikkokolmipppaa.C
open Go Go.RowKit Go.Proofs.YtikkokolmipppaaA
/-- the package variables that the laws read, with what they have -/
noncomputable def gs : Globs := []
/-- how many there are -/
def nG : Nat := 0
/-- what is reckoned once for all: the law's own example, and other calls at given arguments -/
def closed : List Closed := [(7, #[], .bool true)]
noncomputable def cx : Cx := ⟨Try.prog, GG nG, closedOrc gs closed⟩
@[simp] theorem cxP : cx.P = Try.prog := (rfl)
@[simp] theorem cxG : cx.G = GG nG := (rfl)
theorem mixed : Try.prog.follows .mixedOrders = true := by kernel_rfl
theorem allOk : progOk Try.prog (GG nG) = true := by kernel_rfl
theorem closed_true : (closed.all (comesTo Try.prog nG gs 1000 60)) = true := by kernel_rfl
theorem gs_lt : gs.all (fun x => decide (x.1 < nG)) = true := by kernel_rfl
theorem gs_dat : (gs.all fun x => x.2.all dataV) = true := by kernel_rfl
theorem orcOk : ∀ f args H v H', cx.orc f args H v H' → JOk cx (.call f args H v H') := closedOrc_ok mixed allOk gs_lt (globs_data gs_dat) (by kernel_rfl) closed_true
theorem closed_run {f : FuncId} {args : Array Value} {v : Value} {H : AH} (h : (f, args, v) ∈ closed) (hg : HasG gs H) : CallR cx f args H (fun v' H' => v' = v ∧ H' = H) := ⟨_, _, .orc ⟨h, rfl, hg⟩, rfl, rfl⟩
theorem alive_run {H : AH} (hg : HasG gs H) : CallR cx 7 #[] H (fun v H' => v = .bool true ∧ H' = H) := closed_run (by simp [closed]) hg
theorem cba : callable cx.P 7 = true := by kernel_rfl
end Go.Proofs.Ytikkokolmipppaa.C

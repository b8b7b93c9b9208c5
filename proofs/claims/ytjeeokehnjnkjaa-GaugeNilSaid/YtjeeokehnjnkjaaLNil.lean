/- GaugeNil: reckoned, for any asking (no branch looks at it). Own text of this session. -/
import Derived.Test.YtjeeokehnjnkjaaA16
import Derived.Test.YtjeeokehnjnkjaaProg
set_option linter.unusedVariables false
set_option maxRecDepth 100000
namespace Go.Proofs.Ytjeeokehnjnkjaa.C
open Go Go.RowKit Go.Proofs.YtjeeokehnjnkjaaA
noncomputable def cx : Cx := ⟨Try.prog, fun _ => false, fun _ _ _ _ _ => False⟩
theorem mixed : Try.prog.follows .mixedOrders = true := by kernel_rfl
theorem allOk : progOk Try.prog (fun _ => false) = true := by kernel_rfl
theorem nil_true (b : Bool) : comesTrueA Try.prog (fun _ => false) 1000 40 5 #[.bool b] = true := by kernel_rfl
theorem gaugeNil_run {b : Bool} : CallR cx 5 #[.bool b] H00 (fun v _ => v = .bool true) := comesTrueA_run (nil_true b)
end Go.Proofs.Ytjeeokehnjnkjaa.C

/- SlabNil: reckoned, for any handle and any number (no branch looks at them). Own text of this session. -/
import Derived.Test.YtdcciodnlnkjpaaA16
import Derived.Test.YtdcciodnlnkjpaaProg
set_option linter.unusedVariables false
set_option maxRecDepth 100000
namespace Go.Proofs.Ytdcciodnlnkjpaa.C
open Go Go.RowKit Go.Proofs.YtdcciodnlnkjpaaA
noncomputable def cx : Cx := ⟨Try.prog, fun _ => false, fun _ _ _ _ _ => False⟩
theorem mixed : Try.prog.follows .mixedOrders = true := by kernel_rfl
theorem allOk : progOk Try.prog (fun _ => false) = true := by kernel_rfl
theorem nil_true (p t v : Int) : comesTrueA Try.prog (fun _ => false) 1000 40 6 #[.agg #[.int .i32 p, .int .u32 t], .int .i64 v] = true := by kernel_rfl
theorem slabNil_run {p t v : Int} (h1 : IntKind.i32.has p) (h2 : IntKind.u32.has t) (h3 : (Lit.int .i64 v).wf = true) : CallR cx 6 #[.agg #[.int .i32 p, .int .u32 t], .int .i64 v] H00 (fun v _ => v = .bool true) :=
  comesTrueA_run (nil_true p t v)
end Go.Proofs.Ytdcciodnlnkjpaa.C

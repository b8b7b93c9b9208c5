/- The package variable that ReplyStats reads beside the seat's setting: the counts' names. Own text of this session. -/
import Derived.Test.YtpimepdlbhejhaaDoorC
import Derived.Test.YtpimepdlbhejhaaDoorRows
set_option linter.unusedVariables false
set_option maxRecDepth 100000
namespace Go.Proofs.YtpimepdlbhejhaaDoor.C
open Go Go.RowKit Go.Proofs.YtpimepdlbhejhaaDoorA
noncomputable def gsN : Globs := [(0, unD 8 (Rows.laid_hutch_tally_names (H := Unit)))]
theorem gsN_lt : gsN.all (fun x => decide (x.1 < nG)) = true := by kernel_rfl
theorem gsN_dat : (gsN.all fun x => x.2.all dataV) = true := by kernel_rfl
theorem has0 {H : AH} : HasG gs H := fun x hx => nomatch (show x ∈ ([] : Globs) from hx)
end Go.Proofs.YtpimepdlbhejhaaDoor.C

-- Written by ext.py (wip/) over the kit's print: not trusted, Lean checks it.
import Derived.Test.YtpnlidfebnkgmaaXFnWeightSumsx13
namespace Go.Proofs.Ytpnlidfebnkgmaa.XFnWeightSums
open Go.RowKit Go.Proofs.Ytpnlidfebnkgmaa.XFnWeightSums Go.Proofs.YtpnlidfebnkgmaaW.PrintWords Go.Proofs.YtpnlidfebnkgmaaW.PrintLast Go.Proofs.YtpnlidfebnkgmaaW.PrintMore
set_option linter.unusedVariables false
/-- What is left of laws_FnWeightSums. -/
def laws_FnWeightSums.Pure : Prop := ∀ (l0 : List Int), (l0.length ≤ maxLen ∧ ∀ e_680 ∈ l0, (Lit.int .u8 e_680).wf = true) → ∃ k : Nat, laws_FnWeightSums.f k l0 = some true
end Go.Proofs.Ytpnlidfebnkgmaa.XFnWeightSums

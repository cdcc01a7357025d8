/- FnExactLeastSolution: proved. No condition. -/
import Derived.Test.YtdbkkjoejomcmaaGreatBO
import Derived.Test.YtdbkkjoejomcmaaGreatWk16
import Derived.Test.YtdbkkjoejomcmaaGreatWk17
set_option linter.unusedVariables false
set_option linter.unusedSimpArgs false
section
namespace Go.Proofs.YtdbkkjoejomcmaaGreat
open Go Go.Big Go.Proofs
set_option maxHeartbeats 2000000
theorem fnExactLeastSolution_holds : Rows.FnExactLeastSolutionSaid :=
  fnExactLeastSolution.of_pure allH_ok allK_all (fun r l s _ _ _ _ _ _ hs _ => lsol_eq r l s hs)
end Go.Proofs.YtdbkkjoejomcmaaGreat
end

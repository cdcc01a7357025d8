/- FnExactTurnSolution: proved. No condition. -/
import Derived.Test.YtdbkkjoejomcmaaGreatBO
import Derived.Test.YtdbkkjoejomcmaaGreatWk15
import Derived.Test.YtdbkkjoejomcmaaGreatWk16
set_option linter.unusedVariables false
set_option linter.unusedSimpArgs false
section
namespace Go.Proofs.YtdbkkjoejomcmaaGreat
open Go Go.Big Go.Proofs
set_option maxHeartbeats 2000000
theorem fnExactTurnSolution_holds : Rows.FnExactTurnSolutionSaid :=
  fnExactTurnSolution.of_pure allH_ok allK_all (fun r l s k _ _ _ _ _ _ _ hs _ => tsol_eq r l s k hs)
end Go.Proofs.YtdbkkjoejomcmaaGreat
end

/- FnExactAllPlacements: proved. No condition. -/
import Derived.Test.YtdbkkjoejomcmaaGreatBO
import Derived.Test.YtdbkkjoejomcmaaGreatWk10
set_option linter.unusedVariables false
set_option linter.unusedSimpArgs false
section
namespace Go.Proofs.YtdbkkjoejomcmaaGreat
open Go Go.Big Go.Proofs
set_option maxHeartbeats 2000000
theorem fnExactAllPlacements_holds : Rows.FnExactAllPlacementsSaid :=
  fnExactAllPlacements.of_pure allG_ok allG_all (fun r l _ _ _ _ _ => pall_eq r l)
end Go.Proofs.YtdbkkjoejomcmaaGreat
end

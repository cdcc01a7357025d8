/- FnExactPlacementsAt: proved. No condition. -/
import Derived.Test.YtdbkkjoejomcmaaGreatBO
import Derived.Test.YtdbkkjoejomcmaaGreatWk11
set_option linter.unusedVariables false
set_option linter.unusedSimpArgs false
section
namespace Go.Proofs.YtdbkkjoejomcmaaGreat
open Go Go.Big Go.Proofs
set_option maxHeartbeats 2000000
theorem fnExactPlacementsAt_holds : Rows.FnExactPlacementsAtSaid :=
  fnExactPlacementsAt.of_pure allG_ok allG_all (fun r l k _ _ _ _ _ _ => pat_eq r l k)
end Go.Proofs.YtdbkkjoejomcmaaGreat
end

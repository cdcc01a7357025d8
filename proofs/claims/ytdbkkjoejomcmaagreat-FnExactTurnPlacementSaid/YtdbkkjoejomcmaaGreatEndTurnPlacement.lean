/- FnExactTurnPlacement: proved. No condition. -/
import Derived.Test.YtdbkkjoejomcmaaGreatBO
import Derived.Test.YtdbkkjoejomcmaaGreatWk11
set_option linter.unusedVariables false
set_option linter.unusedSimpArgs false
section
namespace Go.Proofs.YtdbkkjoejomcmaaGreat
open Go Go.Big Go.Proofs
set_option maxHeartbeats 2000000
theorem fnExactTurnPlacement_holds : Rows.FnExactTurnPlacementSaid :=
  fnExactTurnPlacement.of_pure allH_ok allH_all (fun r l j t k _ _ _ _ _ _ _ _ ht => turnP_eq r l j t k ht)
end Go.Proofs.YtdbkkjoejomcmaaGreat
end

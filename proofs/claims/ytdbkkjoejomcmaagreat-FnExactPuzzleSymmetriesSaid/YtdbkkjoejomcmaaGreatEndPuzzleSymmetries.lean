/- FnExactPuzzleSymmetries: proved. No condition. -/
import Derived.Test.YtdbkkjoejomcmaaGreatBO
import Derived.Test.YtdbkkjoejomcmaaGreatWk13
set_option linter.unusedVariables false
set_option linter.unusedSimpArgs false
section
namespace Go.Proofs.YtdbkkjoejomcmaaGreat
open Go Go.Big Go.Proofs
set_option maxHeartbeats 2000000
theorem fnExactPuzzleSymmetries_holds : Rows.FnExactPuzzleSymmetriesSaid :=
  fnExactPuzzleSymmetries.of_pure allH_ok allK_all (fun r l _ _ _ _ _ => psym_eq r l)
end Go.Proofs.YtdbkkjoejomcmaaGreat
end

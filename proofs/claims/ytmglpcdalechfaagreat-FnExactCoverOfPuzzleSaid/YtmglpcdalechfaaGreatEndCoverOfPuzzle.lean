/- FnExactCoverOfPuzzle: proved. No condition. -/
import Derived.Test.YtmglpcdalechfaaGreatBO
import Derived.Test.YtmglpcdalechfaaGreatWk13
import Derived.Test.YtmglpcdalechfaaGreatWk14
set_option linter.unusedVariables false
set_option linter.unusedSimpArgs false
section
namespace Go.Proofs.YtmglpcdalechfaaGreat
open Go Go.Big Go.Proofs
set_option maxHeartbeats 2000000
theorem fnExactCoverOfPuzzle_holds : Rows.FnExactCoverOfPuzzleSaid :=
  fnExactCoverOfPuzzle.of_pure allG_ok allC_all (fun r l _ _ _ _ _ => cov_eq r l)
end Go.Proofs.YtmglpcdalechfaaGreat
end

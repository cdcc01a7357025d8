/- FnExactPieceWeights: proved. No condition. -/
import Derived.Test.YtmglpcdalechfaaGreatBO
import Derived.Test.YtmglpcdalechfaaGreatWk14
import Derived.Test.YtmglpcdalechfaaGreatWk15
set_option linter.unusedVariables false
set_option linter.unusedSimpArgs false
section
namespace Go.Proofs.YtmglpcdalechfaaGreat
open Go Go.Big Go.Proofs
set_option maxHeartbeats 2000000
theorem fnExactPieceWeights_holds : Rows.FnExactPieceWeightsSaid :=
  fnExactPieceWeights.of_pure allH_ok allK_all (fun r l m w k _ _ _ _ _ _ _ _ _ => pw_eq r l m w k)
end Go.Proofs.YtmglpcdalechfaaGreat
end

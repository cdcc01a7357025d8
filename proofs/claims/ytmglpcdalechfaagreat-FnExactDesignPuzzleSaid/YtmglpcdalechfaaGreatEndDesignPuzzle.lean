/- FnExactDesignPuzzle: proved. No condition. -/
import Derived.Test.YtmglpcdalechfaaGreatBO
import Derived.Test.YtmglpcdalechfaaGreatWk15
import Derived.Test.YtmglpcdalechfaaGreatWk16
set_option linter.unusedVariables false
set_option linter.unusedSimpArgs false
section
namespace Go.Proofs.YtmglpcdalechfaaGreat
open Go Go.Big Go.Proofs
set_option maxHeartbeats 2000000
theorem fnExactDesignPuzzle_holds : Rows.FnExactDesignPuzzleSaid :=
  fnExactDesignPuzzle.of_pure allH_ok allK_all (fun r n set _ _ _ hr _ => dp_eq r n set hr)
end Go.Proofs.YtmglpcdalechfaaGreat
end

/- FnExactFindWeighting: proved. No condition. -/
import Derived.Test.YtmglpcdalechfaaGreatBO
import Derived.Test.YtmglpcdalechfaaGreatWk15
import Derived.Test.YtmglpcdalechfaaGreatWk16
set_option linter.unusedVariables false
set_option linter.unusedSimpArgs false
section
namespace Go.Proofs.YtmglpcdalechfaaGreat
open Go Go.Big Go.Proofs
set_option maxHeartbeats 2000000
theorem fnExactFindWeighting_holds : Rows.FnExactFindWeightingSaid :=
  fnExactFindWeighting.of_pure allH_ok allK_all (fun r l _ _ hr _ _ => fw_eq r l hr)
end Go.Proofs.YtmglpcdalechfaaGreat
end

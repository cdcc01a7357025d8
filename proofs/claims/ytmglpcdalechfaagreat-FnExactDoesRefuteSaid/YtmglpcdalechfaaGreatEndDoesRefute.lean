/- FnExactDoesRefute: proved. No condition. -/
import Derived.Test.YtmglpcdalechfaaGreatBO
import Derived.Test.YtmglpcdalechfaaGreatWk14
import Derived.Test.YtmglpcdalechfaaGreatWk15
set_option linter.unusedVariables false
set_option linter.unusedSimpArgs false
section
namespace Go.Proofs.YtmglpcdalechfaaGreat
open Go Go.Big Go.Proofs
set_option maxHeartbeats 2000000
theorem fnExactDoesRefute_holds : Rows.FnExactDoesRefuteSaid :=
  fnExactDoesRefute.of_pure allH_ok allK_all (fun r l m w _ _ _ _ _ _ _ _ => ⟨by rw [fits_eq], trivial⟩)
end Go.Proofs.YtmglpcdalechfaaGreat
end

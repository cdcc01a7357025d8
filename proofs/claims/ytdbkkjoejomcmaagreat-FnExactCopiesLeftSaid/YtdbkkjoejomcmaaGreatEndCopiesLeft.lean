/- FnExactCopiesLeft: proved. No condition. -/
import Derived.Test.YtdbkkjoejomcmaaGreatBO
import Derived.Test.YtdbkkjoejomcmaaGreatWk14
set_option linter.unusedVariables false
set_option linter.unusedSimpArgs false
section
namespace Go.Proofs.YtdbkkjoejomcmaaGreat
open Go Go.Big Go.Proofs
set_option maxHeartbeats 2000000
theorem fnExactCopiesLeft_holds : Rows.FnExactCopiesLeftSaid :=
  fnExactCopiesLeft.of_pure bothG_ok (fun _ _ _ _ _ _ _ h => Or.inl h) (fun _ _ _ _ _ _ _ h => Or.inr h) (fun r l s _ _ _ _ hl _ _ _ => copies_eq r l s hl)
end Go.Proofs.YtdbkkjoejomcmaaGreat
end

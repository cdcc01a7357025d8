/- FnExactCellsLeft: proved. No condition. -/
import Derived.Test.YtdbkkjoejomcmaaGreatBO
import Derived.Test.YtdbkkjoejomcmaaGreatWk15
set_option linter.unusedVariables false
set_option linter.unusedSimpArgs false
section
namespace Go.Proofs.YtdbkkjoejomcmaaGreat
open Go Go.Big Go.Proofs
set_option maxHeartbeats 2000000
theorem fnExactCellsLeft_holds : Rows.FnExactCellsLeftSaid :=
  fnExactCellsLeft.of_pure bothG_ok (fun _ _ _ _ _ _ _ h => Or.inl h) (fun _ _ _ _ _ _ _ h => Or.inr h) (fun r l s _ _ _ hr _ _ _ _ => cleft_eq r l s hr)
end Go.Proofs.YtdbkkjoejomcmaaGreat
end

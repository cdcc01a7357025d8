/- FnExactIsSolved: proved. No condition. -/
import Derived.Test.YtbeodjmkfegipaaGreatBO
import Derived.Test.YtbeodjmkfegipaaGreatWk11
import Derived.Test.YtbeodjmkfegipaaGreatWk12
set_option linter.unusedVariables false
set_option linter.unusedSimpArgs false
section
namespace Go.Proofs.YtbeodjmkfegipaaGreat
open Go Go.Big Go.Proofs
set_option maxHeartbeats 2000000
theorem fnExactIsSolved_holds : Rows.FnExactIsSolvedSaid :=
  fnExactIsSolved.of_pure bothG_ok (fun _ _ _ _ _ _ _ h => Or.inl h) (fun _ _ _ _ _ _ _ h => Or.inr h) (fun r l s _ _ _ _ _ hs _ _ => solved_eq r l s hs)
end Go.Proofs.YtbeodjmkfegipaaGreat
end

/- FnExactIsPlacement: proved. No condition. -/
import Derived.Test.YtmiagloldmmioaaGreatBO
import Derived.Test.YtmiagloldmmioaaGreatWk9
set_option linter.unusedVariables false
set_option linter.unusedSimpArgs false
section
namespace Go.Proofs.YtmiagloldmmioaaGreat
open Go Go.Big Go.Proofs
set_option maxHeartbeats 2000000
theorem fnExactIsPlacement_holds : Rows.FnExactIsPlacementSaid :=
  fnExactIsPlacement.of_pure bothG_ok (fun _ _ _ _ _ _ _ h => Or.inl h) (fun _ _ _ _ _ _ _ h => Or.inr h) (fun r l k s _ _ _ _ _ _ _ _ => by rw [puzzle_eq, place_eq])
end Go.Proofs.YtmiagloldmmioaaGreat
end

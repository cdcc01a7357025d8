-- Written by ext.py (wip/) over the kit's print: not trusted, Lean checks it.
import Derived.Test.YtkoajacfhlnmoaaDoorXFnExactCoverTextx4
namespace Go.Proofs.YtkoajacfhlnmoaaDoor.XFnExactCoverText
open Go.RowKit Go.Proofs.YtkoajacfhlnmoaaDoor.XFnExactCoverText Go.Proofs.YtkoajacfhlnmoaaDoorW.PrintWords Go.Proofs.YtkoajacfhlnmoaaDoorW.PrintLast Go.Proofs.YtkoajacfhlnmoaaDoorW.PrintMore
set_option linter.unusedVariables false
/-- What is left of laws_FnExactCoverText. -/
def laws_FnExactCoverText.Pure : Prop := ∀ (a0_0 : Int) (a0_1 : Int) (l0_2 : List (List Int)), (Lit.int .i64 a0_0).wf = true → (Lit.int .i64 a0_1).wf = true → (l0_2.length ≤ maxLen ∧ ∀ e_203 ∈ l0_2, (e_203.length ≤ maxLen ∧ ∀ e_204 ∈ e_203, (Lit.int .i64 e_204).wf = true)) → ∃ k : Nat, laws_FnExactCoverText.f k a0_0 a0_1 l0_2 = some true
end Go.Proofs.YtkoajacfhlnmoaaDoor.XFnExactCoverText

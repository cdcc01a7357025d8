-- Written by ext.py (wip/) over the kit's print: not trusted, Lean checks it.
import Derived.Test.YtccenkhokgiejaaXFnExactFormulaOfCoverx7
namespace Go.Proofs.Ytccenkhokgiejaa.XFnExactFormulaOfCover
open Go.RowKit Go.Proofs.Ytccenkhokgiejaa.XFnExactFormulaOfCover Go.Proofs.YtccenkhokgiejaaW.PrintWords Go.Proofs.YtccenkhokgiejaaW.PrintLast Go.Proofs.YtccenkhokgiejaaW.PrintMore
set_option linter.unusedVariables false
/-- What is left of laws_FnExactFormulaOfCover. -/
def laws_FnExactFormulaOfCover.Pure : Prop := ∀ (a0_0 : Int) (a0_1 : Int) (l0_2 : List (List Int)), (Lit.int .i64 a0_0).wf = true → (Lit.int .i64 a0_1).wf = true → (l0_2.length ≤ maxLen ∧ ∀ e_252 ∈ l0_2, (e_252.length ≤ maxLen ∧ ∀ e_253 ∈ e_252, (Lit.int .i64 e_253).wf = true)) → ∃ k : Nat, laws_FnExactFormulaOfCover.f k a0_0 a0_1 l0_2 = some true
end Go.Proofs.Ytccenkhokgiejaa.XFnExactFormulaOfCover

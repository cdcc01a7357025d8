-- Written by ext.py (wip/) over the kit's print: not trusted, Lean checks it.
import Derived.Test.YtbelgbbfmnccoaaXFnExactSatisfiesx6
namespace Go.Proofs.Ytbelgbbfmnccoaa.XFnExactSatisfies
open Go.RowKit Go.Proofs.Ytbelgbbfmnccoaa.XFnExactSatisfies Go.Proofs.YtbelgbbfmnccoaaW.PrintWords Go.Proofs.YtbelgbbfmnccoaaW.PrintLast Go.Proofs.YtbelgbbfmnccoaaW.PrintMore
set_option linter.unusedVariables false
/-- What is left of laws_FnExactSatisfies. -/
def laws_FnExactSatisfies.Pure : Prop := ∀ (a0_0 : Int) (l0_1 : List (List Int)) (l1 : List Int), (Lit.int .i64 a0_0).wf = true → (l0_1.length ≤ maxLen ∧ ∀ e_202 ∈ l0_1, (e_202.length ≤ maxLen ∧ ∀ e_203 ∈ e_202, (Lit.int .i64 e_203).wf = true)) → (l1.length ≤ maxLen ∧ ∀ e_204 ∈ l1, (Lit.int .i64 e_204).wf = true) → ∃ k : Nat, laws_FnExactSatisfies.f k a0_0 l0_1 l1 = some true
end Go.Proofs.Ytbelgbbfmnccoaa.XFnExactSatisfies

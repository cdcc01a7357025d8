-- Written by ext.py (wip/) over the kit's print: not trusted, Lean checks it.
import Derived.Test.YtbelgbbfmnccoaaXFnExactIsFormulax5
namespace Go.Proofs.Ytbelgbbfmnccoaa.XFnExactIsFormula
open Go.RowKit Go.Proofs.Ytbelgbbfmnccoaa.XFnExactIsFormula Go.Proofs.YtbelgbbfmnccoaaW.PrintWords Go.Proofs.YtbelgbbfmnccoaaW.PrintLast Go.Proofs.YtbelgbbfmnccoaaW.PrintMore
set_option linter.unusedVariables false
/-- What is left of laws_FnExactIsFormula. -/
def laws_FnExactIsFormula.Pure : Prop := ∀ (a0_0 : Int) (l0_1 : List (List Int)), (Lit.int .i64 a0_0).wf = true → (l0_1.length ≤ maxLen ∧ ∀ e_165 ∈ l0_1, (e_165.length ≤ maxLen ∧ ∀ e_166 ∈ e_165, (Lit.int .i64 e_166).wf = true)) → ∃ k : Nat, laws_FnExactIsFormula.f k a0_0 l0_1 = some true
end Go.Proofs.Ytbelgbbfmnccoaa.XFnExactIsFormula

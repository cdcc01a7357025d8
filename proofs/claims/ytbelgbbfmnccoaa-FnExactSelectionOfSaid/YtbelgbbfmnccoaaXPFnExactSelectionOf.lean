-- Written by ext.py (wip/) over the kit's print: not trusted, Lean checks it.
import Derived.Test.YtbelgbbfmnccoaaXFnExactSelectionOfx3
namespace Go.Proofs.Ytbelgbbfmnccoaa.XFnExactSelectionOf
open Go.RowKit Go.Proofs.Ytbelgbbfmnccoaa.XFnExactSelectionOf Go.Proofs.YtbelgbbfmnccoaaW.PrintWords Go.Proofs.YtbelgbbfmnccoaaW.PrintLast Go.Proofs.YtbelgbbfmnccoaaW.PrintMore
set_option linter.unusedVariables false
/-- What is left of laws_FnExactSelectionOf. -/
def laws_FnExactSelectionOf.Pure : Prop := ∀ (l0 : List Int), (l0.length ≤ maxLen ∧ ∀ e_162 ∈ l0, (Lit.int .i64 e_162).wf = true) → ∃ k : Nat, laws_FnExactSelectionOf.f k l0 = some true
end Go.Proofs.Ytbelgbbfmnccoaa.XFnExactSelectionOf

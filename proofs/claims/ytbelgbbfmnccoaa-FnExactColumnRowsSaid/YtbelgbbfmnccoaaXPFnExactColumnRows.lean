-- Written by ext.py (wip/) over the kit's print: not trusted, Lean checks it.
import Derived.Test.YtbelgbbfmnccoaaXFnExactColumnRowsx4
namespace Go.Proofs.Ytbelgbbfmnccoaa.XFnExactColumnRows
open Go.RowKit Go.Proofs.Ytbelgbbfmnccoaa.XFnExactColumnRows Go.Proofs.YtbelgbbfmnccoaaW.PrintWords Go.Proofs.YtbelgbbfmnccoaaW.PrintLast Go.Proofs.YtbelgbbfmnccoaaW.PrintMore
set_option linter.unusedVariables false
/-- What is left of laws_FnExactColumnRows. -/
def laws_FnExactColumnRows.Pure : Prop := ∀ (a0_0 : Int) (a0_1 : Int) (l0_2 : List (List Int)) (a1 : Int), (Lit.int .i64 a0_0).wf = true → (Lit.int .i64 a0_1).wf = true → (l0_2.length ≤ maxLen ∧ ∀ e_221 ∈ l0_2, (e_221.length ≤ maxLen ∧ ∀ e_222 ∈ e_221, (Lit.int .i64 e_222).wf = true)) → (Lit.int .i64 a1).wf = true → ∃ k : Nat, laws_FnExactColumnRows.f k a0_0 a0_1 l0_2 a1 = some true
end Go.Proofs.Ytbelgbbfmnccoaa.XFnExactColumnRows

-- Written by ext.py (wip/) over the kit's print: not trusted, Lean checks it.
import Derived.Test.YtbelgbbfmnccoaaXFnExactIsWeightingx8
namespace Go.Proofs.Ytbelgbbfmnccoaa.XFnExactIsWeighting
open Go.RowKit Go.Proofs.Ytbelgbbfmnccoaa.XFnExactIsWeighting Go.Proofs.YtbelgbbfmnccoaaW.PrintWords Go.Proofs.YtbelgbbfmnccoaaW.PrintLast Go.Proofs.YtbelgbbfmnccoaaW.PrintMore
set_option linter.unusedVariables false
/-- What is left of laws_FnExactIsWeighting. -/
def laws_FnExactIsWeighting.Pure : Prop := ∀ (l0 : List (S95)) (a1_0 : Int) (l1_1 : List Int), (l0.length ≤ maxLen ∧ ∀ e_227 ∈ l0, ((Lit.int .i64 e_227.f0).wf = true ∧ (Lit.int .i64 e_227.f1).wf = true)) → (Lit.int .i64 a1_0).wf = true → (l1_1.length ≤ maxLen ∧ ∀ e_228 ∈ l1_1, (Lit.int .i64 e_228).wf = true) → ∃ k : Nat, laws_FnExactIsWeighting.f k l0 a1_0 l1_1 = some true
end Go.Proofs.Ytbelgbbfmnccoaa.XFnExactIsWeighting

-- Written by ext.py (wip/) over the kit's print: not trusted, Lean checks it.
import Derived.Test.YtafghfkdkjiafaaXFnExactColourCountsx4
namespace Go.Proofs.Ytafghfkdkjiafaa.XFnExactColourCounts
open Go.RowKit Go.Proofs.Ytafghfkdkjiafaa.XFnExactColourCounts Go.Proofs.YtafghfkdkjiafaaW.PrintWords Go.Proofs.YtafghfkdkjiafaaW.PrintLast Go.Proofs.YtafghfkdkjiafaaW.PrintMore
set_option linter.unusedVariables false
/-- What is left of laws_FnExactColourCounts. -/
def laws_FnExactColourCounts.Pure : Prop := ∀ (l0 : List (S44)) (a1_0 : Int) (a1_1 : Int) (a1_2 : Int), (l0.length ≤ maxLen ∧ ∀ e_220 ∈ l0, ((Lit.int .i64 e_220.f0).wf = true ∧ (Lit.int .i64 e_220.f1).wf = true)) → (Lit.int .i64 a1_0).wf = true → (Lit.int .i64 a1_1).wf = true → (Lit.int .i64 a1_2).wf = true → ∃ k : Nat, laws_FnExactColourCounts.f k l0 a1_0 a1_1 a1_2 = some true
end Go.Proofs.Ytafghfkdkjiafaa.XFnExactColourCounts

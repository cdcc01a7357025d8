-- Written by ext.py (wip/) over the kit's print: not trusted, Lean checks it.
import Derived.Test.YtkmlgfihoaneeaaXFnExactWeightOfSetx9
namespace Go.Proofs.Ytkmlgfihoaneeaa.XFnExactWeightOfSet
open Go.RowKit Go.Proofs.Ytkmlgfihoaneeaa.XFnExactWeightOfSet Go.Proofs.YtkmlgfihoaneeaaW.PrintWords Go.Proofs.YtkmlgfihoaneeaaW.PrintLast Go.Proofs.YtkmlgfihoaneeaaW.PrintMore
set_option linter.unusedVariables false
/-- What is left of laws_FnExactWeightOfSet. -/
def laws_FnExactWeightOfSet.Pure : Prop := ∀ (l0 : List (S105)) (a1_0 : Int) (l1_1 : List Int) (l2 : List Int), (l0.length ≤ maxLen ∧ ∀ e_256 ∈ l0, ((Lit.int .i64 e_256.f0).wf = true ∧ (Lit.int .i64 e_256.f1).wf = true)) → (Lit.int .i64 a1_0).wf = true → (l1_1.length ≤ maxLen ∧ ∀ e_257 ∈ l1_1, (Lit.int .i64 e_257).wf = true) → (l2.length ≤ maxLen ∧ ∀ e_258 ∈ l2, (Lit.int .i64 e_258).wf = true) → ∃ k : Nat, laws_FnExactWeightOfSet.f k l0 a1_0 l1_1 l2 = some true
end Go.Proofs.Ytkmlgfihoaneeaa.XFnExactWeightOfSet

-- Written by ext.py (wip/) over the kit's print: not trusted, Lean checks it.
import Derived.Test.YtkmlgfihoaneeaaXFnExactUnitLiteralsx6
namespace Go.Proofs.Ytkmlgfihoaneeaa.XFnExactUnitLiterals
open Go.RowKit Go.Proofs.Ytkmlgfihoaneeaa.XFnExactUnitLiterals Go.Proofs.YtkmlgfihoaneeaaW.PrintWords Go.Proofs.YtkmlgfihoaneeaaW.PrintLast Go.Proofs.YtkmlgfihoaneeaaW.PrintMore
set_option linter.unusedVariables false
/-- What is left of laws_FnExactUnitLiterals. -/
def laws_FnExactUnitLiterals.Pure : Prop := ∀ (a0_0 : Int) (l0_1 : List (List Int)) (l1 : List Int), (Lit.int .i64 a0_0).wf = true → (l0_1.length ≤ maxLen ∧ ∀ e_246 ∈ l0_1, (e_246.length ≤ maxLen ∧ ∀ e_247 ∈ e_246, (Lit.int .i64 e_247).wf = true)) → (l1.length ≤ maxLen ∧ ∀ e_248 ∈ l1, (Lit.int .i64 e_248).wf = true) → ∃ k : Nat, laws_FnExactUnitLiterals.f k a0_0 l0_1 l1 = some true
end Go.Proofs.Ytkmlgfihoaneeaa.XFnExactUnitLiterals

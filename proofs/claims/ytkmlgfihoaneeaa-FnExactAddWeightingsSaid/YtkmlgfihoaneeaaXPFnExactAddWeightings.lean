-- Written by ext.py (wip/) over the kit's print: not trusted, Lean checks it.
import Derived.Test.YtkmlgfihoaneeaaXFnExactAddWeightingsx8
namespace Go.Proofs.Ytkmlgfihoaneeaa.XFnExactAddWeightings
open Go.RowKit Go.Proofs.Ytkmlgfihoaneeaa.XFnExactAddWeightings Go.Proofs.YtkmlgfihoaneeaaW.PrintWords Go.Proofs.YtkmlgfihoaneeaaW.PrintLast Go.Proofs.YtkmlgfihoaneeaaW.PrintMore
set_option linter.unusedVariables false
/-- What is left of laws_FnExactAddWeightings. -/
def laws_FnExactAddWeightings.Pure : Prop := ∀ (l0 : List (S105)) (a1_0 : Int) (l1_1 : List Int) (a2_0 : Int) (l2_1 : List Int), (l0.length ≤ maxLen ∧ ∀ e_312 ∈ l0, ((Lit.int .i64 e_312.f0).wf = true ∧ (Lit.int .i64 e_312.f1).wf = true)) → (Lit.int .i64 a1_0).wf = true → (l1_1.length ≤ maxLen ∧ ∀ e_313 ∈ l1_1, (Lit.int .i64 e_313).wf = true) → (Lit.int .i64 a2_0).wf = true → (l2_1.length ≤ maxLen ∧ ∀ e_314 ∈ l2_1, (Lit.int .i64 e_314).wf = true) → ∃ k : Nat, laws_FnExactAddWeightings.f k l0 a1_0 l1_1 a2_0 l2_1 = some true
end Go.Proofs.Ytkmlgfihoaneeaa.XFnExactAddWeightings

-- Written by ext.py (wip/) over the kit's print: not trusted, Lean checks it.
import Derived.Test.YtbelgbbfmnccoaaXFnExactPlaneWeightsx10
namespace Go.Proofs.Ytbelgbbfmnccoaa.XFnExactPlaneWeights
open Go.RowKit Go.Proofs.Ytbelgbbfmnccoaa.XFnExactPlaneWeights Go.Proofs.YtbelgbbfmnccoaaW.PrintWords Go.Proofs.YtbelgbbfmnccoaaW.PrintLast Go.Proofs.YtbelgbbfmnccoaaW.PrintMore
set_option linter.unusedVariables false
/-- What is left of laws_FnExactPlaneWeights. -/
def laws_FnExactPlaneWeights.Pure : Prop := ∀ (l0 : List (S95)) (a1 : Int) (a2 : Int) (a3 : Int) (a4 : Int), (l0.length ≤ maxLen ∧ ∀ e_263 ∈ l0, ((Lit.int .i64 e_263.f0).wf = true ∧ (Lit.int .i64 e_263.f1).wf = true)) → (Lit.int .i64 a1).wf = true → (Lit.int .i64 a2).wf = true → (Lit.int .i64 a3).wf = true → (Lit.int .i64 a4).wf = true → ∃ k : Nat, laws_FnExactPlaneWeights.f k l0 a1 a2 a3 a4 = some true
end Go.Proofs.Ytbelgbbfmnccoaa.XFnExactPlaneWeights

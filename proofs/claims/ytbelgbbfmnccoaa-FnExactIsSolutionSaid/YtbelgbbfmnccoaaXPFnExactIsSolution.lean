-- Written by ext.py (wip/) over the kit's print: not trusted, Lean checks it.
import Derived.Test.YtbelgbbfmnccoaaXFnExactIsSolutionx5
namespace Go.Proofs.Ytbelgbbfmnccoaa.XFnExactIsSolution
open Go.RowKit Go.Proofs.Ytbelgbbfmnccoaa.XFnExactIsSolution Go.Proofs.YtbelgbbfmnccoaaW.PrintWords Go.Proofs.YtbelgbbfmnccoaaW.PrintLast Go.Proofs.YtbelgbbfmnccoaaW.PrintMore
set_option linter.unusedVariables false
/-- What is left of laws_FnExactIsSolution. -/
def laws_FnExactIsSolution.Pure : Prop := ∀ (a0_0 : Int) (a0_1 : Int) (l0_2 : List (List Int)) (l1 : List Int), (Lit.int .i64 a0_0).wf = true → (Lit.int .i64 a0_1).wf = true → (l0_2.length ≤ maxLen ∧ ∀ e_213 ∈ l0_2, (e_213.length ≤ maxLen ∧ ∀ e_214 ∈ e_213, (Lit.int .i64 e_214).wf = true)) → (l1.length ≤ maxLen ∧ ∀ e_215 ∈ l1, (Lit.int .i64 e_215).wf = true) → ∃ k : Nat, laws_FnExactIsSolution.f k a0_0 a0_1 l0_2 l1 = some true
end Go.Proofs.Ytbelgbbfmnccoaa.XFnExactIsSolution

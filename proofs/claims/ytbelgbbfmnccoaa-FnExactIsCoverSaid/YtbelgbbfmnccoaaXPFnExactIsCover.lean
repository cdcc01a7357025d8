-- Written by ext.py (wip/) over the kit's print: not trusted, Lean checks it.
import Derived.Test.YtbelgbbfmnccoaaXFnExactIsCoverx3
namespace Go.Proofs.Ytbelgbbfmnccoaa.XFnExactIsCover
open Go.RowKit Go.Proofs.Ytbelgbbfmnccoaa.XFnExactIsCover Go.Proofs.YtbelgbbfmnccoaaW.PrintWords Go.Proofs.YtbelgbbfmnccoaaW.PrintLast Go.Proofs.YtbelgbbfmnccoaaW.PrintMore
set_option linter.unusedVariables false
/-- What is left of laws_FnExactIsCover. -/
def laws_FnExactIsCover.Pure : Prop := ∀ (a0_0 : Int) (a0_1 : Int) (l0_2 : List (List Int)), (Lit.int .i64 a0_0).wf = true → (Lit.int .i64 a0_1).wf = true → (l0_2.length ≤ maxLen ∧ ∀ e_166 ∈ l0_2, (e_166.length ≤ maxLen ∧ ∀ e_167 ∈ e_166, (Lit.int .i64 e_167).wf = true)) → ∃ k : Nat, laws_FnExactIsCover.f k a0_0 a0_1 l0_2 = some true
end Go.Proofs.Ytbelgbbfmnccoaa.XFnExactIsCover

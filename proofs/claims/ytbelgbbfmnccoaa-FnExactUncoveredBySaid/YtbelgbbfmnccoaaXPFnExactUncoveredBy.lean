-- Written by ext.py (wip/) over the kit's print: not trusted, Lean checks it.
import Derived.Test.YtbelgbbfmnccoaaXFnExactUncoveredByx5
namespace Go.Proofs.Ytbelgbbfmnccoaa.XFnExactUncoveredBy
open Go.RowKit Go.Proofs.Ytbelgbbfmnccoaa.XFnExactUncoveredBy Go.Proofs.YtbelgbbfmnccoaaW.PrintWords Go.Proofs.YtbelgbbfmnccoaaW.PrintLast Go.Proofs.YtbelgbbfmnccoaaW.PrintMore
set_option linter.unusedVariables false
/-- What is left of laws_FnExactUncoveredBy. -/
def laws_FnExactUncoveredBy.Pure : Prop := ∀ (a0_0 : Int) (a0_1 : Int) (l0_2 : List (List Int)) (l1 : List Int), (Lit.int .i64 a0_0).wf = true → (Lit.int .i64 a0_1).wf = true → (l0_2.length ≤ maxLen ∧ ∀ e_255 ∈ l0_2, (e_255.length ≤ maxLen ∧ ∀ e_256 ∈ e_255, (Lit.int .i64 e_256).wf = true)) → (l1.length ≤ maxLen ∧ ∀ e_257 ∈ l1, (Lit.int .i64 e_257).wf = true) → ∃ k : Nat, laws_FnExactUncoveredBy.f k a0_0 a0_1 l0_2 l1 = some true
end Go.Proofs.Ytbelgbbfmnccoaa.XFnExactUncoveredBy

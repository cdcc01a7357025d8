-- Written by ext.py (wip/) over the kit's print: not trusted, Lean checks it.
import Derived.Test.YtbelgbbfmnccoaaXFnExactClashesOfx5
namespace Go.Proofs.Ytbelgbbfmnccoaa.XFnExactClashesOf
open Go.RowKit Go.Proofs.Ytbelgbbfmnccoaa.XFnExactClashesOf Go.Proofs.YtbelgbbfmnccoaaW.PrintWords Go.Proofs.YtbelgbbfmnccoaaW.PrintLast Go.Proofs.YtbelgbbfmnccoaaW.PrintMore
set_option linter.unusedVariables false
/-- What is left of laws_FnExactClashesOf. -/
def laws_FnExactClashesOf.Pure : Prop := ∀ (a0_0 : Int) (a0_1 : Int) (l0_2 : List (List Int)) (l1 : List Int), (Lit.int .i64 a0_0).wf = true → (Lit.int .i64 a0_1).wf = true → (l0_2.length ≤ maxLen ∧ ∀ e_255 ∈ l0_2, (e_255.length ≤ maxLen ∧ ∀ e_256 ∈ e_255, (Lit.int .i64 e_256).wf = true)) → (l1.length ≤ maxLen ∧ ∀ e_257 ∈ l1, (Lit.int .i64 e_257).wf = true) → ∃ k : Nat, laws_FnExactClashesOf.f k a0_0 a0_1 l0_2 l1 = some true
end Go.Proofs.Ytbelgbbfmnccoaa.XFnExactClashesOf

-- Written by ext.py (wip/) over the kit's print: not trusted, Lean checks it.
import Derived.Test.YtbelgbbfmnccoaaXFnExactIsColouringx1
namespace Go.Proofs.Ytbelgbbfmnccoaa.XFnExactIsColouring
open Go.RowKit Go.Proofs.Ytbelgbbfmnccoaa.XFnExactIsColouring Go.Proofs.YtbelgbbfmnccoaaW.PrintWords Go.Proofs.YtbelgbbfmnccoaaW.PrintLast Go.Proofs.YtbelgbbfmnccoaaW.PrintMore
set_option linter.unusedVariables false
/-- What is left of laws_FnExactIsColouring. -/
def laws_FnExactIsColouring.Pure : Prop := ∀ (a0_0 : Int) (a0_1 : Int) (a0_2 : Int), (Lit.int .i64 a0_0).wf = true → (Lit.int .i64 a0_1).wf = true → (Lit.int .i64 a0_2).wf = true → ∃ k : Nat, laws_FnExactIsColouring.f a0_0 a0_1 a0_2 = some true
end Go.Proofs.Ytbelgbbfmnccoaa.XFnExactIsColouring

-- Written by ext.py (wip/) over the kit's print: not trusted, Lean checks it.
import Derived.Test.YtcolaakpjdhinaaXFnUnitsx7
namespace Go.Proofs.Ytcolaakpjdhinaa.XFnUnits
open Go.RowKit Go.Proofs.Ytcolaakpjdhinaa.XFnUnits Go.Proofs.YtcolaakpjdhinaaW.PrintWords Go.Proofs.YtcolaakpjdhinaaW.PrintLast Go.Proofs.YtcolaakpjdhinaaW.PrintMore
set_option linter.unusedVariables false
/-- What is left of laws_FnUnits. -/
def laws_FnUnits.Pure : Prop := ∀ (l0 : List Int), (l0.length ≤ maxLen ∧ ∀ e_374 ∈ l0, (Lit.int .u8 e_374).wf = true) → ∃ k : Nat, laws_FnUnits.f k l0 = some true
end Go.Proofs.Ytcolaakpjdhinaa.XFnUnits

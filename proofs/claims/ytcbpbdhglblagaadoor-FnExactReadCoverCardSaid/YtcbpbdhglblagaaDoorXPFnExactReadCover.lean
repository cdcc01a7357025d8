-- Written by ext.py (wip/) over the kit's print: not trusted, Lean checks it.
import Derived.Test.YtcbpbdhglblagaaDoorXFnExactReadCoverx6
namespace Go.Proofs.YtcbpbdhglblagaaDoor.XFnExactReadCover
open Go.RowKit Go.Proofs.YtcbpbdhglblagaaDoor.XFnExactReadCover Go.Proofs.YtcbpbdhglblagaaDoorW.PrintWords Go.Proofs.YtcbpbdhglblagaaDoorW.PrintLast Go.Proofs.YtcbpbdhglblagaaDoorW.PrintMore
set_option linter.unusedVariables false
/-- What is left of laws_FnExactReadCover. -/
def laws_FnExactReadCover.Pure : Prop := ∀ (a0 : ByteArray), a0.size ≤ maxLen → ∃ k : Nat, laws_FnExactReadCover.f k a0 = some true
end Go.Proofs.YtcbpbdhglblagaaDoor.XFnExactReadCover

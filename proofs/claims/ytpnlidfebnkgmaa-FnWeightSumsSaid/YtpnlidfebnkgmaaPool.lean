/- Several operations of a region that may come up in any order: one relation over what is listed of them; behind them the walk goes on. -/
import Derived.Test.YtpnlidfebnkgmaaWInvWords
import Derived.Test.YtpnlidfebnkgmaaV
namespace Go.Proofs.YtpnlidfebnkgmaaW.PrintLast
set_option linter.unusedVariables false
section
variable {P : Program} {ops : Array Oper} {Q : Exit → Act → World → Prop} {md : Region.Mode} {S : World → Prop} {ds : List Nat}
end
end Go.Proofs.YtpnlidfebnkgmaaW.PrintLast

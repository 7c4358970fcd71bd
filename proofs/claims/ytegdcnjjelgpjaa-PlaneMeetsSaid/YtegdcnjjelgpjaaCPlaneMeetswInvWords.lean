/- Words that the print of this claim uses (by the kit's printer; those that this claim does not reach are left out). -/
import Derived.Test.YtegdcnjjelgpjaaCPlaneMeetswInv
import Derived.Test.YtegdcnjjelgpjaaCPlaneMeetswFootNe
namespace Go.Proofs.YtegdcnjjelgpjaaW.PrintWords
open Go.RowKit
end Go.Proofs.YtegdcnjjelgpjaaW.PrintWords
namespace Go.Proofs.YtegdcnjjelgpjaaW.PrintLast
section
variable {ops : Array Oper} {a : Act} {o og : Oper} {g : Nat} {t : Tmp} {u : Bool}
end
end Go.Proofs.YtegdcnjjelgpjaaW.PrintLast

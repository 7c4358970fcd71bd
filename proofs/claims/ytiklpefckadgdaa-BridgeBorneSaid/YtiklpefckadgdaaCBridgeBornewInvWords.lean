/- Words that the print of this claim uses (by the kit's printer; those that this claim does not reach are left out). -/
import Derived.Test.YtiklpefckadgdaaCBridgeBornewInv
import Derived.Test.YtiklpefckadgdaaCBridgeBornewFootNe
namespace Go.Proofs.YtiklpefckadgdaaW.PrintWords
open Go.RowKit
end Go.Proofs.YtiklpefckadgdaaW.PrintWords
namespace Go.Proofs.YtiklpefckadgdaaW.PrintLast
section
variable {ops : Array Oper} {a : Act} {o og : Oper} {g : Nat} {t : Tmp} {u : Bool}
end
end Go.Proofs.YtiklpefckadgdaaW.PrintLast

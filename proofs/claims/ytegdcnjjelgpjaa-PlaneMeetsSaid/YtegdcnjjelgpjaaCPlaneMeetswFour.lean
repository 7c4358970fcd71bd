/- Words that the print of this claim uses (by the kit's printer; those that this claim does not reach are left out). -/
import Derived.Test.YtegdcnjjelgpjaaCPlaneMeetswTab
namespace Go.Proofs.YtegdcnjjelgpjaaW.PrintLast
section
variable {P : Program} {ops : Array Oper} {Q : Exit → Act → World → Prop} {md : Region.Mode} {S : World → Prop} {ds : List Nat} {T : Bool × List (List Nat × List Nat)}
end
end Go.Proofs.YtegdcnjjelgpjaaW.PrintLast

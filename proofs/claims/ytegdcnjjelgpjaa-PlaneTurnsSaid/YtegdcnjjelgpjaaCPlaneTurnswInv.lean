/- Words that the print of this claim uses (by the kit's printer; those that this claim does not reach are left out). -/
import Derived.Test.YtegdcnjjelgpjaaCPlaneTurnswTab
namespace Go.Proofs.YtegdcnjjelgpjaaW.PrintLast
section
variable {P : Program} {ops : Array Oper} {Q : Exit → Act → World → Prop} {md : Region.Mode} {T : Bool × List (List Nat × List Nat)} {B : List Nat} {O : List Nat} {b : Nat → Bool} {i j n : Nat}
end
end Go.Proofs.YtegdcnjjelgpjaaW.PrintLast

/- Words that the print of this claim uses (by the kit's printer; those that this claim does not reach are left out). -/
import Derived.Test.YtegdcnjjelgpjaaCPlaneMeetswN
namespace Go.Proofs.YtegdcnjjelgpjaaW.PrintWords
open Go.RowKit
namespace Kd
section
variable {α : Type} {d : Kd α} {W : World} {g n : Nat} {S ok : Nat → Prop} {A : Option Addr} {ad : Addr} {xs : List α}
end
end Kd
end Go.Proofs.YtegdcnjjelgpjaaW.PrintWords

/-
  No cell of these rows narrows 'for every input' (looked for: loops, veiled, ifaces, maps, wideKeys, modest, calm, conditions, laid).
  DERIVED. THE GIVEN ROWS OF THIS SEAT. 12 by the template 'for every input the law returns true; each argument reads behind the call as it read before'; 0 by the template 'total and deterministic' (their statements: YtegdcnjjelgpjaaTotals.lean).
  GIVEN WITH THE SEED: the statements are not yours to turn. If you find one false, say at which input.
  Laid BY PROGRAM, IN A SANDBOX (cutbox-rows.mjs): the forced cells as the released guide's own fill.sh prints them over the translation f2c76b3b28676e71… (all of the seat's roots in one cut). By AI agents, Wed Nov 11 2026. No macro, syntax, notation, axiom, sorry.
-/
import Derived.Test.YtegdcnjjelgpjaaChecked
import GoSem.Claim
import GoSem.ClaimJoined
import GoSem.ClaimMapViews
import Derived.JoinedTies
import Derived.KernelRfl
namespace Go.Proofs.Ytegdcnjjelgpjaa
/- THE CELL 'sum', in the pinned program and in every row, IS THE sha256 OF THE DUMP (.gsa) THAT YtegdcnjjelgpjaaProg.lean LOADS. Nothing in Lean hashes anything: it is a label: what it is worth is what the hold of that sum in a sandbox is worth. -/
noncomputable def Try.pinned : Pinned := { name := "ytegdcnjjelgpjaa", sum := "f2c76b3b28676e71e1120ff5fc624d22c984655cfd9ffcaf242ed8e188eca82a", checked := Try.checked }
namespace Rows
def none {H : Type} : Left H := { results := [], args := [] }

/-- 'goosenecklaw01.PlaneBodies': WHATEVER THE INPUT: true; the input reads as it did. -/
def planeBodiesSpec : ChangeSpec := { name := "planeBodies", fn := fun _ => fun
  | [d1, d2, d3, d4] => { results := [.lit (.bool true)], args := [d1, d2, d3, d4] }
  | _ => none }
def planeBodiesRow : OpenClaim := { program := "ytegdcnjjelgpjaa", sum := "f2c76b3b28676e71e1120ff5fc624d22c984655cfd9ffcaf242ed8e188eca82a", func := "gooseneck/goosenecklaw01.PlaneBodies", spec := "planeBodies", unfollowed := true, recurses := true, apart := false }
def PlaneBodiesSaid : Prop := planeBodiesRow.holds Try.pinned (OpenSpec.ofChange planeBodiesSpec)

/-- ITS FALSE NEIGHBOUR: 'it returns false'. Refute it at one input. -/
def planeBodiesWrong : ChangeSpec := { name := "planeBodies", fn := fun _ => fun
  | [d1, d2, d3, d4] => { results := [.lit (.bool false)], args := [d1, d2, d3, d4] }
  | _ => none }
def PlaneBodiesWrongFalsely : Prop := planeBodiesRow.holds Try.pinned (OpenSpec.ofChange planeBodiesWrong)

/-- 'goosenecklaw01.PlanePulls': WHATEVER THE INPUT: true; the input reads as it did. -/
def planePullsSpec : ChangeSpec := { name := "planePulls", fn := fun _ => fun
  | [d1, d2, d3, d4] => { results := [.lit (.bool true)], args := [d1, d2, d3, d4] }
  | _ => none }
def planePullsRow : OpenClaim := { program := "ytegdcnjjelgpjaa", sum := "f2c76b3b28676e71e1120ff5fc624d22c984655cfd9ffcaf242ed8e188eca82a", func := "gooseneck/goosenecklaw01.PlanePulls", spec := "planePulls", unfollowed := true, recurses := true, apart := false }
def PlanePullsSaid : Prop := planePullsRow.holds Try.pinned (OpenSpec.ofChange planePullsSpec)

/-- ITS FALSE NEIGHBOUR: 'it returns false'. Refute it at one input. -/
def planePullsWrong : ChangeSpec := { name := "planePulls", fn := fun _ => fun
  | [d1, d2, d3, d4] => { results := [.lit (.bool false)], args := [d1, d2, d3, d4] }
  | _ => none }
def PlanePullsWrongFalsely : Prop := planePullsRow.holds Try.pinned (OpenSpec.ofChange planePullsWrong)

/-- 'goosenecklaw01.PlaneTurns': WHATEVER THE INPUT: true; the input reads as it did. -/
def planeTurnsSpec : ChangeSpec := { name := "planeTurns", fn := fun _ => fun
  | [d1, d2, d3, d4, d5, d6] => { results := [.lit (.bool true)], args := [d1, d2, d3, d4, d5, d6] }
  | _ => none }
def planeTurnsRow : OpenClaim := { program := "ytegdcnjjelgpjaa", sum := "f2c76b3b28676e71e1120ff5fc624d22c984655cfd9ffcaf242ed8e188eca82a", func := "gooseneck/goosenecklaw01.PlaneTurns", spec := "planeTurns", unfollowed := true, recurses := true, apart := false }
def PlaneTurnsSaid : Prop := planeTurnsRow.holds Try.pinned (OpenSpec.ofChange planeTurnsSpec)

/-- ITS FALSE NEIGHBOUR: 'it returns false'. Refute it at one input. -/
def planeTurnsWrong : ChangeSpec := { name := "planeTurns", fn := fun _ => fun
  | [d1, d2, d3, d4, d5, d6] => { results := [.lit (.bool false)], args := [d1, d2, d3, d4, d5, d6] }
  | _ => none }
def PlaneTurnsWrongFalsely : Prop := planeTurnsRow.holds Try.pinned (OpenSpec.ofChange planeTurnsWrong)

/-- 'goosenecklaw01.PlaneNumbers': WHATEVER THE INPUT: true; the input reads as it did. -/
def planeNumbersSpec : ChangeSpec := { name := "planeNumbers", fn := fun _ => fun
  | [d1, d2, d3, d4, d5] => { results := [.lit (.bool true)], args := [d1, d2, d3, d4, d5] }
  | _ => none }
def planeNumbersRow : OpenClaim := { program := "ytegdcnjjelgpjaa", sum := "f2c76b3b28676e71e1120ff5fc624d22c984655cfd9ffcaf242ed8e188eca82a", func := "gooseneck/goosenecklaw01.PlaneNumbers", spec := "planeNumbers", unfollowed := true, recurses := true, apart := false }
def PlaneNumbersSaid : Prop := planeNumbersRow.holds Try.pinned (OpenSpec.ofChange planeNumbersSpec)

/-- ITS FALSE NEIGHBOUR: 'it returns false'. Refute it at one input. -/
def planeNumbersWrong : ChangeSpec := { name := "planeNumbers", fn := fun _ => fun
  | [d1, d2, d3, d4, d5] => { results := [.lit (.bool false)], args := [d1, d2, d3, d4, d5] }
  | _ => none }
def PlaneNumbersWrongFalsely : Prop := planeNumbersRow.holds Try.pinned (OpenSpec.ofChange planeNumbersWrong)

/-- 'goosenecklaw01.PlaneWays': WHATEVER THE INPUT: true; the input reads as it did. -/
def planeWaysSpec : ChangeSpec := { name := "planeWays", fn := fun _ => fun
  | [d1, d2] => { results := [.lit (.bool true)], args := [d1, d2] }
  | _ => none }
def planeWaysRow : OpenClaim := { program := "ytegdcnjjelgpjaa", sum := "f2c76b3b28676e71e1120ff5fc624d22c984655cfd9ffcaf242ed8e188eca82a", func := "gooseneck/goosenecklaw01.PlaneWays", spec := "planeWays", unfollowed := true, recurses := true, apart := false }
def PlaneWaysSaid : Prop := planeWaysRow.holds Try.pinned (OpenSpec.ofChange planeWaysSpec)

/-- ITS FALSE NEIGHBOUR: 'it returns false'. Refute it at one input. -/
def planeWaysWrong : ChangeSpec := { name := "planeWays", fn := fun _ => fun
  | [d1, d2] => { results := [.lit (.bool false)], args := [d1, d2] }
  | _ => none }
def PlaneWaysWrongFalsely : Prop := planeWaysRow.holds Try.pinned (OpenSpec.ofChange planeWaysWrong)

/-- 'goosenecklaw01.PlaneAlong': WHATEVER THE INPUT: true; the input reads as it did. -/
def planeAlongSpec : ChangeSpec := { name := "planeAlong", fn := fun _ => fun
  | [d1, d2, d3] => { results := [.lit (.bool true)], args := [d1, d2, d3] }
  | _ => none }
def planeAlongRow : OpenClaim := { program := "ytegdcnjjelgpjaa", sum := "f2c76b3b28676e71e1120ff5fc624d22c984655cfd9ffcaf242ed8e188eca82a", func := "gooseneck/goosenecklaw01.PlaneAlong", spec := "planeAlong", unfollowed := true, recurses := true, apart := false }
def PlaneAlongSaid : Prop := planeAlongRow.holds Try.pinned (OpenSpec.ofChange planeAlongSpec)

/-- ITS FALSE NEIGHBOUR: 'it returns false'. Refute it at one input. -/
def planeAlongWrong : ChangeSpec := { name := "planeAlong", fn := fun _ => fun
  | [d1, d2, d3] => { results := [.lit (.bool false)], args := [d1, d2, d3] }
  | _ => none }
def PlaneAlongWrongFalsely : Prop := planeAlongRow.holds Try.pinned (OpenSpec.ofChange planeAlongWrong)

/-- 'goosenecklaw01.PlaneHalves': WHATEVER THE INPUT: true; the input reads as it did. -/
def planeHalvesSpec : ChangeSpec := { name := "planeHalves", fn := fun _ => fun
  | [d1, d2, d3, d4, d5, d6, d7] => { results := [.lit (.bool true)], args := [d1, d2, d3, d4, d5, d6, d7] }
  | _ => none }
def planeHalvesRow : OpenClaim := { program := "ytegdcnjjelgpjaa", sum := "f2c76b3b28676e71e1120ff5fc624d22c984655cfd9ffcaf242ed8e188eca82a", func := "gooseneck/goosenecklaw01.PlaneHalves", spec := "planeHalves", unfollowed := true, recurses := true, apart := false }
def PlaneHalvesSaid : Prop := planeHalvesRow.holds Try.pinned (OpenSpec.ofChange planeHalvesSpec)

/-- ITS FALSE NEIGHBOUR: 'it returns false'. Refute it at one input. -/
def planeHalvesWrong : ChangeSpec := { name := "planeHalves", fn := fun _ => fun
  | [d1, d2, d3, d4, d5, d6, d7] => { results := [.lit (.bool false)], args := [d1, d2, d3, d4, d5, d6, d7] }
  | _ => none }
def PlaneHalvesWrongFalsely : Prop := planeHalvesRow.holds Try.pinned (OpenSpec.ofChange planeHalvesWrong)

/-- 'goosenecklaw01.PlaneLeast': WHATEVER THE INPUT: true; the input reads as it did. -/
def planeLeastSpec : ChangeSpec := { name := "planeLeast", fn := fun _ => fun
  | [d1, d2] => { results := [.lit (.bool true)], args := [d1, d2] }
  | _ => none }
def planeLeastRow : OpenClaim := { program := "ytegdcnjjelgpjaa", sum := "f2c76b3b28676e71e1120ff5fc624d22c984655cfd9ffcaf242ed8e188eca82a", func := "gooseneck/goosenecklaw01.PlaneLeast", spec := "planeLeast", unfollowed := true, recurses := true, apart := false }
def PlaneLeastSaid : Prop := planeLeastRow.holds Try.pinned (OpenSpec.ofChange planeLeastSpec)

/-- ITS FALSE NEIGHBOUR: 'it returns false'. Refute it at one input. -/
def planeLeastWrong : ChangeSpec := { name := "planeLeast", fn := fun _ => fun
  | [d1, d2] => { results := [.lit (.bool false)], args := [d1, d2] }
  | _ => none }
def PlaneLeastWrongFalsely : Prop := planeLeastRow.holds Try.pinned (OpenSpec.ofChange planeLeastWrong)

/-- 'goosenecklaw01.PlaneHulls': WHATEVER THE INPUT: true; the input reads as it did. -/
def planeHullsSpec : ChangeSpec := { name := "planeHulls", fn := fun _ => fun
  | [d1, d2, d3] => { results := [.lit (.bool true)], args := [d1, d2, d3] }
  | _ => none }
def planeHullsRow : OpenClaim := { program := "ytegdcnjjelgpjaa", sum := "f2c76b3b28676e71e1120ff5fc624d22c984655cfd9ffcaf242ed8e188eca82a", func := "gooseneck/goosenecklaw01.PlaneHulls", spec := "planeHulls", unfollowed := true, recurses := true, apart := false }
def PlaneHullsSaid : Prop := planeHullsRow.holds Try.pinned (OpenSpec.ofChange planeHullsSpec)

/-- ITS FALSE NEIGHBOUR: 'it returns false'. Refute it at one input. -/
def planeHullsWrong : ChangeSpec := { name := "planeHulls", fn := fun _ => fun
  | [d1, d2, d3] => { results := [.lit (.bool false)], args := [d1, d2, d3] }
  | _ => none }
def PlaneHullsWrongFalsely : Prop := planeHullsRow.holds Try.pinned (OpenSpec.ofChange planeHullsWrong)

/-- 'goosenecklaw01.PlaneMeets': WHATEVER THE INPUT: true; the input reads as it did. -/
def planeMeetsSpec : ChangeSpec := { name := "planeMeets", fn := fun _ => fun
  | [d1, d2, d3] => { results := [.lit (.bool true)], args := [d1, d2, d3] }
  | _ => none }
def planeMeetsRow : OpenClaim := { program := "ytegdcnjjelgpjaa", sum := "f2c76b3b28676e71e1120ff5fc624d22c984655cfd9ffcaf242ed8e188eca82a", func := "gooseneck/goosenecklaw01.PlaneMeets", spec := "planeMeets", unfollowed := true, recurses := true, apart := false }
def PlaneMeetsSaid : Prop := planeMeetsRow.holds Try.pinned (OpenSpec.ofChange planeMeetsSpec)

/-- ITS FALSE NEIGHBOUR: 'it returns false'. Refute it at one input. -/
def planeMeetsWrong : ChangeSpec := { name := "planeMeets", fn := fun _ => fun
  | [d1, d2, d3] => { results := [.lit (.bool false)], args := [d1, d2, d3] }
  | _ => none }
def PlaneMeetsWrongFalsely : Prop := planeMeetsRow.holds Try.pinned (OpenSpec.ofChange planeMeetsWrong)

/-- 'goosenecklaw01.PlaneGaps': WHATEVER THE INPUT: true; the input reads as it did. -/
def planeGapsSpec : ChangeSpec := { name := "planeGaps", fn := fun _ => fun
  | [d1, d2, d3, d4] => { results := [.lit (.bool true)], args := [d1, d2, d3, d4] }
  | _ => none }
def planeGapsRow : OpenClaim := { program := "ytegdcnjjelgpjaa", sum := "f2c76b3b28676e71e1120ff5fc624d22c984655cfd9ffcaf242ed8e188eca82a", func := "gooseneck/goosenecklaw01.PlaneGaps", spec := "planeGaps", unfollowed := true, recurses := true, apart := false }
def PlaneGapsSaid : Prop := planeGapsRow.holds Try.pinned (OpenSpec.ofChange planeGapsSpec)

/-- ITS FALSE NEIGHBOUR: 'it returns false'. Refute it at one input. -/
def planeGapsWrong : ChangeSpec := { name := "planeGaps", fn := fun _ => fun
  | [d1, d2, d3, d4] => { results := [.lit (.bool false)], args := [d1, d2, d3, d4] }
  | _ => none }
def PlaneGapsWrongFalsely : Prop := planeGapsRow.holds Try.pinned (OpenSpec.ofChange planeGapsWrong)

/-- 'goosenecklaw01.PlaneParts': WHATEVER THE INPUT: true; the input reads as it did. -/
def planePartsSpec : ChangeSpec := { name := "planeParts", fn := fun _ => fun
  | [d1, d2, d3, d4] => { results := [.lit (.bool true)], args := [d1, d2, d3, d4] }
  | _ => none }
def planePartsRow : OpenClaim := { program := "ytegdcnjjelgpjaa", sum := "f2c76b3b28676e71e1120ff5fc624d22c984655cfd9ffcaf242ed8e188eca82a", func := "gooseneck/goosenecklaw01.PlaneParts", spec := "planeParts", unfollowed := true, recurses := true, apart := false }
def PlanePartsSaid : Prop := planePartsRow.holds Try.pinned (OpenSpec.ofChange planePartsSpec)

/-- ITS FALSE NEIGHBOUR: 'it returns false'. Refute it at one input. -/
def planePartsWrong : ChangeSpec := { name := "planeParts", fn := fun _ => fun
  | [d1, d2, d3, d4] => { results := [.lit (.bool false)], args := [d1, d2, d3, d4] }
  | _ => none }
def PlanePartsWrongFalsely : Prop := planePartsRow.holds Try.pinned (OpenSpec.ofChange planePartsWrong)

/- THE SECOND FORM. 'bulk': how many values and letters a reading holds, each counted each time it is reached (what is shared counts as often as it is met; a slice's spare places count too). A statement '..UptoSaid' is the law's where the arguments, and the package variables that the reading takes, are together of bulk at most 1048576: NARROWER than '..Said'. Prove '..Said' where nothing that the law and all that it calls make is longer than what came in: it says more and counts as full. Else prove '..UptoSaid'. A law counts once. -/
mutual
def uptoBulk {H : Type} : DataW H → Nat
  | .lit (.string bytes) => bytes.length + 1
  | .lit _ => 1
  | .nil => 1
  | .ptr d => uptoBulk d + 1
  | .slice elems spare => uptoBulkAll elems + uptoBulkAll spare + 1
  | .agg parts => uptoBulkAll parts + 1
  | .iface _ d => uptoBulk d + 1
  | .map entries => uptoBulkEntries entries + 1
  | .held _ => 1
def uptoBulkAll {H : Type} : List (DataW H) → Nat
  | [] => 0
  | d :: r => uptoBulk d + uptoBulkAll r
def uptoBulkEntries {H : Type} : List (Lit × DataW H) → Nat
  | [] => 0
  | x :: r => uptoBulkEntry x + uptoBulkEntries r
def uptoBulkEntry {H : Type} : Lit × DataW H → Nat
  | (.string bytes, d) => bytes.length + uptoBulk d + 1
  | (_, d) => uptoBulk d + 1
 end
def uptoSmall : (H : Type) → List (DataW H) → Bool := fun _ ds => decide (uptoBulkAll ds ≤ 1048576)
def OpenSpec.upto (s : _root_.Go.ChangeSpec) : _root_.Go.OpenSpec := { _root_.Go.OpenSpec.ofChange s with cond := some uptoSmall }

/-- 'goosenecklaw01.PlaneBodies', WHERE WHAT IT READS IS OF BULK AT MOST 1048576: true; the input reads as it did. -/
def planeBodiesUptoRow : OpenClaim := { program := "ytegdcnjjelgpjaa", sum := "f2c76b3b28676e71e1120ff5fc624d22c984655cfd9ffcaf242ed8e188eca82a", func := "gooseneck/goosenecklaw01.PlaneBodies", spec := "planeBodies", unfollowed := true, recurses := true, apart := false, narrowed := true }
def PlaneBodiesUptoSaid : Prop := planeBodiesUptoRow.holds Try.pinned (OpenSpec.upto planeBodiesSpec)

/-- 'goosenecklaw01.PlanePulls', WHERE WHAT IT READS IS OF BULK AT MOST 1048576: true; the input reads as it did. -/
def planePullsUptoRow : OpenClaim := { program := "ytegdcnjjelgpjaa", sum := "f2c76b3b28676e71e1120ff5fc624d22c984655cfd9ffcaf242ed8e188eca82a", func := "gooseneck/goosenecklaw01.PlanePulls", spec := "planePulls", unfollowed := true, recurses := true, apart := false, narrowed := true }
def PlanePullsUptoSaid : Prop := planePullsUptoRow.holds Try.pinned (OpenSpec.upto planePullsSpec)

/-- 'goosenecklaw01.PlaneTurns', WHERE WHAT IT READS IS OF BULK AT MOST 1048576: true; the input reads as it did. -/
def planeTurnsUptoRow : OpenClaim := { program := "ytegdcnjjelgpjaa", sum := "f2c76b3b28676e71e1120ff5fc624d22c984655cfd9ffcaf242ed8e188eca82a", func := "gooseneck/goosenecklaw01.PlaneTurns", spec := "planeTurns", unfollowed := true, recurses := true, apart := false, narrowed := true }
def PlaneTurnsUptoSaid : Prop := planeTurnsUptoRow.holds Try.pinned (OpenSpec.upto planeTurnsSpec)

/-- 'goosenecklaw01.PlaneNumbers', WHERE WHAT IT READS IS OF BULK AT MOST 1048576: true; the input reads as it did. -/
def planeNumbersUptoRow : OpenClaim := { program := "ytegdcnjjelgpjaa", sum := "f2c76b3b28676e71e1120ff5fc624d22c984655cfd9ffcaf242ed8e188eca82a", func := "gooseneck/goosenecklaw01.PlaneNumbers", spec := "planeNumbers", unfollowed := true, recurses := true, apart := false, narrowed := true }
def PlaneNumbersUptoSaid : Prop := planeNumbersUptoRow.holds Try.pinned (OpenSpec.upto planeNumbersSpec)

/-- 'goosenecklaw01.PlaneWays', WHERE WHAT IT READS IS OF BULK AT MOST 1048576: true; the input reads as it did. -/
def planeWaysUptoRow : OpenClaim := { program := "ytegdcnjjelgpjaa", sum := "f2c76b3b28676e71e1120ff5fc624d22c984655cfd9ffcaf242ed8e188eca82a", func := "gooseneck/goosenecklaw01.PlaneWays", spec := "planeWays", unfollowed := true, recurses := true, apart := false, narrowed := true }
def PlaneWaysUptoSaid : Prop := planeWaysUptoRow.holds Try.pinned (OpenSpec.upto planeWaysSpec)

/-- 'goosenecklaw01.PlaneAlong', WHERE WHAT IT READS IS OF BULK AT MOST 1048576: true; the input reads as it did. -/
def planeAlongUptoRow : OpenClaim := { program := "ytegdcnjjelgpjaa", sum := "f2c76b3b28676e71e1120ff5fc624d22c984655cfd9ffcaf242ed8e188eca82a", func := "gooseneck/goosenecklaw01.PlaneAlong", spec := "planeAlong", unfollowed := true, recurses := true, apart := false, narrowed := true }
def PlaneAlongUptoSaid : Prop := planeAlongUptoRow.holds Try.pinned (OpenSpec.upto planeAlongSpec)

/-- 'goosenecklaw01.PlaneHalves', WHERE WHAT IT READS IS OF BULK AT MOST 1048576: true; the input reads as it did. -/
def planeHalvesUptoRow : OpenClaim := { program := "ytegdcnjjelgpjaa", sum := "f2c76b3b28676e71e1120ff5fc624d22c984655cfd9ffcaf242ed8e188eca82a", func := "gooseneck/goosenecklaw01.PlaneHalves", spec := "planeHalves", unfollowed := true, recurses := true, apart := false, narrowed := true }
def PlaneHalvesUptoSaid : Prop := planeHalvesUptoRow.holds Try.pinned (OpenSpec.upto planeHalvesSpec)

/-- 'goosenecklaw01.PlaneLeast', WHERE WHAT IT READS IS OF BULK AT MOST 1048576: true; the input reads as it did. -/
def planeLeastUptoRow : OpenClaim := { program := "ytegdcnjjelgpjaa", sum := "f2c76b3b28676e71e1120ff5fc624d22c984655cfd9ffcaf242ed8e188eca82a", func := "gooseneck/goosenecklaw01.PlaneLeast", spec := "planeLeast", unfollowed := true, recurses := true, apart := false, narrowed := true }
def PlaneLeastUptoSaid : Prop := planeLeastUptoRow.holds Try.pinned (OpenSpec.upto planeLeastSpec)

/-- 'goosenecklaw01.PlaneHulls', WHERE WHAT IT READS IS OF BULK AT MOST 1048576: true; the input reads as it did. -/
def planeHullsUptoRow : OpenClaim := { program := "ytegdcnjjelgpjaa", sum := "f2c76b3b28676e71e1120ff5fc624d22c984655cfd9ffcaf242ed8e188eca82a", func := "gooseneck/goosenecklaw01.PlaneHulls", spec := "planeHulls", unfollowed := true, recurses := true, apart := false, narrowed := true }
def PlaneHullsUptoSaid : Prop := planeHullsUptoRow.holds Try.pinned (OpenSpec.upto planeHullsSpec)

/-- 'goosenecklaw01.PlaneMeets', WHERE WHAT IT READS IS OF BULK AT MOST 1048576: true; the input reads as it did. -/
def planeMeetsUptoRow : OpenClaim := { program := "ytegdcnjjelgpjaa", sum := "f2c76b3b28676e71e1120ff5fc624d22c984655cfd9ffcaf242ed8e188eca82a", func := "gooseneck/goosenecklaw01.PlaneMeets", spec := "planeMeets", unfollowed := true, recurses := true, apart := false, narrowed := true }
def PlaneMeetsUptoSaid : Prop := planeMeetsUptoRow.holds Try.pinned (OpenSpec.upto planeMeetsSpec)

/-- 'goosenecklaw01.PlaneGaps', WHERE WHAT IT READS IS OF BULK AT MOST 1048576: true; the input reads as it did. -/
def planeGapsUptoRow : OpenClaim := { program := "ytegdcnjjelgpjaa", sum := "f2c76b3b28676e71e1120ff5fc624d22c984655cfd9ffcaf242ed8e188eca82a", func := "gooseneck/goosenecklaw01.PlaneGaps", spec := "planeGaps", unfollowed := true, recurses := true, apart := false, narrowed := true }
def PlaneGapsUptoSaid : Prop := planeGapsUptoRow.holds Try.pinned (OpenSpec.upto planeGapsSpec)

/-- 'goosenecklaw01.PlaneParts', WHERE WHAT IT READS IS OF BULK AT MOST 1048576: true; the input reads as it did. -/
def planePartsUptoRow : OpenClaim := { program := "ytegdcnjjelgpjaa", sum := "f2c76b3b28676e71e1120ff5fc624d22c984655cfd9ffcaf242ed8e188eca82a", func := "gooseneck/goosenecklaw01.PlaneParts", spec := "planeParts", unfollowed := true, recurses := true, apart := false, narrowed := true }
def PlanePartsUptoSaid : Prop := planePartsUptoRow.holds Try.pinned (OpenSpec.upto planePartsSpec)

end Rows
end Go.Proofs.Ytegdcnjjelgpjaa

/-
  What the walks of the Query laws take from a row: the variable that strings.Cut reads; a query as an argument.
-/
import Derived.Test.YtihhgmpanfboaaaGreatDoorK20
import Derived.Test.YtihhgmpanfboaaaGreatDoorK24
import Derived.Test.YtihhgmpanfboaaaGreatDoorShelf
namespace Go.Proofs.YtihhgmpanfboaaaGreatDoor
open Go.RowKit
theorem cutV_of {w : World} (h : w.ShapedOpen Tryz.prog) : CutV w := Tryz.laysM145.s1_3 w h
end Go.Proofs.YtihhgmpanfboaaaGreatDoor

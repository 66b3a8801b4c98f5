/-
  The walk of RankMoreWordsAreBetter, as its row takes it.
-/
import Derived.Test.YtiohhajkegpebaaGreatDoorR20
import Derived.Test.YtiohhajkegpebaaGreatDoorRkL3
namespace Go.Proofs.YtiohhajkegpebaaGreatDoor
open Go.RowKit
theorem rmore_row (t s : Str) (w : World) (ht : t.length ≤ 1048576) (hs : s.length ≤ 1048574) (hT : TabsU w) :
    Calls Tryz.prog 3 #[.string (bs t), .string (bs s)] w fun e w' => e = .returned (.bool true) ∧ Below w.heap.size w w' := rmore_ok t s w ht hs hT
end Go.Proofs.YtiohhajkegpebaaGreatDoor

/-
  The walk of IndexMatchesSpec, as its row takes it.
-/
import Derived.Test.YtfjpedgddgbelaaGreatDoorG7
import Derived.Test.YtfjpedgddgbelaaGreatDoorIxL5A
import Derived.Test.YtfjpedgddgbelaaGreatDoorIxL5B
namespace Go.Proofs.YtfjpedgddgbelaaGreatDoor
open Go.RowKit
theorem imatch_row (a0 : Array Value) (x0 : Ix.Idx) (id : Int) (text word : Str) (w : World) (h0 : idxC.rd M0 w (Value.agg a0).cells.toList x0) (z0 : szIdx x0) (hT : TabsU w) :
    Calls Tryz.prog 3 #[.agg a0, .int .i64 id, .string (bs text), .string (bs word)] w fun e w' => e = .returned (.bool true) ∧ Below w.heap.size w w' := by
  obtain ⟨u, v, e, h1, h2⟩ := idx_of_rd h0
  rw [e]
  by_cases hg : (Ix.indexF x0).1 = 0
  · by_cases hw : word.length ≤ 8000
    · exact imatch_goodA u v x0 id text word w h1 h2 (szIdx_sz z0) hT hg hw
    · exact imatch_goodB u v x0 id text word w h1 h2 (szIdx_sz z0) hT hg (by omega)
  · exact imatch_bad u v x0 id text word w h1 h2 (szIdx_sz z0) hT hg
end Go.Proofs.YtfjpedgddgbelaaGreatDoor

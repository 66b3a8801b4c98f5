/-
  The walk of SearchFindsWhatIsAdded, as its row takes it.
-/
import Derived.Test.YtfjpedgddgbelaaGreatDoorG7
import Derived.Test.YtfjpedgddgbelaaGreatDoorSrL4
namespace Go.Proofs.YtfjpedgddgbelaaGreatDoor
open Go.RowKit
theorem sadded_row (a0 : Array Value) (x0 : Ix.Idx) (id : Int) (text : Str) (k : Int) (w : World) (h0 : idxC.rd M0 w (Value.agg a0).cells.toList x0) (z0 : szIdx x0) (bt : text.length ≤ 1048576) (hT : TabsU w) :
    Calls Tryz.prog 6 #[.agg a0, .int .i64 id, .string (bs text), .int .i64 k] w fun e w' => e = .returned (.bool true) ∧ Below w.heap.size w w' := by
  obtain ⟨u, v, e, h1, h2⟩ := idx_of_rd h0
  rw [e]
  exact sadded_ok u v x0 id text k w h1 h2 (szIdx_sz z0) bt hT
end Go.Proofs.YtfjpedgddgbelaaGreatDoor

/-
  The walk of RankOrdersWhatIsFound, as its row takes it.
-/
import Derived.Test.YtnlhocbaighedaaGreatDoorIxSh
import Derived.Test.YtnlhocbaighedaaGreatDoorR25
import Derived.Test.YtnlhocbaighedaaGreatDoorRkL2
namespace Go.Proofs.YtnlhocbaighedaaGreatDoor
open Go.RowKit
theorem rorders_row (a0 : Array Value) (x0 : Ix.Idx) (qa : Array Value) (f : Nat) (q : Q) (w : World) (h0 : idxC.rd M0 w (Value.agg a0).cells.toList x0) (hq : QAt f M0 w (.agg qa) q) (z0 : szIdx x0) (bq : q.bulk ≤ 1048576) (hT : TabsU w) :
    Calls Tryz.prog 4 #[.agg a0, .agg qa] w fun e w' => e = .returned (.bool true) ∧ Below w.heap.size w w' := by
  obtain ⟨u, v, e, h1, h2⟩ := idx_of_rd h0
  rw [e]
  exact rorders_ok u v (.agg qa) x0.1 x0.2 f q w h1 h2 hq (szIdx_sz z0) bq hT
end Go.Proofs.YtnlhocbaighedaaGreatDoor

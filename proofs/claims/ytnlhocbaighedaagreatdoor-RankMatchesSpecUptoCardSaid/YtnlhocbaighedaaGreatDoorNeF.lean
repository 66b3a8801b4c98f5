/-
  Two faults compared.
-/
import Derived.Test.YtnlhocbaighedaaGreatDoorR1
namespace Go.Proofs.YtnlhocbaighedaaGreatDoor
open Go.RowKit
theorem run_neq_fault (a b a' b' : Int) (w : World) : (binOp .neq 30 (.agg #[.int .i64 a, .int .i64 b]) (.agg #[.int .i64 a', .int .i64 b'])).run Tryz.prog w = .ok (.bool (!((a, b) == (a', b')))) w := by
 have h1 : ((a, b) == (a', b')) = ((a == a') && (b == b')) := rfl
 rw [h1]
 cases e1 : (a == a') <;> cases e2 : (b == b') <;> simp [go_sem, e1, e2]
end Go.Proofs.YtnlhocbaighedaaGreatDoor

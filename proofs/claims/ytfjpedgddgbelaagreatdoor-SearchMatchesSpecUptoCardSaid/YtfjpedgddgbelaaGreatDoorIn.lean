/-
  The reference's In.
-/
import Derived.Test.YtfjpedgddgbelaaGreatDoorG2
namespace Go.Proofs.YtfjpedgddgbelaaGreatDoor
open Go.RowKit

theorem in_ok (a b c : Int) (w : World) : Calls Tryz.prog 22 #[.int .i64 a, .int .i64 b, .int .i64 c] w fun e w' => e = .returned (.bool (decide (b ≤ a) && decide (a ≤ c))) ∧ w = w' := by
  by_cases h1 : b ≤ a
  all_goals
    go_enter Tryz.func22, Tryz.ntmps22
    go_wp2
    all_goals go_ret
    all_goals simp [h1]
  all_goals omega
end Go.Proofs.YtfjpedgddgbelaaGreatDoor

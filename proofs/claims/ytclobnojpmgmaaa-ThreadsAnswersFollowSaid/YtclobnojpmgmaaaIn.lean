/-
  The reference's In.
-/
import Derived.Test.YtclobnojpmgmaaaFault
namespace Go.Proofs.Ytclobnojpmgmaaa
open Go.RowKit

theorem in_ok (a b c : Int) (w : World) : Calls Try.prog 15 #[.int .i64 a, .int .i64 b, .int .i64 c] w fun e w' => e = .returned (.bool (decide (b ≤ a) && decide (a ≤ c))) ∧ w = w' := by
  by_cases h1 : b ≤ a
  all_goals
    go_enter Try.func15, Try.ntmps15
    go_wp2
    all_goals go_ret
    all_goals simp [h1]
  all_goals omega
end Go.Proofs.Ytclobnojpmgmaaa

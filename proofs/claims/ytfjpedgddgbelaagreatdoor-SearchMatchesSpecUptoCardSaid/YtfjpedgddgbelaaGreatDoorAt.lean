/-
  The reference's At.
-/
import Derived.Test.YtfjpedgddgbelaaGreatDoorG2
namespace Go.Proofs.YtfjpedgddgbelaaGreatDoor
open Go.RowKit

theorem at_ok (a b : Int) (w : World) : Calls Tryz.prog 21 #[.int .i64 a, .int .i64 b] w fun e w' => e = .returned (.agg #[.int .i64 a, .int .i64 b]) ∧ Below w.heap.size w w' := by
  go_enter Tryz.func21, Tryz.ntmps21
  go_wp2
  exact bodyPost_ret (v := .agg #[.int .i64 a, .int .i64 b]) (by simp [results, Tryz.results21, go_sem]) rfl ⟨rfl, (Below.refl _ _).alloc (Nat.le_refl _) _⟩
end Go.Proofs.YtfjpedgddgbelaaGreatDoor

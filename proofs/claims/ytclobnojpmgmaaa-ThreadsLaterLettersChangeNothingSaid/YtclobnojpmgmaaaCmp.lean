/-
  strings.Compare.
-/
import Derived.Test.YtclobnojpmgmaaaFault
import Derived.Test.YtclobnojpmgmaaaOrd
import Derived.Lib.Bytealg
import Derived.Outline
namespace Go.Proofs.Ytclobnojpmgmaaa
open Go.RowKit

theorem compareString_ok (a b : Str) (w : World) : Calls Try.prog 36 #[.string (bs a), .string (bs b)] w fun e w' => e = .returned (.int .i64 (Lib.compareBytes a b)) ∧ w = w' := by
  go_enter Try.func36, Try.ntmps36
  go_wp2
  rw [run_callFunc_extern Try.func47 (by kernel_rfl) (by kernel_rfl) (by kernel_rfl) (e := Extern.BytealgCompare.compare) (by kernel_rfl), Lib.run_compareString]
  simp only [Result.andThen]
  rw [Oper.upon_value]
  go_wp2
  go_ret
  exact ⟨by simp, rfl⟩
theorem compare_ok (a b : Str) (w : World) : Calls Try.prog 32 #[.string (bs a), .string (bs b)] w fun e w' => e = .returned (.int .i64 (Lib.compareBytes a b)) ∧ w = w' := by
  have hp := compareString_ok a b w
  have Hp := Lib.hid hp
  clear hp
  go_enter Try.func32, Try.ntmps32
  go_wp2_with fail
  refine Hp.out.mono ?_
  rintro e w1 ⟨rfl, rfl⟩
  go_wp2
  go_ret
  exact ⟨rfl, rfl⟩
end Go.Proofs.Ytclobnojpmgmaaa

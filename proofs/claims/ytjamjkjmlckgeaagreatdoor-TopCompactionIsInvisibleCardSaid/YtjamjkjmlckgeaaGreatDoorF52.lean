/-
  The walk of TopCompactionIsInvisible, as its row takes it.
-/
import Derived.Test.YtjamjkjmlckgeaaGreatDoorF51
import Derived.Test.YtjamjkjmlckgeaaGreatDoorF28
namespace Go.Proofs.YtjamjkjmlckgeaaGreatDoor
open Go.RowKit
set_option linter.unusedVariables false
theorem cmf_row (v : Value) (l : List Mb.Chg) (wh lo kn : Int) (w : World) (h : SlR chgC M0 w v l) (hb : l.length * Tryz.prog.bytesOf 47 ≤ reachBytes ∧ ∀ c ∈ l, True ∧ True ∧ True ∧ True ∧ True ∧ szMsg c.2.2.2.2.2) (hlo : -9223372036854775808 ≤ lo ∧ lo ≤ 9223372036854775807) (hE : Env w.heap.size w) :
    Calls Tryz.prog 3 #[v, .int .i64 wh, .int .i64 lo, .int .i64 kn] w fun e w' => e = .returned (.bool true) ∧ Below w.heap.size w w' :=
  cm_ok w.heap.size w v l wh lo kn hE (Nat.le_refl _) h (fun c hc => msg_fits (hb.2 c hc).2.2.2.2.2) hlo
end Go.Proofs.YtjamjkjmlckgeaaGreatDoor

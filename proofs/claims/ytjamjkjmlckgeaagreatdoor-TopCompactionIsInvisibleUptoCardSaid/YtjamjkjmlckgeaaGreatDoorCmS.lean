/-
  The walk of TopCompactionIsInvisible, as its row takes it.
-/
import Derived.Test.YtjamjkjmlckgeaaGreatDoorCmA
import Derived.Test.YtjamjkjmlckgeaaGreatDoorG28
namespace Go.Proofs.YtjamjkjmlckgeaaGreatDoor
open Go.RowKit
set_option linter.unusedVariables false
theorem cm_row (v : Value) (l : List Mb.Chg) (wh lo kn : Int) (w : World) (h : SlR chgC M0 w v l) (hb : 1 + (l.map bkChg).sum ≤ 1048576) (hlo : -9223372036854775808 ≤ lo ∧ lo ≤ 9223372036854775807) (hE : Env w.heap.size w) :
    Calls Tryz.prog 3 #[v, .int .i64 wh, .int .i64 lo, .int .i64 kn] w fun e w' => e = .returned (.bool true) ∧ Below w.heap.size w w' :=
  cm_ok w.heap.size w v l wh lo kn hE (Nat.le_refl _) h (fun c hc => by
    have h1 := bk_mem bkChg hc
    have h2 := msg_small (m := c.2.2.2.2.2)
    have h3 : bkMsg c.2.2.2.2.2 ≤ bkChg c := by unfold bkChg; omega
    exact ⟨by omega, by omega⟩) hlo
end Go.Proofs.YtjamjkjmlckgeaaGreatDoor

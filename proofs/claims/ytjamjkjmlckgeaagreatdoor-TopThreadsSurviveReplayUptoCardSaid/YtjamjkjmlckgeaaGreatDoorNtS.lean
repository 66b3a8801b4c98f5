/-
  The walk of TopThreadsSurviveReplay, as its row takes it.
-/
import Derived.Test.YtjamjkjmlckgeaaGreatDoorNtB
import Derived.Test.YtjamjkjmlckgeaaGreatDoorG28
namespace Go.Proofs.YtjamjkjmlckgeaaGreatDoor
open Go.RowKit
set_option linter.unusedVariables false
theorem nt_row (a0 : Array Value) (p : Int × Int × Int × List Mb.Ent × List Mb.Gn) (a1 : Array Value) (m : Mb.Msg) (w : World) (h0 : (pairC intC (pairC intC (pairC intC (pairC (sliceC entC) (sliceC gnC))))).rd M0 w (Value.agg a0).cells.toList p) (h1 : msgC.rd M0 w (Value.agg a1).cells.toList m) (hb0 : 1 + 1 + 1 + (1 + (p.2.2.2.1.map bkEnt).sum) + (1 + (p.2.2.2.2.map bkGn).sum) ≤ 1048576) (hb1 : bkMsg m ≤ 1048576) (hE : Env w.heap.size w) :
    Calls Tryz.prog 4 #[.agg a0, .agg a1] w fun e w' => e = .returned (.bool true) ∧ Below w.heap.size w w' := by
  obtain ⟨es, gs, e0, he, hg⟩ := box_of_rd h0
  obtain ⟨f, bd, e1, hf, hbd⟩ := msg_of_rd h1
  have hs := msg_small (m := m)
  rw [e0, e1]
  exact nt_ok w.heap.size w _ es gs f bd m hE (Nat.le_refl _) he hg hf hbd (fun e hx => by
    have h1 : bkEnt e ≤ (p.2.2.2.1.map bkEnt).sum := bk_mem bkEnt hx
    have h2 := msg_small (m := e.2.2.2.2)
    have h3 : bkMsg e.2.2.2.2 ≤ bkEnt e := by unfold bkEnt; omega
    omega) (by omega) (by omega)
end Go.Proofs.YtjamjkjmlckgeaaGreatDoor

/-
  The walk of TopThreadsSurviveReplay, as its row takes it.
-/
import Derived.Test.YtjamjkjmlckgeaaGreatDoorF58
import Derived.Test.YtjamjkjmlckgeaaGreatDoorF28
namespace Go.Proofs.YtjamjkjmlckgeaaGreatDoor
open Go.RowKit
set_option linter.unusedVariables false
theorem ntf_row (a0 : Array Value) (p : Int × Int × Int × List Mb.Ent × List Mb.Gn) (a1 : Array Value) (m : Mb.Msg) (w : World) (h0 : (pairC intC (pairC intC (pairC intC (pairC (sliceC entC) (sliceC gnC))))).rd M0 w (Value.agg a0).cells.toList p) (h1 : msgC.rd M0 w (Value.agg a1).cells.toList m) (hb0 : True ∧ True ∧ True ∧ szEnts p.2.2.2.1 ∧ szGns p.2.2.2.2) (hb1 : szMsg m) (hE : Env w.heap.size w) :
    Calls Tryz.prog 4 #[.agg a0, .agg a1] w fun e w' => e = .returned (.bool true) ∧ Below w.heap.size w w' := by
  obtain ⟨es, gs, e0, he, hg⟩ := box_of_rd h0
  obtain ⟨f, bd, e1, hf, hbd⟩ := msg_of_rd h1
  have hs := msg_fits hb1
  rw [e0, e1]
  exact nt_ok w.heap.size w _ es gs f bd m hE (Nat.le_refl _) he hg hf hbd (fun e hx => (msg_fits (hb0.2.2.2.1.2 e hx).2.2.2.2).2) hs.1 hs.2
end Go.Proofs.YtjamjkjmlckgeaaGreatDoor

/-
  Boxes under names; the stores of two cells. No program is named here.
-/
import Derived.Test.YtfjpedgddgbelaaGreatDoorG6
namespace Go.Proofs.YtfjpedgddgbelaaGreatDoor
open Go.RowKit
set_option linter.unusedVariables false
/-- one box, two boxes: under names -/
theorem box1 (w : World) (cs : Array Value) (t : TypeId) : ∃ W g, w.alloc (.cells cs t) = W ∧ w.heap.size = g ∧ W.heap.size = g + 1 ∧ Blk W g t cs ∧ Below w.heap.size w W := ⟨_, _, rfl, rfl, by simp, Blk.new w t _, (Below.refl _ _).alloc (Nat.le_refl _) _⟩
theorem box2 (w : World) (cs : Array Value) (t : TypeId) (ds : Array Value) (t' : TypeId) : ∃ W g h, (w.alloc (.cells cs t)).alloc (.cells ds t') = W ∧ w.heap.size = g ∧ g + 1 = h ∧ W.heap.size = h + 1 ∧ Blk W g t cs ∧ Blk W h t' ds ∧ Below w.heap.size w W := by
  refine ⟨_, _, _, rfl, rfl, rfl, by simp, (Blk.new w t cs).alloc _, ?_, ((Below.refl _ _).alloc (Nat.le_refl _) _).alloc (by simp) _⟩
  have := Blk.new (w.alloc (.cells cs t)) t' ds
  rw [World.size_alloc] at this
  exact this
theorem put2 {w : World} {g7 : Nat} {t' : TypeId} {u v : Value} (h7 : Blk w g7 t' #[u, v]) (c d : Value) {W : World} (hW : (w.setCell ⟨g7, 0, none⟩ c).setCell ⟨g7, 1, none⟩ d = W) : Blk W g7 t' #[c, d] ∧ ∀ b, b ≠ g7 → W.heap[b]? = w.heap[b]? := by
  subst hW
  exact ⟨(h7.set_ 0 c).set_ 1 d, fun b h2 => by rw [heap_set_ne _ _ _ h2, heap_set_ne _ _ _ h2]⟩
theorem below_put2 {w w1 W : World} {g7 : Nat} (hb : Below w.heap.size w w1) (h7 : w.heap.size ≤ g7) (c d : Value) (hW : (w1.setCell ⟨g7, 0, none⟩ c).setCell ⟨g7, 1, none⟩ d = W) : Below w.heap.size w W := by
  subst hW
  exact (hb.setCell (p := ⟨g7, 0, none⟩) h7 _).setCell (p := ⟨g7, 1, none⟩) h7 _
end Go.Proofs.YtfjpedgddgbelaaGreatDoor

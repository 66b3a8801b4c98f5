/-
  One of three boxes is stored into.
-/
import Derived.Test.YtfjpedgddgbelaaGreatDoorIxL4
namespace Go.Proofs.YtfjpedgddgbelaaGreatDoor
open Go.RowKit
/-- one of three boxes is stored into -/
theorem put_one {w0 w V : World} {g g' g'' : Nat} {t t' t'' : TypeId} {cs cs' : Array Value} {a b : Value} (hB : Below w0.heap.size w0 w) (hV : Below w.heap.size w V) (hg : w0.heap.size ≤ g) (k : Blk w g t #[a, b]) (k' : Blk w g' t' cs) (k'' : Blk w g'' t'' cs') (n1 : g' ≠ g) (n2 : g'' ≠ g) (c d : Value) :
    Below w0.heap.size w0 ((V.setCell ⟨g, 0, none⟩ c).setCell ⟨g, 1, none⟩ d) ∧ Blk ((V.setCell ⟨g, 0, none⟩ c).setCell ⟨g, 1, none⟩ d) g t #[c, d] ∧ Blk ((V.setCell ⟨g, 0, none⟩ c).setCell ⟨g, 1, none⟩ d) g' t' cs ∧ Blk ((V.setCell ⟨g, 0, none⟩ c).setCell ⟨g, 1, none⟩ d) g'' t'' cs' := by
  refine ⟨below_set2 (hB.trans (hV.mono hB.size)) hg _ _, ?_, ((k'.ext hV).far n1 _).far n1 _, ((k''.ext hV).far n2 _).far n2 _⟩
  simpa using ((k.ext hV).set_ 0 c).set_ 1 d
end Go.Proofs.YtfjpedgddgbelaaGreatDoor

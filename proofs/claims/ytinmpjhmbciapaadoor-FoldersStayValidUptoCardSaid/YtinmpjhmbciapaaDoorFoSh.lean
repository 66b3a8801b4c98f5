/-
  What the Folders laws' rows read.
-/
import Derived.Test.YtinmpjhmbciapaaDoorFoL1
import Derived.Test.YtinmpjhmbciapaaDoorFoL2
import Derived.Test.YtinmpjhmbciapaaDoorFoL3
import Derived.Test.YtinmpjhmbciapaaDoorShut
namespace Go.Proofs.YtinmpjhmbciapaaDoor
open Go.RowKit
theorem readsStrs : Reads Tryd.prog 22 (sliceC strC) (fun l => 1 + (l.map fun s => s.length + 1).sum) := reads_slice (reads_string Tryd.underlying9 (by kernel_rfl)) Tryd.underlying22 (by kernel_rfl)
theorem mem_sum {α : Type} (f : α → Nat) {a : α} {l : List α} (h : a ∈ l) : f a ≤ (l.map f).sum := by
  induction l with
  | nil => cases h
  | cons b l ih =>
    simp only [List.map_cons, List.sum_cons]
    rcases List.mem_cons.1 h with rfl | h
    · omega
    · have := ih h
      omega
end Go.Proofs.YtinmpjhmbciapaaDoor

/-
  The walks of the rights' laws, as their rows take them.
-/
import Derived.Test.YtopldghfphgjoaaRgL1
import Derived.Test.YtopldghfphgjoaaRgL2
import Derived.Test.YtopldghfphgjoaaRgL3
import Derived.Test.YtopldghfphgjoaaRgL4
import Derived.Test.YtopldghfphgjoaaShut
namespace Go.Proofs.Ytopldghfphgjoaa
open Go.RowKit

theorem readsGrant : Reads Try.prog 47 grantC (fun p => (p.1.length + 1) + 1 + 1) :=
  reads_struct3 (C := strC) (D := boolC) (E := intC) (bc := fun s => s.length + 1) (bd := fun _ => 1) (be := fun _ => 1) (reads_string Try.underlying9 (by kernel_rfl)) (reads_bool Try.underlying4 (by kernel_rfl)) (reads_int Try.underlying3 (by kernel_rfl)) Try.underlying47 (by kernel_rfl) rfl rfl rfl
theorem readsGrants : Reads Try.prog 45 (sliceC grantC) (fun l => 1 + (l.map fun p => (p.1.length + 1) + 1 + 1).sum) := reads_slice readsGrant Try.underlying45 (by kernel_rfl)
theorem readsStrs : Reads Try.prog 78 (sliceC strC) (fun l => 1 + (l.map fun s => s.length + 1).sum) := reads_slice (reads_string Try.underlying9 (by kernel_rfl)) Try.underlying78 (by kernel_rfl)
theorem readsGroup : Reads Try.prog 80 groupC (fun p => (p.1.length + 1) + (1 + (p.2.map fun s => s.length + 1).sum)) :=
  reads_struct2 (C := strC) (D := sliceC strC) (bc := fun s => s.length + 1) (bd := fun l => 1 + (l.map fun s => s.length + 1).sum) (reads_string Try.underlying9 (by kernel_rfl)) readsStrs Try.underlying80 (by kernel_rfl) rfl rfl
theorem readsGroups : Reads Try.prog 44 (sliceC groupC) (fun l => 1 + (l.map fun p => (p.1.length + 1) + (1 + (p.2.map fun s => s.length + 1).sum)).sum) := reads_slice readsGroup Try.underlying44 (by kernel_rfl)
theorem gv_of_rd {M : Nat → Prop} {w : World} {a : Array Value} {x : Grant} (h : grantC.rd M w (Value.agg a).cells.toList x) : Value.agg a = gv x ∧ x.1.length ≤ maxLen ∧ -9223372036854775808 ≤ x.2.2 ∧ x.2.2 ≤ 9223372036854775807 := by
  obtain ⟨h1, h2, h3, h4⟩ := grant_cells h
  refine ⟨?_, h2, h3, h4⟩
  have : a.toList = [.string (bs x.1), .bool x.2.1, .int .i64 x.2.2] := h1
  unfold gv
  congr 1
  rw [← Array.toArray_toList (xs := a), this]
theorem rmatch_row (v0 v1 : Value) (gs : List Group) (l : List Grant) (user : Str) (a : Array Value) (x : Grant) (w : World) (h0 : SlR groupC M0 w v0 gs) (h1 : SlR grantC M0 w v1 l) (hu : user.length ≤ maxLen) (hx : grantC.rd M0 w (Value.agg a).cells.toList x) :
    Calls Try.prog 7 #[v0, v1, .string (bs user), .agg a] w fun e w' => e = .returned (.bool true) ∧ Below w.heap.size w w' := by
  obtain ⟨e, h2, h3, h4⟩ := gv_of_rd hx
  rw [e]
  exact rmatch_walk v0 v1 gs l user x w h0 h1 hu h2 h3 h4
theorem rtwice_row (v0 : Value) (l : List Grant) (a : Array Value) (x : Grant) (w : World) (h0 : SlR grantC M0 w v0 l) (hx : grantC.rd M0 w (Value.agg a).cells.toList x) :
    Calls Try.prog 9 #[v0, .agg a] w fun e w' => e = .returned (.bool true) ∧ Below w.heap.size w w' := by
  obtain ⟨e, h2, h3, h4⟩ := gv_of_rd hx
  rw [e]
  exact rtwice_walk v0 l x w h0 h2 h3 h4
theorem rseen_row (v0 v1 : Value) (gs : List Group) (l : List Grant) (user : Str) (neg : Bool) (n : Int) (w : World) (h0 : SlR groupC M0 w v0 gs) (h1 : SlR grantC M0 w v1 l) (hu : user.length ≤ maxLen) (hn : -9223372036854775808 ≤ n ∧ n ≤ 9223372036854775807) :
    Calls Try.prog 8 #[v0, v1, .string (bs user), .bool neg, .int .i64 n] w fun e w' => e = .returned (.bool true) ∧ Below w.heap.size w w' :=
  rseen_walk v0 v1 gs l user neg n w h0 h1 hu hn.1 hn.2
theorem rstranger_row (v0 v1 : Value) (gs : List Group) (l : List Grant) (user other : Str) (n : Int) (w : World) (h0 : SlR groupC M0 w v0 gs) (h1 : SlR grantC M0 w v1 l) (hu : user.length ≤ maxLen) (ho : other.length ≤ maxLen) (hn : -9223372036854775808 ≤ n ∧ n ≤ 9223372036854775807) :
    Calls Try.prog 10 #[v0, v1, .string (bs user), .string (bs other), .int .i64 n] w fun e w' => e = .returned (.bool true) ∧ Below w.heap.size w w' :=
  rstranger_walk v0 v1 gs l user other n w h0 h1 hu ho hn.1 hn.2
end Go.Proofs.Ytopldghfphgjoaa

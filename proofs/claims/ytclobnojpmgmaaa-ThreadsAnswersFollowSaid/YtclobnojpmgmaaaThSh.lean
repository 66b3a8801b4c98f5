/-
  The walks of the threads' laws, as their rows take them.
-/
import Derived.Test.YtclobnojpmgmaaaThL2
import Derived.Test.YtclobnojpmgmaaaThL3
import Derived.Test.YtclobnojpmgmaaaThL4
import Derived.Test.YtclobnojpmgmaaaShut
import Derived.SizedLaws
import Derived.ChangeArms
namespace Go.Proofs.Ytclobnojpmgmaaa
open Go.RowKit
theorem readsStrs : Reads Try.prog 37 (sliceC strC) (fun l => 1 + (l.map fun s => s.length + 1).sum) := reads_slice (reads_string Try.underlying9 (by kernel_rfl)) Try.underlying37 (by kernel_rfl)
theorem readsLetter : Reads Try.prog 39 (pairC strC (pairC (sliceC strC) intC)) (fun p => (p.1.length + 1) + (1 + (p.2.1.map fun s => s.length + 1).sum) + 1) :=
  reads_struct3 (C := strC) (D := sliceC strC) (E := intC) (bc := fun s => s.length + 1) (bd := fun l => 1 + (l.map fun s => s.length + 1).sum) (be := fun _ => 1) (reads_string Try.underlying9 (by kernel_rfl)) readsStrs (reads_int Try.underlying3 (by kernel_rfl)) Try.underlying39 (by kernel_rfl) rfl rfl rfl
theorem readsLetters : Reads Try.prog 22 (sliceC letterC) (fun l => 1 + (l.map fun p => (p.1.length + 1) + (1 + (p.2.1.map fun s => s.length + 1).sum) + 1).sum) := reads_slice readsLetter Try.underlying22 (by kernel_rfl)
theorem slice_sized {P : Program} {t e : TypeId} {H : Type} {enc : TypeId × Value → H} {w : World} {base : Nat} {sp : Nat → Bool} {held : Bool} {a : Option Addr} {n c : Nat} {d : DataW H} {p : List MemPlace} (ht : P.underlying t = some (.slice e))
    (h : ∃ fuel, DataW.trod enc P w base sp held fuel t (Value.slice a n c).cells.toList = some (d, p)) : n = 0 ∨ ∃ elems rest, d = .slice elems rest ∧ n = elems.length := by
  obtain ⟨fuel, h⟩ := h
  rcases DataW.trod_slice ht h with ⟨h1, _⟩ | ⟨a', len, cap, elems, rest, m, _, h1, h2, _, hl, hm, hlen, hel, _, _⟩
  · left
    simp [Value.cells] at h1
    exact h1.2.1
  · right
    simp [Value.cells] at h1
    injection h2 with h2 h3
    exact ⟨_, _, h2, by rw [h1.2.1, List.length_map, hlen]⟩
theorem SlR.len_eq {α : Type} {C : Codec α} {M : Nat → Prop} {w : World} {a : Option Addr} {n c : Nat} {l : List α} (h : SlR C M w (.slice a n c) l) : l.length = n := by
  obtain ⟨_, _, e, _, _⟩ := h.form
  injection e with _ e _
  exact e.symm
theorem tarrive_row (v : Value) (l : List Letter) (w : World) (h : SlR letterC M0 w v l) (hsz : l.length * 48 ≤ 140737488351232) :
    Calls Try.prog 4 #[v] w fun e w' => e = .returned (.bool true) ∧ Below w.heap.size w w' := tarrive_walk v l w h (by omega)
theorem tlater_row (v0 v1 : Value) (l : List Letter) (refs : List Str) (w : World) (h : SlR letterC M0 w v0 l) (h1 : SlR strC M0 w v1 refs) (hsz : l.length * 48 ≤ 140737488351232) :
    Calls Try.prog 6 #[v0, v1] w fun e w' => e = .returned (.bool true) ∧ Below w.heap.size w w' := tlater_walk v0 v1 l refs w h h1 (by omega)
end Go.Proofs.Ytclobnojpmgmaaa

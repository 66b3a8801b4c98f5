/-
  ThreadsLaterLettersChangeNothing: the plain law.
-/
import Derived.Test.YtclobnojpmgmaaaThP
import Derived.Test.YtclobnojpmgmaaaThE
namespace Go.Proofs.Ytclobnojpmgmaaa
set_option linter.unusedVariables false
theorem lastOf_more (y : Letter) (r : Str) (h : r ≠ y.1) : ∀ l : List Letter, Th.lastOf (l ++ [y]) r = Th.lastOf l r
  | [] => by
    have : (y.1 == r) = false := by simpa using fun e => h e.symm
    simp [Th.lastOf, this]
  | x :: l => by
    rw [List.cons_append, Th.lastOf, Th.lastOf, lastOf_more y r h l]
theorem refTo_more (l : List Letter) (y x : Letter) (r : Str) (h : r ≠ y.1) : Th.refTo (l ++ [y]) x r = Th.refTo l x r := by
  unfold Th.refTo
  rw [lastOf_more y r h]
  cases hl : Th.lastOf l r with
  | none => rfl
  | some k =>
    have hk := lastOf_lt _ _ _ hl
    dsimp only
    rw [List.getElem?_append_left hk]
theorem foldl_same {α β : Type} (f g : β → α → β) : ∀ (l : List α) (b : β), (∀ a ∈ l, ∀ b, f b a = g b a) → l.foldl f b = l.foldl g b
  | [], _, _ => rfl
  | a :: l, b, h => by
    rw [List.foldl_cons, List.foldl_cons, h a List.mem_cons_self b]
    exact foldl_same f g l _ fun a' ha' => h a' (List.mem_cons_of_mem _ ha')
theorem parent_more (l : List Letter) (y x : Letter) (h : y.1 ∉ x.2.1) : Th.parentOf (l ++ [y]) x = Th.parentOf l x := by
  unfold Th.parentOf
  exact foldl_same _ _ _ _ fun r hr b => by rw [refTo_more l y x r (fun e => h (e ▸ hr))]
theorem parents_more (l : List Letter) (y : Letter) (h : ∀ x ∈ l, y.1 ∉ x.2.1) : (Th.parentsF (l ++ [y])).take l.length = Th.parentsF l := by
  unfold Th.parentsF
  rw [List.map_append, List.take_append_of_le_length (by simp), List.take_of_length_le (by simp)]
  exact List.map_congr_left fun x hx => parent_more l y x (h x hx)
end Go.Proofs.Ytclobnojpmgmaaa

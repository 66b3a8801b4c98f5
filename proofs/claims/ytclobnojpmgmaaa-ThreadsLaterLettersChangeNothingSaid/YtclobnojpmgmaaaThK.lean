/-
  The order of letters; the kids of a letter; the answers shown.
-/
import Derived.Test.YtclobnojpmgmaaaThG
namespace Go.Proofs.Ytclobnojpmgmaaa
namespace Th
theorem earlier_irrefl (x : Letter) : earlier x x = false := by
  unfold earlier
  simp [ltS_irrefl]
theorem earlier_iff (x y : Letter) : earlier x y = true ↔ x.2.2 < y.2.2 ∨ (x.2.2 = y.2.2 ∧ ltS x.1 y.1 = true) := by
  unfold earlier; simp
theorem earlier_not (x y : Letter) : earlier x y = false ↔ y.2.2 < x.2.2 ∨ (x.2.2 = y.2.2 ∧ ltS x.1 y.1 = false) := by
  rw [← Bool.not_eq_true, earlier_iff]
  cases h : ltS x.1 y.1 <;> simp <;> omega
theorem earlier_trans (x y z : Letter) (h1 : earlier x y = true) (h2 : earlier y z = true) : earlier x z = true := by
  rw [earlier_iff] at *
  rcases h1 with h1 | ⟨h1, h3⟩ <;> rcases h2 with h2 | ⟨h2, h4⟩
  · left; omega
  · left; omega
  · left; omega
  · right; exact ⟨by omega, ltS_trans h3 h4⟩
theorem earlier_total (x y : Letter) (h1 : earlier x y = false) (h2 : earlier y x = false) : x.1 = y.1 := by
  rw [earlier_not] at *
  rcases ltS_total x.1 y.1 with h | h | h
  · rcases h1 with h1 | ⟨h1, h3⟩
    · rcases h2 with h2 | ⟨h2, h4⟩ <;> omega
    · rw [h] at h3; cases h3
  · exact h
  · rcases h2 with h2 | ⟨h2, h4⟩
    · rcases h1 with h1 | ⟨h1, h3⟩ <;> omega
    · rw [h] at h4; cases h4
theorem earlier_ntrans (x y z : Letter) (h1 : earlier x y = false) (h2 : earlier y z = false) : earlier x z = false := by
  rw [earlier_not] at *
  rcases h1 with h1 | ⟨h1, h3⟩ <;> rcases h2 with h2 | ⟨h2, h4⟩
  · left; omega
  · left; omega
  · left; omega
  · right
    refine ⟨by omega, ?_⟩
    cases h : ltS x.1 z.1 with
    | false => rfl
    | true =>
      rcases ltS_total x.1 y.1 with h5 | h5 | h5
      · rw [h5] at h3; cases h3
      · rw [h5] at h; rw [h] at h4; cases h4
      · rw [ltS_trans h5 h] at h4; cases h4
/-- the kids of a place (-1: the roots), in rising order of their places -/
def kids (l : List Letter) (p : Int) : List Nat := (List.range l.length).filter fun k => (parentsF l)[k]? == some p
def later (l : List Letter) (a b : Nat) : Bool := match l[a]?, l[b]? with
  | some x, some y => earlier x y
  | _, _ => false
/-- the kids as they are shown -/
def kidsS (l : List Letter) (p : Int) : List Nat := (kids l p).mergeSort fun a b => !later l b a
def shownF (l : List Letter) : Nat → Int → Int → List (Nat × Int)
  | 0, _, _ => []
  | f + 1, p, d => (kidsS l p).flatMap fun k => (k, d) :: shownF l f (k : Int) (d + 1)
end Th
end Go.Proofs.Ytclobnojpmgmaaa

/-
  The order of texts: plain Lean.
-/
import Derived.Test.YtclobnojpmgmaaaBase
import Derived.Sort.Walk0
import Derived.Lib.Bytealg
namespace Go.Proofs.Ytclobnojpmgmaaa

abbrev Str := List UInt8
/-- One text is ahead of another. -/
def ltS (a b : Str) : Bool := Op.bytesLess a b
theorem ltS_iff (a b : Str) : ltS a b = true ↔ a < b := by rw [ltS, bytesLess_eq]; simp
theorem ltS_irrefl (a : Str) : ltS a a = false := by
  cases h : ltS a a with
  | false => rfl
  | true => exact absurd ((ltS_iff a a).1 h) (List.lt_irrefl a)
theorem ltS_trans {a b c : Str} (h : ltS a b = true) (k : ltS b c = true) : ltS a c = true := (ltS_iff _ _).2 (List.lt_trans ((ltS_iff _ _).1 h) ((ltS_iff _ _).1 k))
theorem ltS_total (a b : Str) : ltS a b = true ∨ a = b ∨ ltS b a = true := by
  rcases Std.Trichotomous.rel_or_eq_or_rel_swap (r := (· < · : Str → Str → Prop)) (a := a) (b := b) with h | h | h
  · exact .inl ((ltS_iff _ _).2 h)
  · exact .inr (.inl h)
  · exact .inr (.inr ((ltS_iff _ _).2 h))
theorem ltS_asymm {a b : Str} (h : ltS a b = true) : ltS b a = false := by
  cases k : ltS b a with
  | false => rfl
  | true => have := ltS_trans h k; rw [ltS_irrefl] at this; cases this
theorem ltS_ne {a b : Str} (h : ltS a b = true) : a ≠ b := fun e => by subst e; rw [ltS_irrefl] at h; cases h
theorem cmp_eqS : ∀ a b : Str, Lib.compareBytes a b = if ltS a b then -1 else if a = b then 0 else 1
  | [], [] => rfl
  | [], _ :: _ => rfl
  | _ :: _, [] => rfl
  | x :: a, y :: b => by
    have ih := cmp_eqS a b
    have e1 : ltS (x :: a) (y :: b) = (decide (x < y) || (x == y && ltS a b)) := rfl
    rw [Lib.compareBytes, ih, e1]
    by_cases h1 : x < y
    · simp [h1]
    · by_cases h2 : y < x
      · have : x ≠ y := fun e => by subst e; exact UInt8.lt_irrefl _ h2
        simp [h1, h2, this]
      · have : x = y := UInt8.le_antisymm (UInt8.not_lt.1 h2) (UInt8.not_lt.1 h1)
        subst this
        simp [UInt8.lt_irrefl]
end Go.Proofs.Ytclobnojpmgmaaa

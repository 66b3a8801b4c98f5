/-
  Contracts and plain facts, one after another: The order of texts: plain Lean; Words of a text: what the code and the reference compute, in plain lists of bytes.
-/
import Derived.Test.YtihhgmpanfboaaaGreatDoorBase
import Derived.Test.YtihhgmpanfboaaaGreatDoorSmPure
import Derived.Sort.Walk0
import Derived.Lib.Bytealg
import Derived.Lib.MapU
import Derived.Lib.TrimUEq
import Derived.Lib.IsU
import Derived.Lib.CaseU
import Derived.Lib.FieldsU
namespace Go.Proofs.YtihhgmpanfboaaaGreatDoor

abbrev Str := List UInt8
/-- One text is ahead of another. -/
def ltS (a b : Str) : Bool := Op.bytesLess a b
theorem ltS_iff (a b : Str) : ltS a b = true ↔ a < b := by rw [ltS, bytesLess_eq]; simp
theorem ltS_irrefl (a : Str) : ltS a a = false := by
  cases h : ltS a a with
  | false => rfl
  | true => exact absurd ((ltS_iff a a).1 h) (List.lt_irrefl a)
theorem ltS_trans {a b c : Str} (h : ltS a b = true) (k : ltS b c = true) : ltS a c = true := (ltS_iff _ _).2 (List.lt_trans ((ltS_iff _ _).1 h) ((ltS_iff _ _).1 k))
theorem ltS_total (a b : Str) : ltS a b = true ∨ a = b ∨ ltS b a = true := by
  rcases Std.Trichotomous.rel_or_eq_or_rel_swap (r := (· < · : Str → Str → Prop)) (a := a) (b := b) with h | h | h
  · exact .inl ((ltS_iff _ _).2 h)
  · exact .inr (.inl h)
  · exact .inr (.inr ((ltS_iff _ _).2 h))
theorem ltS_asymm {a b : Str} (h : ltS a b = true) : ltS b a = false := by
  cases k : ltS b a with
  | false => rfl
  | true => have := ltS_trans h k; rw [ltS_irrefl] at this; cases this
theorem ltS_ne {a b : Str} (h : ltS a b = true) : a ≠ b := fun e => by subst e; rw [ltS_irrefl] at h; cases h
theorem cmp_eqS : ∀ a b : Str, Lib.compareBytes a b = if ltS a b then -1 else if a = b then 0 else 1
  | [], [] => rfl
  | [], _ :: _ => rfl
  | _ :: _, [] => rfl
  | x :: a, y :: b => by
    have ih := cmp_eqS a b
    have e1 : ltS (x :: a) (y :: b) = (decide (x < y) || (x == y && ltS a b)) := rfl
    rw [Lib.compareBytes, ih, e1]
    by_cases h1 : x < y
    · simp [h1]
    · by_cases h2 : y < x
      · have : x ≠ y := fun e => by subst e; exact UInt8.lt_irrefl _ h2
        simp [h1, h2, this]
      · have : x = y := UInt8.le_antisymm (UInt8.not_lt.1 h2) (UInt8.not_lt.1 h1)
        subst this
        simp [UInt8.lt_irrefl]
end Go.Proofs.YtihhgmpanfboaaaGreatDoor
namespace Go.Proofs.YtihhgmpanfboaaaGreatDoor
namespace Sm
open Go.Lib
/-- a character belongs to words -/
def isL (r : Nat) : Bool := isLetterU (r : Int) || isDigitU (r : Int) || isMarkU (r : Int)
/-- one character in lower case -/
def lowC (r : Nat) : List UInt8 := encodeRune (toLowerU (r : Int))
def lowGo : Nat → List UInt8 → List UInt8
  | 0, _ => []
  | n + 1, l => if l = [] then [] else lowC (decodeL l).1 ++ lowGo n (l.drop (decodeL l).2)
def lower (l : List UInt8) : List UInt8 := lowGo l.length l
def wordsGo : Nat → List UInt8 → List UInt8 → List (List UInt8)
  | 0, cur, _ => if cur = [] then [] else [cur]
  | f + 1, cur, l =>
    if l = [] then (if cur = [] then [] else [cur])
    else if isL (decodeL l).1 then wordsGo f (cur ++ l.take (decodeL l).2) (l.drop (decodeL l).2)
    else (if cur = [] then [] else [cur]) ++ wordsGo f [] (l.drop (decodeL l).2)
def rawWords (l : List UInt8) : List (List UInt8) := wordsGo l.length [] l
def words (l : List UInt8) : List (List UInt8) := (rawWords l).map lower
def stems (l : List UInt8) : List (List UInt8) := (words l).map stem

theorem width_le {l : List UInt8} (h : l ≠ []) : (decodeL l).2 ≤ l.length := by
  rw [decodeL_N]
  exact decodeN_le_n' _ _ _ _ _ (List.length_pos_iff.2 h)
theorem lowGo_nil (f : Nat) : lowGo f [] = [] := by cases f <;> simp [lowGo]
theorem wordsGo_nil (f : Nat) (cur : List UInt8) : wordsGo f cur [] = if cur = [] then [] else [cur] := by cases f <;> simp [wordsGo]
theorem lowGo_fuel : ∀ (f g : Nat) (l : List UInt8), l.length ≤ f → l.length ≤ g → lowGo f l = lowGo g l
  | 0, g, l, hf, _ => by rw [List.eq_nil_of_length_eq_zero (by omega : l.length = 0), lowGo_nil, lowGo_nil]
  | f + 1, 0, l, _, hg => by rw [List.eq_nil_of_length_eq_zero (by omega : l.length = 0), lowGo_nil, lowGo_nil]
  | f + 1, g + 1, l, hf, hg => by
    by_cases hne : l = []
    · rw [hne, lowGo_nil, lowGo_nil]
    · have hw := decodeL_width l
      simp only [lowGo, if_neg hne]
      rw [lowGo_fuel f g _ (by rw [List.length_drop]; omega) (by rw [List.length_drop]; omega)]
theorem wordsGo_fuel : ∀ (f g : Nat) (cur l : List UInt8), l.length ≤ f → l.length ≤ g → wordsGo f cur l = wordsGo g cur l
  | 0, g, cur, l, hf, _ => by rw [List.eq_nil_of_length_eq_zero (by omega : l.length = 0), wordsGo_nil, wordsGo_nil]
  | f + 1, 0, cur, l, _, hg => by rw [List.eq_nil_of_length_eq_zero (by omega : l.length = 0), wordsGo_nil, wordsGo_nil]
  | f + 1, g + 1, cur, l, hf, hg => by
    by_cases hne : l = []
    · rw [hne, wordsGo_nil, wordsGo_nil]
    · have hw := decodeL_width l
      simp only [wordsGo, if_neg hne]
      split
      · exact wordsGo_fuel f g _ _ (by rw [List.length_drop]; omega) (by rw [List.length_drop]; omega)
      · rw [wordsGo_fuel f g _ _ (by rw [List.length_drop]; omega) (by rw [List.length_drop]; omega)]
/-- what is left, from a state -/
def wordsFrom (cur l : List UInt8) : List (List UInt8) := wordsGo l.length cur l
theorem wordsFrom_nil (cur : List UInt8) : wordsFrom cur [] = if cur = [] then [] else [cur] := wordsGo_nil _ _
theorem wordsFrom_step {cur l : List UInt8} (h : l ≠ []) : wordsFrom cur l =
    if isL (decodeL l).1 then wordsFrom (cur ++ l.take (decodeL l).2) (l.drop (decodeL l).2)
    else (if cur = [] then [] else [cur]) ++ wordsFrom [] (l.drop (decodeL l).2) := by
  have hw := decodeL_width l
  have hl := List.length_pos_iff.2 h
  unfold wordsFrom
  rw [show l.length = (l.length - 1) + 1 by omega]
  simp only [wordsGo, if_neg h]
  rw [wordsGo_fuel (l.length - 1) (l.drop (decodeL l).2).length _ _ (by rw [List.length_drop]; omega) (Nat.le_refl _),
    wordsGo_fuel (l.length - 1) (l.drop (decodeL l).2).length _ _ (by rw [List.length_drop]; omega) (Nat.le_refl _)]
theorem lower_nil : lower [] = [] := rfl
theorem lower_step {l : List UInt8} (h : l ≠ []) : lower l = lowC (decodeL l).1 ++ lower (l.drop (decodeL l).2) := by
  have hw := decodeL_width l
  have hl := List.length_pos_iff.2 h
  unfold lower
  rw [show l.length = (l.length - 1) + 1 by omega]
  simp only [lowGo, if_neg h]
  rw [lowGo_fuel (l.length - 1) (l.drop (decodeL l).2).length _ (by rw [List.length_drop]; omega) (Nat.le_refl _)]
theorem lowC_len (r : Nat) : 1 ≤ (lowC r).length ∧ (lowC r).length ≤ 4 := by
  unfold lowC
  rw [← runeCells_length]
  exact runeCells_le _
theorem lower_len : ∀ (n : Nat) (l : List UInt8), l.length ≤ n → (lower l).length ≤ 4 * l.length
  | 0, l, h => by rw [List.eq_nil_of_length_eq_zero (by omega : l.length = 0)]; exact Nat.le_refl _
  | n + 1, l, h => by
    by_cases hne : l = []
    · rw [hne]; exact Nat.le_refl _
    · have hw := decodeL_width l
      have hwl := width_le hne
      have ih := lower_len n (l.drop (decodeL l).2) (by rw [List.length_drop]; omega)
      have hc := lowC_len (decodeL l).1
      rw [lower_step hne, List.length_append]
      rw [List.length_drop] at ih
      omega
/-- no word is empty, and together they are not longer than the text -/
theorem words_sum : ∀ (n : Nat) (cur l : List UInt8), l.length ≤ n → ((wordsFrom cur l).map List.length).sum ≤ cur.length + l.length ∧ ∀ x ∈ wordsFrom cur l, x ≠ []
  | 0, cur, l, h => by
    rw [List.eq_nil_of_length_eq_zero (by omega : l.length = 0), wordsFrom_nil]
    split <;> simp_all
  | n + 1, cur, l, h => by
    by_cases hne : l = []
    · rw [hne, wordsFrom_nil]
      split <;> simp_all
    · have hw := decodeL_width l
      have hwl := width_le hne
      rw [wordsFrom_step hne]
      split
      · have ih := words_sum n (cur ++ l.take (decodeL l).2) (l.drop (decodeL l).2) (by rw [List.length_drop]; omega)
        refine ⟨?_, ih.2⟩
        have := ih.1
        rw [List.length_append, List.length_take, List.length_drop] at this
        omega
      · have ih := words_sum n [] (l.drop (decodeL l).2) (by rw [List.length_drop]; omega)
        have h1 := ih.1
        rw [List.length_drop] at h1
        split
        · rename_i hc
          refine ⟨?_, ih.2⟩
          rw [List.nil_append, hc]
          simp only [List.length_nil] at h1 ⊢
          omega
        · rename_i hc
          refine ⟨?_, ?_⟩
          · simp only [List.singleton_append, List.map_cons, List.sum_cons]
            simp only [List.length_nil] at h1
            omega
          · intro x hx
            rcases List.mem_append.1 hx with hx | hx
            · simp at hx; rw [hx]; exact hc
            · exact ih.2 x hx
end Sm
end Go.Proofs.YtihhgmpanfboaaaGreatDoor

/-
  Stems of words: what the code and the reference compute, in plain lists of bytes.
-/
import Derived.Lib.Strings
namespace Go.Proofs.YtnlhocbaighedaaGreatDoor
namespace Sm
/-- a rule: the ending, what comes in its place, the endings that bar it -/
structure Rule where
 ending : List UInt8
 to : List UInt8
 bars : List (List UInt8)
def rules : List Rule := [
 ⟨[105, 101, 115], [105], []⟩, ⟨[115, 115, 101, 115], [115, 115], []⟩, ⟨[110, 101, 115, 115], [], []⟩, ⟨[109, 101, 110, 116], [], []⟩, ⟨[105, 110, 103], [], []⟩,
 ⟨[101, 100, 108, 121], [], []⟩, ⟨[101, 100], [], []⟩, ⟨[108, 121], [], []⟩, ⟨[115], [], [[115, 115], [117, 115], [105, 115]]⟩, ⟨[121], [105], []⟩]
def fits (r : Rule) (s : List UInt8) : Bool := Lib.hasSuffix s r.ending && decide (r.ending.length + 3 ≤ s.length) && !r.bars.any (Lib.hasSuffix s)
def cut (r : Rule) (s : List UInt8) : List UInt8 := s.take (s.length - r.ending.length) ++ r.to
/-- the word behind a rule -/
def applied (r : Rule) (s : List UInt8) : List UInt8 := if fits r s then cut r s else s
theorem applied_not {r : Rule} {s : List UInt8} (h : fits r s = false) : applied r s = s := by unfold applied; rw [h]; rfl
theorem applied_fits {r : Rule} {s : List UInt8} (h : fits r s = true) : applied r s = cut r s := by unfold applied; rw [if_pos h]
def vowels : List UInt8 := [97, 101, 105, 111, 117, 108, 115, 122]
def twice (s : List UInt8) : Bool := decide (4 ≤ s.length) && (s[s.length - 1]? == s[s.length - 2]?) && !(vowels.any fun v => s[s.length - 1]? == some v)
def tail (s : List UInt8) : List UInt8 := if twice s then s.take (s.length - 1) else s
def stepOf : List Rule → List UInt8 → List UInt8
 | [], s => tail s
 | r :: l, s => if fits r s then cut r s else stepOf l s
def step (s : List UInt8) : List UInt8 := stepOf rules s
def mu (s : List UInt8) : Nat := 2 * s.length + (if s.getLast? = some 121 then 1 else 0)
def rounds : Nat → List UInt8 → List UInt8
 | 0, s => s
 | n + 1, s => if step s = s then s else rounds n (step s)
def letters (s : List UInt8) : Bool := s.all fun c => decide (97 ≤ c) && decide (c ≤ 122)
def stem (s : List UInt8) : List UInt8 := if letters s = true ∧ s.length ≤ 60 then rounds (mu s) s else s

theorem cut_len {r : Rule} {s : List UInt8} (h : fits r s = true) : (cut r s).length + r.ending.length = s.length + r.to.length := by
 simp only [fits, Bool.and_eq_true, decide_eq_true_eq] at h
 simp only [cut, List.length_append, List.length_take]
 omega
theorem to_le {r : Rule} (hr : r ∈ rules) : r.to.length ≤ r.ending.length := by
 simp only [rules, List.mem_cons, List.mem_nil_iff, or_false] at hr
 rcases hr with rfl | rfl | rfl | rfl | rfl | rfl | rfl | rfl | rfl | rfl <;> simp
theorem stepOf_len : ∀ (l : List Rule), (∀ r ∈ l, r ∈ rules) → ∀ s : List UInt8, (stepOf l s).length ≤ s.length
 | [], _, s => by
  unfold stepOf tail
  split
  ·rw [List.length_take]; omega
  ·exact Nat.le_refl _
 | r :: l, hl, s => by
  unfold stepOf
  by_cases hf : fits r s = true
  ·rw [if_pos hf]
   have := cut_len hf
   have := to_le (hl r (.head _))
   omega
  ·rw [if_neg hf]
   exact stepOf_len l (fun r hr => hl r (.tail _ hr)) s
theorem step_len (s : List UInt8) : (step s).length ≤ s.length := stepOf_len rules (fun _ h => h) s
/-- what a rule yields is less by the measure -/
theorem cut_mu {r : Rule} {s : List UInt8} (h : fits r s = true) (hr : r ∈ rules) : mu (cut r s) < mu s := by
 have hl := cut_len h
 simp only [rules, List.mem_cons, List.mem_nil_iff, or_false] at hr
 have hy : r = ⟨[121], [105], []⟩ ∨ r.to.length < r.ending.length := by
  rcases hr with rfl | rfl | rfl | rfl | rfl | rfl | rfl | rfl | rfl | rfl <;> simp
 rcases hy with rfl | hy
 ·have h1 : s.getLast? = some 121 := by
   simp only [fits, Bool.and_eq_true, Lib.hasSuffix] at h
   obtain ⟨t, ht⟩ := List.isSuffixOf_iff_suffix.1 h.1.1
   rw [← ht]
   simp
  have h2 : (cut ⟨[121], [105], []⟩ s).getLast? = some 105 := by simp [cut]
  simp only [List.length_cons, List.length_nil] at hl
  unfold mu
  rw [h1, h2, if_pos rfl, if_neg (by decide)]
  omega
 ·unfold mu
  split <;> split <;> omega
theorem tail_mu {s : List UInt8} (h : tail s ≠ s) : mu (tail s) < mu s := by
 unfold tail at h ⊢
 by_cases ht : twice s = true
 ·rw [if_pos ht]
  have h4 : 4 ≤ s.length := by
   simp only [twice, Bool.and_eq_true, decide_eq_true_eq] at ht
   exact ht.1.1
  unfold mu
  simp only [List.length_take]
  split <;> split <;> omega
 ·rw [if_neg ht] at h
  exact absurd rfl h
theorem stepOf_mu : ∀ (l : List Rule), (∀ r ∈ l, r ∈ rules) → ∀ s : List UInt8, stepOf l s ≠ s → mu (stepOf l s) < mu s
 | [], _, s, h => tail_mu h
 | r :: l, hl, s, h => by
  unfold stepOf at h ⊢
  by_cases hf : fits r s = true
  ·rw [if_pos hf]
   exact cut_mu hf (hl r (.head _))
  ·rw [if_neg hf] at h ⊢
   exact stepOf_mu l (fun r hr => hl r (.tail _ hr)) s h
theorem step_mu {s : List UInt8} (h : step s ≠ s) : mu (step s) < mu s := stepOf_mu rules (fun _ h => h) s h
theorem rounds_more : ∀ (n m : Nat) (s : List UInt8), mu s ≤ n → mu s ≤ m → rounds n s = rounds m s
 | 0, 0, s, _, _ => rfl
 | 0, m + 1, s, h, _ => by
  unfold rounds
  by_cases hs : step s = s
  ·rw [if_pos hs]
  ·have := step_mu hs
   omega
 | n + 1, 0, s, _, h => by
  unfold rounds
  by_cases hs : step s = s
  ·rw [if_pos hs]
  ·have := step_mu hs
   omega
 | n + 1, m + 1, s, h1, h2 => by
  unfold rounds
  by_cases hs : step s = s
  ·rw [if_pos hs, if_pos hs]
  ·have := step_mu hs
   rw [if_neg hs, if_neg hs]
   exact rounds_more n m _ (by omega) (by omega)
theorem letters_take {s : List UInt8} (h : letters s = true) (n : Nat) : letters (s.take n) = true := by
 unfold letters at h ⊢
 rw [List.all_eq_true] at h ⊢
 exact fun x hx => h x (List.mem_of_mem_take hx)
theorem stepOf_letters : ∀ (l : List Rule), (∀ r ∈ l, r ∈ rules) → ∀ s : List UInt8, letters s = true → letters (stepOf l s) = true
 | [], _, s, h => by
  unfold stepOf tail
  split
  ·exact letters_take h _
  ·exact h
 | r :: l, hl, s, h => by
  unfold stepOf
  by_cases hf : fits r s = true
  ·rw [if_pos hf, cut]
   have h1 := letters_take h (s.length - r.ending.length)
   have h2 : letters r.to = true := by
    have hr := hl r (.head _)
    simp only [rules, List.mem_cons, List.mem_nil_iff, or_false] at hr
    rcases hr with rfl | rfl | rfl | rfl | rfl | rfl | rfl | rfl | rfl | rfl <;> decide
   unfold letters at h1 h2 ⊢
   rw [List.all_append, h1, h2]; rfl
  ·rw [if_neg hf]
   exact stepOf_letters l (fun r hr => hl r (.tail _ hr)) s h
theorem step_letters {s : List UInt8} (h : letters s = true) : letters (step s) = true := stepOf_letters rules (fun _ h => h) s h
/-- one round taken off -/
theorem rounds_step {s : List UInt8} (h : step s ≠ s) : rounds (mu s) s = rounds (mu (step s)) (step s) := by
 have hm := step_mu h
 rw [show mu s = (mu s - 1) + 1 from by omega]
 conv => lhs; unfold rounds
 rw [if_neg h]
 exact rounds_more _ _ _ (by omega) (by omega)
theorem rounds_fix {n : Nat} {s : List UInt8} (h : step s = s) : rounds n s = s := by
 cases n with
 | zero => rfl
 | succ n => unfold rounds; rw [if_pos h]
theorem stem_step {s : List UInt8} (hl : letters s = true) (h6 : s.length ≤ 60) : stem (step s) = stem s := by
 unfold stem
 have h1 := step_len s
 rw [if_pos ⟨step_letters hl, by omega⟩, if_pos ⟨hl, h6⟩]
 by_cases h : step s = s
 ·rw [h]
 ·rw [rounds_step h]
theorem rounds_len : ∀ (n : Nat) (s : List UInt8), (rounds n s).length ≤ s.length
 | 0, s => Nat.le_refl _
 | n + 1, s => by
  unfold rounds
  split
  ·exact Nat.le_refl _
  ·exact Nat.le_trans (rounds_len n _) (step_len s)
theorem stem_len (s : List UInt8) : (stem s).length ≤ s.length := by
 unfold stem
 split
 ·exact rounds_len _ _
 ·exact Nat.le_refl _
theorem stem_fix {s : List UInt8} (h : step s = s) : stem s = s := by
 unfold stem
 split
 ·rw [rounds_fix h]
 ·rfl
theorem stepOf_ne : ∀ (l : List Rule) (s : List UInt8), s ≠ [] → stepOf l s ≠ []
 | [], s, h => by
  unfold stepOf tail
  split
  ·rename_i ht
   simp only [twice, Bool.and_eq_true, decide_eq_true_eq] at ht
   intro e
   have := congrArg List.length e
   rw [List.length_take, List.length_nil] at this
   omega
  ·exact h
 | r :: l, s, h => by
  unfold stepOf
  by_cases hf : fits r s = true
  ·rw [if_pos hf, cut]
   simp only [fits, Bool.and_eq_true, decide_eq_true_eq] at hf
   intro e
   have := congrArg List.length e
   rw [List.length_append, List.length_take, List.length_nil] at this
   omega
  ·rw [if_neg hf]
   exact stepOf_ne l s h
theorem rounds_ne : ∀ (n : Nat) (s : List UInt8), s ≠ [] → rounds n s ≠ []
 | 0, s, h => h
 | n + 1, s, h => by
  unfold rounds
  split
  ·exact h
  ·exact rounds_ne n _ (stepOf_ne _ _ h)
theorem stem_ne {s : List UInt8} (h : s ≠ []) : stem s ≠ [] := by
 unfold stem
 split
 ·exact rounds_ne _ _ h
 ·exact h
end Sm
end Go.Proofs.YtnlhocbaighedaaGreatDoor

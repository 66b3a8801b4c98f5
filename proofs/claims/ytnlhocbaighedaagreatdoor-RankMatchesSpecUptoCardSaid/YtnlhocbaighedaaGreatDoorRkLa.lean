/-
  What search.Find answers, taken apart.
-/
import Derived.Test.YtnlhocbaighedaaGreatDoorRkSt
import Derived.Test.YtnlhocbaighedaaGreatDoorRkPl
namespace Go.Proofs.YtnlhocbaighedaaGreatDoor
open Go.RowKit
set_option linter.unusedVariables false
theorem findR_parts {x : Ix.Idx} {q : Q} (h : (Sr.findR x q).2.1 = 0) : Ix.Canon x ∧ (Q.fault q).1 = 0 ∧ (Sr.findR x q).1 = Sr.foundF x q := by
 unfold Sr.findR at h ⊢
 by_cases h1 : (Ix.indexF x).1 ≠ 0
 ·rw [if_pos h1] at h; exact absurd h h1
 ·rw [if_neg h1] at h ⊢
  have h2 : (Ix.indexF x).1 = 0 := by simpa using h1
  by_cases h3 : (Q.fault q).1 ≠ 0
  ·rw [if_pos h3] at h; exact absurd h h3
  ·rw [if_neg h3]
   exact ⟨(Ix.indexF_zero x).1 h2, by simpa using h3, rfl⟩
namespace Rk
theorem findR_zero (x : Ix.Idx) (q : Q) (h : (Sr.findR x q).2.1 = 0) : (Sr.findR x q).2.2 = 0 := by
 unfold Sr.findR at h ⊢
 by_cases h1 : (Ix.indexF x).1 ≠ 0
 ·rw [if_pos h1] at h; exact absurd h h1
 ·rw [if_neg h1] at h ⊢
  by_cases h3 : (Q.fault q).1 ≠ 0
  ·rw [if_pos h3] at h; exact absurd h h3
  ·rw [if_neg h3]
theorem findR_few (x : Ix.Idx) (q : Q) : (Sr.findR x q).1.length ≤ 400000 := by
 by_cases h : (Sr.findR x q).2.1 = 0
 ·obtain ⟨h1, _, h3⟩ := findR_parts h
  rw [h3]
  have := List.length_filter_le (fun id => Sr.findsF 8 x q id) x.1
  have := h1.few
  unfold Sr.foundF
  omega
 ·have : (Sr.findR x q).1 = [] := by
   unfold Sr.findR at h ⊢
   by_cases h1 : (Ix.indexF x).1 ≠ 0
   ·rw [if_pos h1]
   ·rw [if_neg h1] at h ⊢
    by_cases h3 : (Q.fault q).1 ≠ 0
    ·rw [if_pos h3]
    ·rw [if_neg h3] at h; exact absurd rfl h
  rw [this]
  simp
end Rk
end Go.Proofs.YtnlhocbaighedaaGreatDoor

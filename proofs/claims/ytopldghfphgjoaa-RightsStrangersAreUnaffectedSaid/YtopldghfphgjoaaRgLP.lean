/-
  Plain lemmas behind the statement that the rights match the reference.
-/
import Derived.Test.YtopldghfphgjoaaSet
import Derived.Test.YtopldghfphgjoaaRg9
namespace Go.Proofs.Ytopldghfphgjoaa
theorem groups_user {l : List Group} (h : (groupsF l).1 = 0) : l.length ≤ 60 ∧ ∀ g ∈ l, userF g.1 = true ∧ g.1.length ≤ 60 ∧ g.2.length ≤ 300 ∧ ∀ s ∈ g.2, userF s = true := by
  unfold groupsF at h
  split at h
  · cases h
  · refine ⟨by omega, fun g hg => ?_⟩
    have hc : ∀ i c, grpErr l i = some c → c ≠ 0 := fun i c hc => by
      unfold grpErr at hc
      split at hc
      · cases hc
      · split at hc
        · cases hc; decide
        · split at hc
          · cases hc; decide
          · split at hc
            · cases hc; decide
            · split at hc
              · cases hc; decide
              · cases hc
    obtain ⟨i, hi, rfl⟩ := List.getElem_of_mem hg
    have hn := scan_code hc h i hi
    unfold grpErr at hn
    rw [List.getElem?_eq_getElem hi] at hn
    simp only at hn
    split at hn
    · cases hn
    · split at hn
      · cases hn
      · split at hn
        · cases hn
        · split at hn
          · cases hn
          · rename_i h1 _ h3 h4
            have hu : userF l[i].1 = true := by simpa using h1
            have hl := hu
            unfold userF at hl
            simp only [Bool.and_eq_true, decide_eq_true_eq] at hl
            refine ⟨hu, hl.2.2, by omega, fun s hs => ?_⟩
            cases hq : userF s with
            | true => rfl
            | false => exact absurd (List.any_eq_true.2 ⟨s, hs, by simp [hq]⟩) h4

theorem grantErr_ne {l : List Grant} : ∀ i c, grantErr l i = some c → c ≠ 0 := fun i c hc => by
  unfold grantErr at hc
  split at hc
  · cases hc
  · split at hc
    · cases hc; decide
    · split at hc
      · cases hc; decide
      · split at hc
        · cases hc
        · split at hc
          · cases hc
          · split at hc
            · cases hc; decide
            · cases hc
theorem grants_zero {l : List Grant} (h : (grantsF l).1 = 0) : grantsF l = (0, 0) := by
  unfold grantsF at h ⊢
  split at h
  · cases h
  · rename_i hl
    rw [if_neg hl]
    exact scan_none fun j hj => scan_code grantErr_ne h j hj

theorem of_parts {gs : List Group} {l : List Grant} {user : Str} {on o1 o2 a1 a2 b1 b2 f1 f2 g1 g2 : Int} (hO : ofR gs l user = (on, o1, o2)) (ha : groupsF gs = (a1, a2)) (hb : grantsF l = (b1, b2))
    (hf : (if a1 = 0 then (b1, b2) else (a1, a2)) = (f1, f2)) (hg : (if f1 = 0 ∧ userF user = false then (10, -3) else (f1, f2)) = (g1, g2)) :
    g1 = o1 ∧ g2 = o2 ∧ (g1 ≠ 0 → on = 0) ∧ (g1 = 0 → on = ((bitsF (refBit gs l user) 6 : Nat) : Int) ∧ (groupsF gs).1 = 0 ∧ (grantsF l).1 = 0) := by
  unfold ofR at hO
  rw [ha, hb] at hO
  dsimp only at hO
  by_cases h1 : a1 = 0
  · rw [if_pos h1] at hf
    injection hf with e1 e2
    subst e1 e2
    rw [if_neg (by simpa using h1)] at hO
    by_cases h2 : b1 = 0
    · rw [if_neg (by simpa using h2)] at hO
      cases hu : userF user with
      | false =>
        rw [hu, if_pos ⟨h2, rfl⟩] at hg
        rw [hu, if_pos rfl] at hO
        injection hO with e1 e2; injection e2 with e2 e3
        injection hg with e4 e5
        subst e1 e2 e3 e4 e5
        exact ⟨rfl, rfl, fun _ => rfl, fun h => by cases h⟩
      | true =>
        rw [hu, if_neg (by simp)] at hg
        rw [hu, if_neg (by simp)] at hO
        injection hO with e1 e2; injection e2 with e2 e3
        injection hg with e4 e5
        subst e1 e2 e3 e4 e5
        have hz : b2 = 0 := by
          have := grants_zero (l := l) (by rw [hb]; exact h2)
          rw [hb] at this
          injection this
        exact ⟨h2, hz, fun h => absurd h2 h, fun _ => ⟨by rw [rights_eq gs l user hu (small64_of (by rw [hb]; exact h2))], by rw [ha]; exact h1, by rw [hb]; exact h2⟩⟩
    · rw [if_pos (by simpa using h2)] at hO
      rw [if_neg (fun h => h2 h.1)] at hg
      injection hO with e1 e2; injection e2 with e2 e3
      injection hg with e4 e5
      subst e1 e2 e3 e4 e5
      exact ⟨rfl, rfl, fun _ => rfl, fun h => absurd h h2⟩
  · rw [if_neg h1] at hf
    injection hf with e1 e2
    subst e1 e2
    rw [if_pos (by simpa using h1)] at hO
    rw [if_neg (fun h => h1 h.1)] at hg
    injection hO with e1 e2; injection e2 with e2 e3
    injection hg with e4 e5
    subst e1 e2 e3 e4 e5
    exact ⟨rfl, rfl, fun _ => rfl, fun h => absurd h h1⟩
theorem set_parts {l : List Grant} {xs : Str} {xn : Bool} {xr : Int} {sl : List Grant} {s1 s2 b1 b2 f1 f2 g1 g2 : Int} (hS : setR l (xs, xn, xr) = (sl, s1, s2)) (hb : grantsF l = (b1, b2))
    (hf : (if b1 = 0 ∧ whoF xs = false then (10, -3) else (b1, b2)) = (f1, f2)) (hg : (if f1 = 0 ∧ ¬ (0 ≤ xr ∧ xr ≤ 63) then (3, -3) else (f1, f2)) = (g1, g2)) :
    (g1 ≠ 0 → g1 = s1 ∧ g2 = s2 ∧ sl = []) ∧ (g1 = 0 → (grantsF l).1 = 0 ∧ (if 60 < (grantedF l (xs, xn, xr)).length then ([], 2, -2) else (grantedF l (xs, xn, xr), g1, g2)) = (sl, s1, s2)) := by
  unfold setR at hS
  rw [hb] at hS
  dsimp only at hS
  by_cases h1 : b1 = 0
  · rw [if_neg (by simpa using h1)] at hS
    have hz : b2 = 0 := by
      have := grants_zero (l := l) (by rw [hb]; exact h1)
      rw [hb] at this
      injection this
    cases hw : whoF xs with
    | false =>
      rw [hw, if_pos ⟨h1, rfl⟩] at hf
      rw [hw, if_pos rfl] at hS
      injection hf with e1 e2
      subst e1 e2
      rw [if_neg (fun h => by cases h.1)] at hg
      injection hg with e1 e2
      subst e1 e2
      injection hS with e1 e2; injection e2 with e2 e3
      exact ⟨fun _ => ⟨e2, e3, e1.symm⟩, fun h => by cases h⟩
    | true =>
      rw [hw, if_neg (by simp)] at hf hS
      injection hf with e1 e2
      subst e1 e2
      by_cases hr : 0 ≤ xr ∧ xr ≤ 63
      · rw [if_neg (fun h => h.2 hr)] at hg
        rw [if_neg (by omega)] at hS
        injection hg with e1 e2
        subst e1 e2
        exact ⟨fun h => absurd h1 h, fun _ => ⟨by rw [hb]; exact h1, by rw [h1, hz]; exact hS⟩⟩
      · rw [if_pos ⟨h1, hr⟩] at hg
        rw [if_pos (by omega)] at hS
        injection hg with e1 e2
        subst e1 e2
        injection hS with e1 e2; injection e2 with e2 e3
        exact ⟨fun _ => ⟨e2, e3, e1.symm⟩, fun h => by cases h⟩
  · rw [if_pos (by simpa using h1)] at hS
    rw [if_neg (fun h => h1 h.1)] at hf
    injection hf with e1 e2
    subst e1 e2
    rw [if_neg (fun h => h1 h.1)] at hg
    injection hg with e1 e2
    subst e1 e2
    injection hS with e1 e2; injection e2 with e2 e3
    exact ⟨fun _ => ⟨e2, e3, e1.symm⟩, fun h => absurd h h1⟩
end Go.Proofs.Ytopldghfphgjoaa

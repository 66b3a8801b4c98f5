/-
  The step of the children map.
-/
import Derived.Test.YtclobnojpmgmaaaThU
namespace Go.Proofs.Ytclobnojpmgmaaa
open Go.RowKit
set_option linter.unusedVariables false
def rowOf (m : Int → Option Value) (s : Int) : Value := (m s).getD (.slice none 0 0)
theorem look_row {w : World} {b : Nat} {m : Int → Option Value} (hm : MapAt (.int .i64) intK w b m) (s : Int) : (Instr.lookup 57 (.map (some b)) (.int .i64 s) false).run Try.prog w = .ok (rowOf m s) w := by
  unfold rowOf
  cases h : m s with
  | none => exact hm.look_none Try.underlying57 Try.underlying3 (zero_ints w) (k := s) h false
  | some v => exact hm.look_some Try.underlying57 Try.underlying3 (k := s) h false
theorem KidRows.own {P : List Int} {k B : Nat} {w : World} {m : Int → Option Value} (h : KidRows P k B w m) (s : Int) : Own intC M0 w B 3 (rowOf m s) ((Th.kidsTo P k s).map fun (j : Nat) => (j : Int)) := by
  by_cases hs : Th.kidsTo P k s = []
  · unfold rowOf
    rw [h.miss s hs, hs]
    exact Own.nil _ _ _ _ _
  · obtain ⟨v, h1, h2⟩ := h.row s hs
    unfold rowOf
    rw [h1]
    exact h2
theorem KidRows.step {P : List Int} {k B bm : Nat} {w w1 w2 : World} {m : Int → Option Value} {s : Int} {v' : Value} {L : List Int} (h : KidRows P k B w m) (hs : P[k]? = some s) (hg : w.grownBy w1 (rowOf m s).ownBlock)
    (hL : L = (Th.kidsTo P k s).map (fun (j : Nat) => (j : Int)) ++ [(k : Int)]) (ho : Own intC M0 w1 B 3 v' L) (hf : v'.ownBlock = (rowOf m s).ownBlock ∨ ∃ f, v'.ownBlock = some f ∧ w.heap.size ≤ f) (hg2 : w1.grownBy w2 (some bm)) (hbm : bm < B) :
    KidRows P (k + 1) B w2 (updM m s v') := by
  have hself : Th.kidsTo P (k + 1) s = Th.kidsTo P k s ++ [k] := by rw [kidsTo_succ, hs]; simp
  have hoth : ∀ s', s' ≠ s → Th.kidsTo P (k + 1) s' = Th.kidsTo P k s' := fun s' hne => by
    rw [kidsTo_succ, hs]
    have : (some s == some s') = false := by simpa using fun e => hne e.symm
    rw [this]
    simp
  have hlt : ∀ s' v'', m s' = some v'' → ∀ b, v''.ownBlock = some b → b < w.heap.size ∧ B ≤ b := fun s' v'' hm b hb => by
    have hs' : Th.kidsTo P k s' ≠ [] := fun e => by rw [h.miss s' e] at hm; cases hm
    obtain ⟨v3, h1, h2⟩ := h.row s' hs'
    rw [hm] at h1
    injection h1 with h1
    subst h1
    exact ⟨h2.lt b hb, h2.base b hb⟩
  have hap : ∀ s' v'', s' ≠ s → m s' = some v'' → ∀ b, v''.ownBlock = some b → (rowOf m s).ownBlock ≠ some b := fun s' v'' hne hm b hb e => by
    cases hms : m s with
    | none =>
      unfold rowOf at e
      rw [hms] at e
      cases e
    | some v =>
      unfold rowOf at e
      rw [hms] at e
      exact h.apart s' s v'' v hm hms hne b hb e
  have hap' : ∀ s' v'', s' ≠ s → m s' = some v'' → ∀ b, v''.ownBlock = some b → v'.ownBlock ≠ some b := fun s' v'' hne hm b hb e => by
    rcases hf with h1 | ⟨f, h1, h2⟩
    · exact hap s' v'' hne hm b hb (h1 ▸ e)
    · rw [h1] at e
      injection e with e
      have := (hlt s' v'' hm b hb).1
      omega
  refine ⟨fun s' hs' => ?_, fun s' hs' => ?_, fun s1 s2 v1 v2 h1 h2 hne b hb => ?_⟩
  · by_cases e : s' = s
    · subst e
      rw [hself] at hs'
      simp at hs'
    · rw [hoth s' e] at hs'
      unfold updM
      rw [if_neg e]
      exact h.miss s' hs'
  · by_cases e : s' = s
    · subst e
      refine ⟨v', by unfold updM; rw [if_pos rfl], ?_⟩
      rw [hself, List.map_append, ← (show [(k : Int)] = [k].map (fun (j : Nat) => (j : Int)) from rfl), ← hL]
      exact ho.flatI fun b hb => hg2.block b (ho.lt b hb) fun e => by
        injection e with e
        have := ho.base b hb
        omega
    · rw [hoth s' e] at hs' ⊢
      obtain ⟨v'', h1, h2⟩ := h.row s' hs'
      refine ⟨v'', by unfold updM; rw [if_neg e]; exact h1, ?_⟩
      refine h2.flatI fun b hb => ?_
      have h3 := hlt s' v'' h1 b hb
      refine (hg2.block b (Nat.lt_of_lt_of_le h3.1 hg.size) fun e => ?_).trans (hg.block b h3.1 fun e' => hap s' v'' e h1 b hb e'.symm)
      injection e with e
      omega
  · unfold updM at h1 h2
    by_cases e1 : s1 = s
    · subst e1
      rw [if_pos rfl] at h1
      injection h1 with h1
      subst h1
      rw [if_neg (fun e => hne e.symm)] at h2
      intro e
      exact hap' s2 v2 (fun e => hne e.symm) h2 b e hb
    · rw [if_neg e1] at h1
      by_cases e2 : s2 = s
      · subst e2
        rw [if_pos rfl] at h2
        injection h2 with h2
        subst h2
        exact hap' s1 v1 e1 h1 b hb
      · rw [if_neg e2] at h2
        exact h.apart s1 s2 v1 v2 h1 h2 hne b hb
end Go.Proofs.Ytclobnojpmgmaaa

/-
  Lists of texts: HasText.
-/
import Derived.Test.YtclobnojpmgmaaaFault
import Derived.Test.YtclobnojpmgmaaaOwn
import Derived.Test.YtclobnojpmgmaaaOrd
import Derived.IntWalk
import Derived.Outline
namespace Go.Proofs.Ytclobnojpmgmaaa
open Go.RowKit

def strOf : Value → Str
  | .string b => b.data.toList
  | _ => []
theorem SlR.lenM {α : Type} {C : Codec α} {M : Nat → Prop} {w : World} {A : Option Addr} {n c : Nat} {l : List α} (h : SlR C M w (.slice A n c) l) : l.length ≤ c ∧ c ≤ 9223372036854775807 := by
  obtain ⟨A2, c2, e, h1, h2⟩ := h.form
  cases e
  exact ⟨h1, h2⟩

theorem anyL_true {α : Type} (s : List α) (p : α → Bool) (i : Nat) (hi : i < s.length) (h : p s[i] = true) : s.any p = true := by
  rw [List.any_eq_true]
  exact ⟨_, List.getElem_mem hi, h⟩
theorem any_true (s : List Str) (p : Str → Bool) (i : Nat) (hi : i < s.length) (h : p s[i] = true) : s.any p = true := by
  rw [List.any_eq_true]
  exact ⟨_, List.getElem_mem hi, h⟩
theorem any_false {α : Type} (s : List α) (p : α → Bool) (h : ∀ (i : Nat) (hi : i < s.length), p s[i] = false) : s.any p = false := by
  rw [List.any_eq_false]
  intro x hx
  obtain ⟨i, hi, rfl⟩ := List.mem_iff_getElem.1 hx
  rw [h i hi]; simp

set_option maxHeartbeats 400000 in
theorem hasText_ok (M : Nat → Prop) (v : Value) (l : List Str) (s : Str) (w : World) (h : SlR strC M w v l) : Calls Try.prog 16 #[v, .string (bs s)] w fun e w' => e = .returned (.bool (l.any (· == s))) ∧ w = w' := by
  obtain ⟨A, c, rfl, _, hcm⟩ := h.form
  have hn := h.len_le
  unfold maxLen at hn
  go_enter Try.func16, Try.ntmps16
  go_wp2
  go_loop [5] (fun i => ∃ k : Nat, k ≤ l.length ∧ i = .int .i64 k ∧ Hid (∀ (j : Nat) (hj : j < l.length), j < k → (l[j] == s) = false)) (fun i => l.length - (intOf i).toNat)
  case atStart => exact ⟨0, Nat.zero_le _, rfl, Lib.hid fun j _ h => absurd h (by omega)⟩
  case round =>
    obtain ⟨k, hk, rfl, hpre⟩ := hrel
    by_cases hlt : k < l.length
    · obtain ⟨b, off, rfl, _, _, hcell, _⟩ := h.strAt hlt
      obtain ⟨x, hx⟩ : ∃ x, x = l[k] := ⟨_, rfl⟩
      rw [← hx] at hcell
      have Hx := Lib.hid hx
      clear hx
      cases ht : (x == s) with
      | true =>
        go_wp2
        go_ret
        exact ⟨ret_bool (by rw [any_true l (· == s) k hlt (by rw [← Hx.out]; exact ht)]), rfl⟩
      | false =>
        go_wp2
        go_round
        case rel => exact ⟨k + 1, by omega, by go_num, Lib.hid fun j hj hjk => by
          by_cases e : j = k
          · subst e; rw [← Hx.out]; exact ht
          · exact hpre.out j hj (by omega)⟩
        case measure => simp [intOf]; omega
    · go_wp2
      go_ret
      exact ⟨ret_bool (by rw [any_false l (· == s) fun i hi => hpre.out i hi (by omega)]), rfl⟩
end Go.Proofs.Ytclobnojpmgmaaa

/-
  The reference's ends, Letters.
-/
import Derived.Test.YtinmpjhmbciapaaDoorSmC
namespace Go.Proofs.YtinmpjhmbciapaaDoor
open Go.RowKit
set_option linter.unusedVariables false
theorem suffix_drop {s e : Str} (h : e.length ≤ s.length) : Lib.hasSuffix s e = ((s.drop (s.length - e.length)).take (s.length - (s.length - e.length)) == e) := by
  rw [List.take_of_length_le (by rw [List.length_drop]; omega), Bool.eq_iff_iff]
  unfold Lib.hasSuffix
  rw [List.isSuffixOf_iff_suffix, beq_iff_eq]
  constructor
  · rintro ⟨t, rfl⟩
    simp
  · intro h'
    rw [← h']
    exact List.drop_suffix _ _
theorem suffix_long {s e : Str} (h : s.length < e.length) : Lib.hasSuffix s e = false := by
  rw [Bool.eq_false_iff]
  intro h'
  unfold Lib.hasSuffix at h'
  have := (List.isSuffixOf_iff_suffix.1 h').length_le
  omega
theorem ends_ok (s e : Str) (hs : s.length ≤ maxLen) (w : World) : Calls Tryd.prog 64 #[.string (bs s), .string (bs e)] w fun r w' => r = .returned (.bool (Lib.hasSuffix s e)) ∧ w = w' := by
  unfold maxLen at hs
  by_cases h : e.length ≤ s.length
  · obtain ⟨t, ht⟩ : ∃ t, ((s.drop (s.length - e.length)).take (s.length - (s.length - e.length)) == e) = t := ⟨_, rfl⟩
    have hf : Lib.hasSuffix s e = t := by rw [suffix_drop h, ht]
    have Hf := Lib.hid hf
    clear hf
    have hd : decide ((e.length : Int) ≤ (s.length : Int)) = true := by simp; omega
    have hi : IntKind.i64.wrap ((s.length : Int) - (e.length : Int)) = (s.length : Int) - (e.length : Int) := IntWalk.i64_in _ (by omega)
    have hn : ((s.length : Int) - (e.length : Int)).toNat = s.length - e.length := by omega
    have h0 : (0 : Int) ≤ (s.length : Int) - (e.length : Int) := by omega
    have h1 : (e.length : Int) ≤ (s.length : Int) := by omega
    have h2 : (s.length : Int) - (e.length : Int) ≤ (s.length : Int) := by omega
    go_enter Tryd.func64, Tryd.ntmps64
    go_wp2
    go_ret
    exact ⟨ret_bool (by rw [Hf.out]), rfl⟩
  · have hf := suffix_long (s := s) (e := e) (by omega)
    have Hf := Lib.hid hf
    clear hf
    have hd : decide ((e.length : Int) ≤ (s.length : Int)) = false := by simp; omega
    go_enter Tryd.func64, Tryd.ntmps64
    go_wp2
    go_ret
    exact ⟨ret_bool (by rw [Hf.out]), rfl⟩
set_option maxHeartbeats 400000 in
theorem letters_ok (s : Str) (hs : s.length ≤ maxLen) (w : World) : Calls Tryd.prog 38 #[.string (bs s)] w fun e w' => e = .returned (.bool (Sm.letters s)) ∧ w = w' := by
  unfold maxLen at hs
  go_enter Tryd.func38, Tryd.ntmps38
  go_wp2
  go_loop [3] (fun i => ∃ k : Nat, k ≤ s.length ∧ i = .int .i64 k ∧ Hid (∀ (j : Nat) (hj : j < s.length), j < k → Sm.lc s[j] = true)) (fun i => s.length - (intOf i).toNat)
  case atStart => exact ⟨0, Nat.zero_le _, rfl, Lib.hid fun j _ h => absurd h (by omega)⟩
  case round =>
    obtain ⟨k, hk, rfl, hpre⟩ := hrel
    by_cases hlt : k < s.length
    · have hget : (bs s)[k]'(by simpa using hlt) = s[k] := bs_get s k (by simpa using hlt)
      obtain ⟨x, hx⟩ : ∃ x, s[k] = x := ⟨_, rfl⟩
      rw [hx] at hget
      have hxx := Sm.lc_int x
      have Hx := Lib.hid hx; have Hxx := Lib.hid hxx
      clear hx hxx
      by_cases h1 : (97 : Int) ≤ (x.toNat : Int)
      all_goals by_cases h2 : (x.toNat : Int) ≤ 122
      · have hd1 : decide ((x.toNat : Int) < 97) = false := by simp; omega
        have hd2 : decide ((122 : Int) < (x.toNat : Int)) = false := by simp; omega
        go_wp2
        go_round
        case rel => exact ⟨k + 1, by omega, by go_num, Lib.hid fun j hj h => by
          by_cases e : j = k
          · subst e; rw [Hx.out, Hxx.out]; simp [h1, h2]
          · exact hpre.out j hj (by omega)⟩
        case measure => simp [intOf]; omega
      all_goals
        have hf : Sm.letters s = false := by
          rw [Sm.letters_lc]
          exact all_false s _ k hlt (by rw [Hx.out, Hxx.out]; simp [h1, h2])
        have Hf := Lib.hid hf
        clear hf
        first
          | (have hd1 : decide ((x.toNat : Int) < 97) = true := by simp; omega)
          | (have hd1 : decide ((x.toNat : Int) < 97) = false := by simp; omega)
        first
          | (have hd2 : decide ((122 : Int) < (x.toNat : Int)) = true := by simp; omega)
          | (have hd2 : decide ((122 : Int) < (x.toNat : Int)) = false := by simp; omega)
        go_wp2
        all_goals go_ret
        all_goals exact ⟨ret_bool (by rw [Hf.out]), rfl⟩
    · go_wp2
      go_ret
      exact ⟨ret_bool (by rw [Sm.letters_lc, all_true s _ fun i hi => hpre.out i hi (by omega)]), rfl⟩
end Go.Proofs.YtinmpjhmbciapaaDoor

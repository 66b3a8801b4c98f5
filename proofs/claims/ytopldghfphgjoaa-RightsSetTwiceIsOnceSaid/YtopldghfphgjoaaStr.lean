/-
  Package strings: a prefix of one sign, and Compare.
-/
import Derived.Test.YtopldghfphgjoaaName2
import Derived.Lib.Bytealg
namespace Go.Proofs.Ytopldghfphgjoaa
open Go.RowKit

theorem hash_cases (s : Str) : (∃ t, s = 35 :: t) ∨ (s = [] ∨ ∃ c t, s = c :: t ∧ c ≠ 35) := by
  cases s with
  | nil => exact .inr (.inl rfl)
  | cons c t =>
    by_cases h : c = 35
    · subst h; exact .inl ⟨t, rfl⟩
    · exact .inr (.inr ⟨c, t, rfl, h⟩)

theorem hasPrefix_ok (s : Str) (hs : s.length ≤ maxLen) (w : World) : Calls Try.prog 84 #[.string (bs s), .string ⟨#[35]⟩] w fun e w' => e = .returned (.bool (isHash s)) ∧ w = w' := by
  unfold maxLen at hs
  cases s with
  | nil =>
    go_enter Try.func84, Try.ntmps84
    go_wp2
    go_ret
    exact ⟨rfl, rfl⟩
  | cons c t =>
    have hl : (1 : Int) ≤ (t.length : Int) + 1 := by omega
    go_enter Try.func84, Try.ntmps84
    go_wp2
    go_ret
    refine ⟨ret_bool ?_, rfl⟩
    simp [isHash]
theorem trim_hash (s : Str) (h : isHash s = true) : ∃ t, s = 35 :: t ∧ trimH s = t := by
  cases s with
  | nil => cases h
  | cons c t => have : c = 35 := by simpa [isHash] using h
                subst this; exact ⟨t, rfl, by simp [trimH]⟩
theorem trim_no (s : Str) (h : isHash s = false) : trimH s = s := by
  cases s with
  | nil => rfl
  | cons c t => have : c ≠ 35 := by simpa [isHash] using h
                simp [trimH, this]
theorem trimPrefix1_ok (s : Str) (hs : s.length ≤ maxLen) (w : World) : Calls Try.prog 81 #[.string (bs s), .string ⟨#[35]⟩] w fun e w' => e = .returned (.string (bs (trimH s))) ∧ w = w' := by
  have hp := hasPrefix_ok s hs w
  obtain ⟨t, ht⟩ : ∃ t, isHash s = t := ⟨_, rfl⟩
  rw [ht] at hp
  have Hp := Lib.hid hp
  clear hp
  cases t with
  | true =>
    obtain ⟨t, rfl, he⟩ := trim_hash s ht
    rw [he]
    clear he ht
    go_enter Try.func81, Try.ntmps81
    go_wp2_with fail
    refine Hp.out.mono ?_
    rintro e w1 ⟨rfl, rfl⟩
    go_wp2
    go_ret
    exact ⟨ret_str (by simp), rfl⟩
  | false =>
    rw [trim_no s ht]
    clear ht
    go_enter Try.func81, Try.ntmps81
    go_wp2_with fail
    refine Hp.out.mono ?_
    rintro e w1 ⟨rfl, rfl⟩
    go_wp2
    go_ret
    exact ⟨rfl, rfl⟩
theorem trimPrefix_ok (s : Str) (hs : s.length ≤ maxLen) (w : World) : Calls Try.prog 70 #[.string (bs s), .string ⟨#[35]⟩] w fun e w' => e = .returned (.string (bs (trimH s))) ∧ w = w' := by
  have hp := trimPrefix1_ok s hs w
  have Hp := Lib.hid hp
  clear hp
  go_enter Try.func70, Try.ntmps70
  go_wp2_with fail
  refine Hp.out.mono ?_
  rintro e w1 ⟨rfl, rfl⟩
  go_wp2
  go_ret
  exact ⟨rfl, rfl⟩
theorem cutPrefix1_ok (s : Str) (hs : s.length ≤ maxLen) (w : World) : Calls Try.prog 79 #[.string (bs s), .string ⟨#[35]⟩] w fun e w' => e = .returned (.tuple #[.string (bs (trimH s)), .bool (isHash s)]) ∧ w = w' := by
  have hp := hasPrefix_ok s hs w
  obtain ⟨t, ht⟩ : ∃ t, isHash s = t := ⟨_, rfl⟩
  rw [ht] at hp ⊢
  have Hp := Lib.hid hp
  clear hp
  cases t with
  | true =>
    obtain ⟨t, rfl, he⟩ := trim_hash s ht
    rw [he]
    clear he ht
    go_enter Try.func79, Try.ntmps79
    go_wp2_with fail
    refine Hp.out.mono ?_
    rintro e w1 ⟨rfl, rfl⟩
    go_wp2
    go_ret2
    exact ⟨by simp, rfl⟩
  | false =>
    rw [trim_no s ht]
    clear ht
    go_enter Try.func79, Try.ntmps79
    go_wp2_with fail
    refine Hp.out.mono ?_
    rintro e w1 ⟨rfl, rfl⟩
    go_wp2
    go_ret2
    exact ⟨rfl, rfl⟩
theorem cutPrefix_ok (s : Str) (hs : s.length ≤ maxLen) (w : World) : Calls Try.prog 67 #[.string (bs s), .string ⟨#[35]⟩] w fun e w' => e = .returned (.tuple #[.string (bs (trimH s)), .bool (isHash s)]) ∧ w = w' := by
  have hp := cutPrefix1_ok s hs w
  have Hp := Lib.hid hp
  clear hp
  go_enter Try.func67, Try.ntmps67
  go_wp2_with fail
  refine Hp.out.mono ?_
  rintro e w1 ⟨rfl, rfl⟩
  go_wp2
  go_ret2
  exact ⟨rfl, rfl⟩
theorem who_ok (s : Str) (hs : s.length ≤ maxLen) (w : World) : Calls Try.prog 48 #[.string (bs s)] w fun e w' => e = .returned (.bool (whoF s)) ∧ Below w.heap.size w w' := by
  have hp := trimPrefix_ok s hs w
  have hl : (trimH s).length ≤ maxLen := by
    refine Nat.le_trans ?_ hs
    cases s with
    | nil => exact Nat.le_refl _
    | cons c t => by_cases h : c = 35 <;> simp [trimH, h]
  have hw : userF (trimH s) = whoF s := by rw [← who_trim, small_user]
  have hsm := small_ok (trimH s) hl w
  rw [hw] at hsm
  have Hp := Lib.hid hp; have Hsm := Lib.hid hsm
  clear hp hl hw hsm hs
  go_enter Try.func48, Try.ntmps48
  go_wp2_with fail
  refine Hp.out.mono ?_
  rintro e w1 ⟨rfl, rfl⟩
  go_wp2_with fail
  refine Hsm.out.mono ?_
  rintro e w1 ⟨rfl, hb⟩
  go_wp2
  go_ret
  exact ⟨rfl, hb⟩

theorem compareString_ok (a b : Str) (w : World) : Calls Try.prog 82 #[.string (bs a), .string (bs b)] w fun e w' => e = .returned (.int .i64 (Lib.compareBytes a b)) ∧ w = w' := by
  go_enter Try.func82, Try.ntmps82
  go_wp2
  rw [run_callFunc_extern Try.func85 (by kernel_rfl) (by kernel_rfl) (by kernel_rfl) (e := Extern.BytealgCompare.compare) (by kernel_rfl), Lib.run_compareString]
  simp only [Result.andThen]
  rw [Oper.upon_value]
  go_wp2
  go_ret
  exact ⟨by simp, rfl⟩
theorem compare_ok (a b : Str) (w : World) : Calls Try.prog 71 #[.string (bs a), .string (bs b)] w fun e w' => e = .returned (.int .i64 (Lib.compareBytes a b)) ∧ w = w' := by
  have hp := compareString_ok a b w
  have Hp := Lib.hid hp
  clear hp
  go_enter Try.func71, Try.ntmps71
  go_wp2_with fail
  refine Hp.out.mono ?_
  rintro e w1 ⟨rfl, rfl⟩
  go_wp2
  go_ret
  exact ⟨rfl, rfl⟩
theorem any_true (s : List Str) (p : Str → Bool) (i : Nat) (hi : i < s.length) (h : p s[i] = true) : s.any p = true := by
  rw [List.any_eq_true]
  exact ⟨_, List.getElem_mem hi, h⟩
theorem any_false {α : Type} (s : List α) (p : α → Bool) (h : ∀ (i : Nat) (hi : i < s.length), p s[i] = false) : s.any p = false := by
  rw [List.any_eq_false]
  intro x hx
  obtain ⟨i, hi, rfl⟩ := List.mem_iff_getElem.1 hx
  rw [h i hi]; simp

set_option maxHeartbeats 400000 in
theorem hasText_ok (M : Nat → Prop) (v : Value) (l : List Str) (s : Str) (w : World) (h : SlR strC M w v l) : Calls Try.prog 61 #[v, .string (bs s)] w fun e w' => e = .returned (.bool (l.any (· == s))) ∧ w = w' := by
  obtain ⟨A, c, rfl, _, hcm⟩ := h.form
  have hn := h.len_le
  unfold maxLen at hn
  go_enter Try.func61, Try.ntmps61
  go_wp2
  go_loop [5] (fun i => ∃ k : Nat, k ≤ l.length ∧ i = .int .i64 k ∧ Hid (∀ (j : Nat) (hj : j < l.length), j < k → (l[j] == s) = false)) (fun i => l.length - (intOf i).toNat)
  case atStart => exact ⟨0, Nat.zero_le _, rfl, Lib.hid fun j _ h => absurd h (by omega)⟩
  case round =>
    obtain ⟨k, hk, rfl, hpre⟩ := hrel
    by_cases hlt : k < l.length
    · obtain ⟨b, off, rfl, _, _, hcell, _⟩ := h.strAt hlt
      obtain ⟨x, hx⟩ : ∃ x, x = l[k] := ⟨_, rfl⟩
      rw [← hx] at hcell
      have Hx := Lib.hid hx
      clear hx
      cases ht : (x == s) with
      | true =>
        go_wp2
        go_ret
        exact ⟨ret_bool (by rw [any_true l (· == s) k hlt (by rw [← Hx.out]; exact ht)]), rfl⟩
      | false =>
        go_wp2
        go_round
        case rel => exact ⟨k + 1, by omega, by go_num, Lib.hid fun j hj hjk => by
          by_cases e : j = k
          · subst e; rw [← Hx.out]; exact ht
          · exact hpre.out j hj (by omega)⟩
        case measure => simp [intOf]; omega
    · go_wp2
      go_ret
      exact ⟨ret_bool (by rw [any_false l (· == s) fun i hi => hpre.out i hi (by omega)]), rfl⟩
end Go.Proofs.Ytopldghfphgjoaa

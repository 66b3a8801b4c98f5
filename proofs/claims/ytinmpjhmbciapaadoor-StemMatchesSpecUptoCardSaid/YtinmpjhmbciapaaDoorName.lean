/-
  Names: package basic and its reference, function by function.
-/
import Derived.Test.YtinmpjhmbciapaaDoorFault
import Derived.Test.YtinmpjhmbciapaaDoorRgPure
import Derived.Test.YtinmpjhmbciapaaDoorOwn
import Derived.Outline
import Derived.Shelf.RegionOpen
import Derived.RangeFuncCalls
namespace Go.Proofs.YtinmpjhmbciapaaDoor
open Go.RowKit

theorem u8_le (a b : Nat) (c : UInt8) (h : c.toNat = b) : decide ((a : Int) ≤ (c.toNat : Int)) = decide (a ≤ b) := by rw [h]; simp
theorem letc_int (c : UInt8) : letc c = ((decide ((97 : Int) ≤ (c.toNat : Int)) && decide ((c.toNat : Int) ≤ 122)) || (decide ((65 : Int) ≤ (c.toNat : Int)) && decide ((c.toNat : Int) ≤ 90)) || (decide ((48 : Int) ≤ (c.toNat : Int)) && decide ((c.toNat : Int) ≤ 57))) := by
  rw [Bool.eq_iff_iff]
  simp only [letc, Bool.or_eq_true, Bool.and_eq_true, decide_eq_true_eq, UInt8.le_iff_toNat_le, UInt8.reduceToNat]
  omega

theorem letter_ok (c : UInt8) (w : World) : Calls Tryd.prog 88 #[.int .u8 (c.toNat : Int)] w fun e w' => e = .returned (.bool (letc c)) ∧ w = w' := by
  have hl := letc_int c
  have Hl := Lib.hid hl
  clear hl
  by_cases h1 : (97 : Int) ≤ (c.toNat : Int)
  all_goals by_cases h2 : (c.toNat : Int) ≤ 122
  all_goals by_cases h3 : (65 : Int) ≤ (c.toNat : Int)
  all_goals by_cases h4 : (c.toNat : Int) ≤ 90
  all_goals by_cases h5 : (48 : Int) ≤ (c.toNat : Int)
  all_goals by_cases h6 : (c.toNat : Int) ≤ 57
  all_goals first | (exfalso; omega) | skip
  all_goals
    go_enter Tryd.func88, Tryd.ntmps88
    go_wp2
    go_ret
    exact ⟨by rw [Hl.out]; simp [h1, h2, h3, h4, h5, h6], rfl⟩
theorem name1_ok (c : UInt8) (w : World) : Calls Tryd.prog 87 #[.int .u8 (c.toNat : Int)] w fun e w' => e = .returned (.bool (bigc c)) ∧ w = w' := by
  have e45 : (c == 45) = decide ((c.toNat : Int) = 45) := by rw [Bool.eq_iff_iff]; simp only [beq_iff_eq, decide_eq_true_eq, ← UInt8.toNat_inj, UInt8.reduceToNat]; omega
  have e95 : (c == 95) = decide ((c.toNat : Int) = 95) := by rw [Bool.eq_iff_iff]; simp only [beq_iff_eq, decide_eq_true_eq, ← UInt8.toNat_inj, UInt8.reduceToNat]; omega
  have e46 : (c == 46) = decide ((c.toNat : Int) = 46) := by rw [Bool.eq_iff_iff]; simp only [beq_iff_eq, decide_eq_true_eq, ← UInt8.toNat_inj, UInt8.reduceToNat]; omega
  have hb : bigc c = (letc c || decide ((c.toNat : Int) = 45) || decide ((c.toNat : Int) = 95) || decide ((c.toNat : Int) = 46)) := by rw [bigc, e45, e95, e46]
  have Hb := Lib.hid hb
  clear hb e45 e95 e46
  obtain ⟨t, ht⟩ : ∃ t, t = letc c := ⟨_, rfl⟩
  have Ht := Lib.hid ht
  clear ht
  go_enter Tryd.func87, Tryd.ntmps87
  go_wp2_with fail
  refine ((letter_ok c w).mono fun e w' h => (⟨by rw [h.1, Ht.out], h.2⟩ : e = .returned (.bool t) ∧ w = w')).mono ?_
  rintro e w1 ⟨rfl, rfl⟩
  cases t
  all_goals go_wp2
  all_goals go_ret
  all_goals refine ⟨?_, rfl⟩
  all_goals rw [Hb.out, ← Ht.out]
  all_goals first | (simp_all; done) | (congr 1; done) | (congr 2; done) | (congr 1; rw [Bool.eq_iff_iff]; simp_all; done) | (congr 2; rw [Bool.eq_iff_iff]; simp_all; done) | skip

theorem all_true (s : Str) (p : UInt8 → Bool) (h : ∀ (i : Nat) (hi : i < s.length), p s[i] = true) : s.all p = true := by
  rw [List.all_eq_true]
  intro x hx
  obtain ⟨i, hi, rfl⟩ := List.mem_iff_getElem.1 hx
  exact h i hi
theorem all_false (s : Str) (p : UInt8 → Bool) (i : Nat) (hi : i < s.length) (h : p s[i] = false) : s.all p = false := by
  rw [Bool.eq_false_iff]
  intro e
  rw [List.all_eq_true] at e
  have := e _ (List.getElem_mem hi)
  rw [h] at this
  cases this

set_option maxHeartbeats 400000 in
theorem allB_ok (f : FuncId) (p : UInt8 → Bool) (eg : ∀ args w, (callFunc f args).run Tryd.prog w = .ok (.enter f args) w) (hf : ∀ (c : UInt8) (w : World), Calls Tryd.prog f #[.int .u8 (c.toNat : Int)] w fun e w' => e = .returned (.bool (p c)) ∧ w = w')
    (s : Str) (hs : s.length ≤ maxLen) (w : World) :
    Calls Tryd.prog 35 #[.string (bs s), .func (.func f) #[] #[]] w fun e w' => e = .returned (.bool (s.all p)) ∧ w = w' := by
  unfold maxLen at hs
  have Hf := Lib.hid hf
  clear hf
  go_enter Tryd.func35, Tryd.ntmps35
  go_wp2
  go_loop [8] (fun i => ∃ k : Nat, k ≤ s.length ∧ i = .int .i64 k ∧ Hid (∀ (j : Nat) (hj : j < s.length), j < k → p s[j] = true)) (fun i => s.length - (intOf i).toNat)
  case atStart => exact ⟨0, Nat.zero_le _, rfl, Lib.hid fun j _ h => absurd h (by omega)⟩
  case round =>
    obtain ⟨k, hk, rfl, hpre⟩ := hrel
    by_cases hlt : k < s.length
    · obtain ⟨t, ht⟩ : ∃ t, t = p s[k] := ⟨_, rfl⟩
      have hfc := (Hf.out s[k] w).mono fun e w' h => (⟨by rw [h.1, ht], h.2⟩ : e = .returned (.bool t) ∧ w = w')
      have Hfc := Lib.hid hfc
      have Ht := Lib.hid ht
      clear hfc ht
      go_wp2_with fail
      refine Hfc.out.mono ?_
      rintro e w1 ⟨rfl, rfl⟩
      cases t with
      | true =>
        go_wp2
        go_round
        case rel => exact ⟨k + 1, by omega, by go_num, Lib.hid fun j hj h => by
          by_cases e : j = k
          · subst e; exact Ht.out.symm
          · exact hpre.out j hj (by omega)⟩
        case measure => simp [intOf]; omega
      | false =>
        go_wp2
        go_ret
        exact ⟨by rw [all_false s p k hlt Ht.out.symm]; rfl, rfl⟩
    · go_wp2
      go_ret
      exact ⟨by rw [all_true s p fun i hi => hpre.out i hi (by omega)]; rfl, rfl⟩

theorem name_ok (s : Str) (hs : s.length ≤ maxLen) (w : World) : Calls Tryd.prog 70 #[.string (bs s)] w fun e w' => e = .returned (.bool (nameF s)) ∧ w = w' := by
  have e0 : (bs s).toList = s := by simp
  have Hs := Lib.hid hs
  clear hs
  have hall := allB_ok 87 bigc (enters_of Tryd.func87 (by kernel_rfl) rfl) name1_ok s Hs.out w
  have Hall := Lib.hid hall
  clear hall e0
  by_cases h0 : s = []
  · subst h0
    go_enter Tryd.func70, Tryd.ntmps70
    go_wp2
    go_ret
    exact ⟨by simp [nameF], rfl⟩
  · by_cases h1 : s.length ≤ 60
    · have h0' : s.isEmpty = false := by simpa using h0
      go_enter Tryd.func70, Tryd.ntmps70
      go_wp2_with fail
      refine Hall.out.mono ?_
      rintro e w1 ⟨rfl, rfl⟩
      go_wp2
      go_ret
      exact ⟨by simp [nameF, h0', h1], rfl⟩
    · have h0' : s.isEmpty = false := by simpa using h0
      go_enter Tryd.func70, Tryd.ntmps70
      go_wp2
      go_ret
      exact ⟨by simp [nameF, h1], rfl⟩
theorem lowerC_nat (c : UInt8) : ((lowerC c).toNat : Int) = if 65 ≤ c.toNat ∧ c.toNat ≤ 90 then (c.toNat : Int) + 32 else (c.toNat : Int) := by
  have hc := c.toNat_lt
  unfold lowerC
  by_cases h : upc c = true
  · have h' : 65 ≤ c.toNat ∧ c.toNat ≤ 90 := by simpa [upc, UInt8.le_iff_toNat_le] using h
    rw [if_pos h, if_pos h', UInt8.toNat_add]
    simp
    omega
  · have h' : ¬ (65 ≤ c.toNat ∧ c.toNat ≤ 90) := by simpa [upc, UInt8.le_iff_toNat_le] using h
    rw [if_neg h, if_neg h']
/-- The bytes up to k in lower case. -/
def lowTo (s : Str) (k : Nat) : Str := (s.take k).map lowerC ++ s.drop k
theorem lowTo_len (s : Str) (k : Nat) : (lowTo s k).length = s.length := by simp [lowTo]; omega
theorem lowTo_zero (s : Str) : lowTo s 0 = s := by simp [lowTo]
theorem lowTo_all (s : Str) : lowTo s s.length = lowerF s := by simp [lowTo, lowerF]
theorem lowTo_get (s : Str) (k : Nat) (hk : k < s.length) : (lowTo s k)[k]'(by rw [lowTo_len]; exact hk) = s[k] := by
  simp [lowTo, Nat.min_eq_left (Nat.le_of_lt hk)]
theorem lowTo_succ (s : Str) (k : Nat) (hk : k < s.length) : lowTo s (k + 1) = (lowTo s k).set k (lowerC s[k]) := by
  have h1 : s.take (k + 1) = s.take k ++ [s[k]] := by rw [List.take_succ_eq_append_getElem hk]
  have h2 : s.drop k = s[k] :: s.drop (k + 1) := List.drop_eq_getElem_cons hk
  have h3 : ((s.take k).map lowerC).length = k := by simp; omega
  rw [lowTo, lowTo, h1, h2, List.map_append, List.set_append_right _ _ (by omega), h3, Nat.sub_self, List.set_cons_zero, List.append_assoc]
  rfl
theorem lowTo_same (s : Str) (k : Nat) (hk : k < s.length) (h : lowerC s[k] = s[k]) : lowTo s (k + 1) = lowTo s k := by
  rw [lowTo_succ s k hk, h]
  have := lowTo_get s k hk
  conv => lhs; rw [← this]
  exact List.set_getElem_self _
end Go.Proofs.YtinmpjhmbciapaaDoor

/-
  slices.BinarySearch on texts.
-/
import Derived.Test.YtinmpjhmbciapaaDoorTx
import Derived.Outline
import Derived.WalkLawsBesides
namespace Go.Proofs.YtinmpjhmbciapaaDoor
open Go.RowKit
theorem isNaN1_ok (s : Str) (w : World) : Calls Tryd.prog 91 #[.string (bs s)] w fun e w' => e = .returned (.bool false) ∧ w = w' := by
  go_enter Tryd.func91, Tryd.ntmps91
  go_wp2
  go_ret
  exact ⟨by simp, rfl⟩
theorem isNaN2_ok (s : Str) (w : World) : Calls Tryd.prog 73 #[.string (bs s)] w fun e w' => e = .returned (.bool false) ∧ w = w' := by
  go_enter Tryd.func73, Tryd.ntmps73
  go_wp2
  go_ret
  exact ⟨by simp, rfl⟩
theorem less_ok (a b : Str) (w : World) : Calls Tryd.prog 72 #[.string (bs a), .string (bs b)] w fun e w' => e = .returned (.bool (ltS a b)) ∧ w = w' := by
  go_enter Tryd.func72, Tryd.ntmps72
  go_wp2_with (go_at_call 91; refine (isNaN1_ok _ _).mono ?_; rintro e w' ⟨rfl, rfl⟩)
  go_ret
  exact ⟨by simp [ltS], rfl⟩
theorem half_lo (i j : Nat) (h : i < j) : i ≤ (i + j) / 2 ∧ (i + j) / 2 < j := by omega
/-- What the search has shown. -/
def CutS (l : List Str) (x : Str) (k : Nat) : Prop := (∀ (m : Nat) (hm : m < l.length), m + 1 = k → ltS l[m] x = true)
def Cut2S (l : List Str) (x : Str) (k : Nat) : Prop := (∀ (hm : k < l.length), ltS l[k] x = false)
def hitS (l : List Str) (x : Str) (k : Nat) : Bool := match l[k]? with | some y => y == x | none => false

set_option maxHeartbeats 2000000 in
theorem bsearchS_ok (l : List Str) (x : Str) (v : Value) (w : World) (h : SlR strC M0 w v l) (hln : l.length ≤ 1000000) :
    Calls Tryd.prog 47 #[v, .string (bs x)] w fun e w' => ∃ k : Nat, e = .returned (.tuple #[.int .i64 k, .bool (hitS l x k)]) ∧ k ≤ l.length ∧ CutS l x k ∧ Cut2S l x k ∧ w = w' := by
  obtain ⟨A, c, rfl, _, _⟩ := h.form
  have hcm : l.length ≤ 9223372036854775807 := by omega
  go_enter Tryd.func47, Tryd.ntmps47
  go_wp2
  go_loop [7, 8, 9] (fun i j _ => ∃ a b : Nat, a ≤ b ∧ b ≤ l.length ∧ i = .int .i64 a ∧ j = .int .i64 b ∧ Hid (CutS l x a) ∧ Hid (Cut2S l x b)) (fun i j _ => (intOf j - intOf i).toNat)
  case atStart =>
    refine ⟨0, l.length, Nat.zero_le _, Nat.le_refl _, rfl, rfl, Lib.hid fun m _ h => absurd h (by omega), Lib.hid fun h => absurd h (by omega)⟩
  case round =>
    obtain ⟨a, b, hab, hbl, rfl, rfl, ha, hcut2⟩ := hrel
    by_cases hlt : a < b
    · obtain ⟨m, hm⟩ : ∃ m, m = (a + b) / 2 := ⟨_, rfl⟩
      have hml : m < l.length := by omega
      have hma : a ≤ m := by omega
      have hmb : m < b := by omega
      obtain ⟨bb, off, rfl, _, _, hcell, _⟩ := h.strAt hml
      obtain ⟨p, hp⟩ : ∃ x, x = l[m] := ⟨_, rfl⟩
      rw [← hp] at hcell
      obtain ⟨o, ho⟩ : ∃ o, ltS p x = o := ⟨_, rfl⟩
      have hol : ltS l[m] x = o := by rw [← hp]; exact ho
      have hls := less_ok p x w
      rw [ho] at hls
      have e : ((a : Int) + (b : Int)) / 2 = (m : Int) := by omega
      have hi1 : (m : Int) < (l.length : Int) := by omega
      have Hol := Lib.hid hol; have Hls := Lib.hid hls; have Hm := Lib.hid hm
      clear ho hp hol hls hm
      go_wp2_with fail
      refine Hls.out.mono ?_
      rintro e9 w9 ⟨rfl, rfl⟩
      clear e
      cases o with
      | true =>
        go_wp2
        go_round
        case rel => exact ⟨m + 1, b, by omega, hbl, by go_num, rfl, Lib.hid fun m' hm' e => by
          obtain rfl : m' = m := by omega
          exact Hol.out, hcut2⟩
        case measure => simp [intOf]; omega
      | false =>
        go_wp2
        go_round
        case rel => exact ⟨a, m, by omega, by omega, rfl, rfl, ha, Lib.hid fun _ => Hol.out⟩
        case measure => simp [intOf]; omega
    · obtain rfl : a = b := by omega
      by_cases hal : a < l.length
      · obtain ⟨bb, off, rfl, _, _, hcell, _⟩ := h.strAt hal
        obtain ⟨p, hp⟩ : ∃ x, x = l[a] := ⟨_, rfl⟩
        rw [← hp] at hcell
        have hhit : hitS l x a = (p == x) := by unfold hitS; rw [List.getElem?_eq_getElem hal, ← hp]
        have Hhit := Lib.hid hhit
        clear hp hhit
        have hi1 : (a : Int) < (l.length : Int) := by omega
        cases ht : (p == x) with
        | true =>
          rw [ht] at Hhit
          go_wp2
          refine bodyPost_ret (v := .tuple #[.int .i64 a, .bool true]) (by simp [results, Tryd.results47, go_sem]) rfl ?_
          exact ⟨a, by rw [Hhit.out], hbl, ha.out, hcut2.out, rfl⟩
        | false =>
          rw [ht] at Hhit
          go_wp2_with (go_at_call 73; refine (isNaN2_ok _ _).mono ?_; rintro e w' ⟨rfl, rfl⟩)
          refine bodyPost_ret (v := .tuple #[.int .i64 a, .bool false]) (by simp [results, Tryd.results47, go_sem]) rfl ?_
          exact ⟨a, by rw [Hhit.out], hbl, ha.out, hcut2.out, rfl⟩
      · obtain rfl : a = l.length := by omega
        have hhit : hitS l x l.length = false := by unfold hitS; simp
        have Hhit := Lib.hid hhit
        clear hhit
        go_wp2
        refine bodyPost_ret (v := .tuple #[.int .i64 l.length, .bool false]) (by simp [results, Tryd.results47, go_sem]) rfl ?_
        exact ⟨l.length, by rw [Hhit.out], Nat.le_refl _, ha.out, hcut2.out, rfl⟩
end Go.Proofs.YtinmpjhmbciapaaDoor

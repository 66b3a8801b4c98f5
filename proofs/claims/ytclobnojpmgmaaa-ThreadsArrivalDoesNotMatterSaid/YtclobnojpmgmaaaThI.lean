/-
  Ints of the reference; the closures of shown.
-/
import Derived.Test.YtclobnojpmgmaaaThG
import Derived.Deep.QuietTactic
import Derived.BigQuiet
namespace Go.Proofs.Ytclobnojpmgmaaa
open Go.RowKit
set_option linter.unusedVariables false
theorem take_get_i {α : Type} (l : List α) (k : Nat) (h : k < l.length) : l.take (k + 1) = l.take k ++ [l[k]] := List.take_succ_eq_append_getElem h

set_option maxHeartbeats 1000000 in
theorem ints_ok (v v' : Value) (l l' : List Int) (w : World) (h : SlR intC M0 w v l) (h' : SlR intC M0 w v' l') : Calls Try.prog 14 #[v, v'] w fun e w' => e = .returned (.bool (l == l')) ∧ Below w.heap.size w w' := by
  obtain ⟨A, c, rfl, _, _⟩ := h.form
  obtain ⟨A', c', rfl, _, _⟩ := h'.form
  obtain ⟨hlc, hcm⟩ := h.lenM
  obtain ⟨hlc', hcm'⟩ := h'.lenM
  by_cases hl : l.length = l'.length
  · have hl' : ((l.length : Int) != (l'.length : Int)) = false := by simp [hl]
    have Hl := Lib.hid hl
    clear hl
    go_enter Try.func14, Try.ntmps14
    go_wp2
    go_loopw [5] (fun i wr => ∃ k : Nat, k ≤ l.length ∧ i = .int .i64 k ∧ Hid (l.take k = l'.take k) ∧ Below w.heap.size w wr) (fun i _ => l.length - (intOf i).toNat)
    case atStart => exact ⟨0, Nat.zero_le _, rfl, Lib.hid rfl, Below.refl _ _⟩
    case round =>
      obtain ⟨k, hk, rfl, hpre, hb⟩ := hrel
      by_cases hlt : k < l.length
      · have hlt' : k < l'.length := by have := Hl.out; omega
        obtain ⟨b, off, rfl, _, _, q0, _⟩ := (h.ext hb).intAt hlt
        obtain ⟨b', off', rfl, _, _, p0, _⟩ := (h'.ext hb).intAt hlt'
        obtain ⟨s, hx⟩ : ∃ x, x = l[k] := ⟨_, rfl⟩
        obtain ⟨s', hx'⟩ : ∃ x, x = l'[k] := ⟨_, rfl⟩
        rw [← hx] at q0
        rw [← hx'] at p0
        obtain ⟨t, ht⟩ : ∃ t, (s == s') = t := ⟨_, rfl⟩
        have Hx := Lib.hid hx; have Hx' := Lib.hid hx'
        clear hx hx'
        have hi1 : (k : Int) < (l.length : Int) := by omega
        have hi2 : (k : Int) < (l'.length : Int) := by omega
        cases t with
        | true =>
          have hnn : (s != s') = false := by rw [bne, ht]; rfl
          go_wp2
          go_quiet (fail)
          go_wp2
          go_roundw
          case rel => exact ⟨k + 1, by omega, by go_num, Lib.hid (by rw [take_get_i l k hlt, take_get_i l' k hlt', hpre.out, ← Hx.out, ← Hx'.out, eq_of_beq ht]), hb.trans (below_drewN' _ _ _)⟩
          case measure => simp [intOf]; omega
        | false =>
          have hnn : (s != s') = true := by rw [bne, ht]; rfl
          go_wp2
          go_quiet (fail)
          go_wp2
          go_ret
          have hne : (l == l') = false := by
            rw [beq_eq_false_iff_ne]
            intro e
            subst e
            rw [Hx.out, Hx'.out] at ht
            simp at ht
          exact ⟨ret_bool (by rw [hne]), hb.trans (below_drewN' _ _ _)⟩
      · have he : k = l.length := by omega
        subst he
        go_wp2
        go_ret
        refine ⟨ret_bool ?_, hb⟩
        have hp := hpre.out
        rw [List.take_length, List.take_of_length_le (by have := Hl.out; omega)] at hp
        rw [hp]; simp
  · have hl' : ((l.length : Int) != (l'.length : Int)) = true := by simp; omega
    have hne : (l == l') = false := by simp; intro h; exact hl (by rw [h])
    rw [hne]
    go_enter Try.func14, Try.ntmps14
    go_wp2
    go_ret
    exact ⟨rfl, Below.refl _ _⟩
end Go.Proofs.Ytclobnojpmgmaaa

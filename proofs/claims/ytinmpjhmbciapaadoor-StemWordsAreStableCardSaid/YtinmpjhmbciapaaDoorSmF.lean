/-
  The reference's Stem.
-/
import Derived.Test.YtinmpjhmbciapaaDoorSmE
namespace Go.Proofs.YtinmpjhmbciapaaDoor
open Go.RowKit
set_option linter.unusedVariables false
set_option maxHeartbeats 1000000 in
theorem stem_ok : ∀ (n : Nat) (s : Str) (hm : Sm.mu s ≤ n) (hs : s.length ≤ maxLen) (w : World), Calls Tryd.prog 16 #[.string (bs s)] w fun e w' => e = .returned (.string (bs (Sm.stem s))) ∧ Below w.heap.size w w' := by
  intro n
  induction n with
  | zero =>
    intro s hm hs w
    have h0 : s = [] := by
      unfold Sm.mu at hm
      exact List.eq_nil_of_length_eq_zero (by omega)
    subst h0
    have hl := letters_ok [] hs w
    have hc := rstep_ok [] w hs
    have e1 : Sm.letters [] = true := rfl
    have e2 : Sm.step [] = [] := rfl
    have e3 : Sm.stem [] = [] := rfl
    rw [e1] at hl
    rw [e2] at hc
    rw [e3]
    have Hl := Lib.hid hl; have Hc := Lib.hid hc
    clear hl hc e1 e2 e3
    go_enter Tryd.func16, Tryd.ntmps16
    go_wp2_with fail
    refine Hl.out.mono ?_
    rintro e w1 ⟨rfl, rfl⟩
    go_wp2_with fail
    refine Hc.out.mono ?_
    rintro e w1 ⟨rfl, hb⟩
    go_wp2
    go_ret
    exact ⟨rfl, hb⟩
  | succ n ih =>
    intro s hm hs w
    have hl := letters_ok s hs w
    unfold maxLen at hs
    cases hlt : Sm.letters s with
    | false =>
      rw [hlt] at hl
      have hq : Sm.stem s = s := by unfold Sm.stem; rw [if_neg]; rw [hlt]; simp
      have Hl := Lib.hid hl; have Hq := Lib.hid hq
      clear hl hq hlt ih
      go_enter Tryd.func16, Tryd.ntmps16
      go_wp2_with fail
      refine Hl.out.mono ?_
      rintro e w1 ⟨rfl, rfl⟩
      go_wp2
      go_ret
      exact ⟨ret_str (by rw [Hq.out]), Below.refl _ _⟩
    | true =>
      rw [hlt] at hl
      by_cases h6 : s.length ≤ 60
      · have hd : decide (60 < (s.length : Int)) = false := by simp; omega
        have hst := Sm.stem_step hlt h6
        have hc := rstep_ok s w (by unfold maxLen; omega)
        have hsl := Sm.step_len s
        obtain ⟨t, ht⟩ : ∃ t, Sm.step s = t := ⟨_, rfl⟩
        rw [ht] at hc hst hsl
        cases hq : (t == s) with
        | true =>
          have hfix : Sm.stem s = s := Sm.stem_fix (by rw [ht]; exact eq_of_beq hq)
          have Hl := Lib.hid hl; have Hc := Lib.hid hc; have Ht := Lib.hid ht; have Hst := Lib.hid hst; have Hf := Lib.hid hfix
          clear hl hc ht hst hlt ih hfix
          go_enter Tryd.func16, Tryd.ntmps16
          go_wp2_with fail
          refine Hl.out.mono ?_
          rintro e w1 ⟨rfl, rfl⟩
          go_wp2_with fail
          refine Hc.out.mono ?_
          rintro e w1 ⟨rfl, hb⟩
          go_wp2
          go_ret
          exact ⟨ret_str (by rw [Hf.out]), hb⟩
        | false =>
          have hne : Sm.step s ≠ s := by rw [ht]; intro e; rw [e] at hq; simp at hq
          have hmu : Sm.mu t < Sm.mu s := by rw [← ht]; exact Sm.step_mu hne
          have hrec := fun W => ih t (by omega) (by unfold maxLen; omega) W
          rw [hst] at hrec
          have Hl := Lib.hid hl; have Hc := Lib.hid hc; have Hrec := Lib.hid hrec
          clear hl hc ht hst hlt ih hne hrec
          go_enter Tryd.func16, Tryd.ntmps16
          go_wp2_with fail
          refine Hl.out.mono ?_
          rintro e w1 ⟨rfl, rfl⟩
          go_wp2_with fail
          refine Hc.out.mono ?_
          rintro e w1 ⟨rfl, hb⟩
          go_wp2_with fail
          refine (Hrec.out _).mono ?_
          rintro e w2 ⟨rfl, hb2⟩
          go_wp2
          go_ret
          exact ⟨rfl, below2 hb hb2⟩
      · have hd : decide (60 < (s.length : Int)) = true := by simp; omega
        have hq : Sm.stem s = s := by unfold Sm.stem; rw [if_neg]; omega
        have Hl := Lib.hid hl; have Hq := Lib.hid hq
        clear hl hq hlt ih
        go_enter Tryd.func16, Tryd.ntmps16
        go_wp2_with fail
        refine Hl.out.mono ?_
        rintro e w1 ⟨rfl, rfl⟩
        go_wp2
        go_ret
        exact ⟨ret_str (by rw [Hq.out]), Below.refl _ _⟩
end Go.Proofs.YtinmpjhmbciapaaDoor

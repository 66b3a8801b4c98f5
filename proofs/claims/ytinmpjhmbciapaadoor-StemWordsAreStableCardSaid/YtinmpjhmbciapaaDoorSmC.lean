/-
  stem.Of.
-/
import Derived.Test.YtinmpjhmbciapaaDoorSmB
import Derived.Test.YtinmpjhmbciapaaDoorName
namespace Go.Proofs.YtinmpjhmbciapaaDoor
open Go.RowKit
set_option linter.unusedVariables false
def Sm.lc (c : UInt8) : Bool := decide (97 ≤ c) && decide (c ≤ 122)
theorem Sm.lc_int (c : UInt8) : Sm.lc c = (decide ((97 : Int) ≤ (c.toNat : Int)) && decide ((c.toNat : Int) ≤ 122)) := by
  rw [Bool.eq_iff_iff]
  simp only [Sm.lc, Bool.and_eq_true, decide_eq_true_eq, UInt8.le_iff_toNat_le, UInt8.reduceToNat]
  omega
theorem of1_ok (c : UInt8) (w : World) : Calls Tryd.prog 36 #[.int .u8 (c.toNat : Int)] w fun e w' => e = .returned (.bool (Sm.lc c)) ∧ w = w' := by
  have hl := Sm.lc_int c
  have Hl := Lib.hid hl
  clear hl
  by_cases h1 : (97 : Int) ≤ (c.toNat : Int)
  all_goals by_cases h2 : (c.toNat : Int) ≤ 122
  all_goals
    go_enter Tryd.func36, Tryd.ntmps36
    go_wp2
    go_ret
    exact ⟨by rw [Hl.out]; simp [h1, h2], rfl⟩
theorem Sm.letters_lc (s : Str) : Sm.letters s = s.all Sm.lc := rfl
set_option maxHeartbeats 1000000 in
theorem of_ok (s : Str) (hs : s.length ≤ maxLen) (w : World) : Calls Tryd.prog 15 #[.string (bs s)] w fun e w' => e = .returned (.string (bs (Sm.stem s))) ∧ Below w.heap.size w w' := by
  have hall := allB_ok 36 Sm.lc (enters_of Tryd.func36 (by kernel_rfl) rfl) of1_ok s hs w
  have Hall := Lib.hid hall
  clear hall
  unfold maxLen at hs
  by_cases h60 : s.length ≤ 60
  · have hd : decide (60 < (s.length : Int)) = false := by simp; omega
    obtain ⟨t, ht⟩ : ∃ t, s.all Sm.lc = t := ⟨_, rfl⟩
    have hc := Hall.out.mono fun e w' h => (⟨by rw [h.1, ht], h.2⟩ : e = .returned (.bool t) ∧ w = w')
    have Hc := Lib.hid hc
    clear hc Hall
    cases t with
    | false =>
      have hst : Sm.stem s = s := by unfold Sm.stem; rw [if_neg]; rw [Sm.letters_lc, ht]; simp
      have Hst := Lib.hid hst
      clear hst ht
      go_enter Tryd.func15, Tryd.ntmps15
      go_wp2_with fail
      refine Hc.out.mono ?_
      rintro e w1 ⟨rfl, rfl⟩
      go_wp2
      go_ret
      exact ⟨ret_str (by rw [Hst.out]), Below.refl _ _⟩
    | true =>
      have hst : Sm.stem s = Sm.rounds (Sm.mu s) s := by unfold Sm.stem; rw [if_pos ⟨by rw [Sm.letters_lc, ht], h60⟩]
      obtain ⟨res, hres⟩ : ∃ r, Sm.rounds (Sm.mu s) s = r := ⟨_, rfl⟩
      rw [hres] at hst
      have Hst := Lib.hid hst; have Hres := Lib.hid hres
      clear hst ht hres
      go_enter Tryd.func15, Tryd.ntmps15
      go_wp2_with fail
      refine Hc.out.mono ?_
      rintro e w1 ⟨rfl, rfl⟩
      go_wp2
      go_loopw [0] (fun v wr => ∃ t : Str, v = .string (bs t) ∧ t.length ≤ 60 ∧ Hid (Sm.rounds (Sm.mu t) t = res) ∧ Below w.heap.size w wr) (fun v _ => Sm.mu (strOf v))
      case atStart => exact ⟨s, rfl, h60, Hres, Below.refl _ _⟩
      case round =>
        obtain ⟨t, rfl, ht, hr, hb⟩ := hrel
        have hc := step_ok t wr (by omega)
        have hl := Sm.step_len t
        obtain ⟨u, hu⟩ : ∃ u, Sm.step t = u := ⟨_, rfl⟩
        rw [hu] at hc hl
        have Hu := Lib.hid hu; have Hc2 := Lib.hid hc
        clear hu hc
        go_wp2_with fail
        refine Hc2.out.mono ?_
        rintro e w1 ⟨rfl, hb1⟩
        clear Hc2
        have hb2 := below2 hb (hb1)
        cases hq : (u == t) with
        | true =>
          have he : Sm.step t = t := by rw [Hu.out]; exact eq_of_beq hq
          have He := Lib.hid he
          clear he
          go_wp2
          go_ret
          exact ⟨ret_str (by rw [Hst.out, ← hr.out, Sm.rounds_fix He.out, ← Hu.out, He.out]), hb2⟩
        | false =>
          have he : Sm.step t ≠ t := by rw [Hu.out]; intro e; rw [e] at hq; simp at hq
          have hm : Sm.mu u < Sm.mu t := by rw [← Hu.out]; exact Sm.step_mu he
          have he2 : Sm.rounds (Sm.mu u) u = res := by rw [← hr.out, Sm.rounds_step he, Hu.out]
          have He := Lib.hid he2
          clear he he2
          go_wp2
          go_roundw
          case rel => exact ⟨u, rfl, by omega, He, hb2⟩
          case measure => simpa [strOf, bs] using hm
  · have hst : Sm.stem s = s := by unfold Sm.stem; rw [if_neg]; omega
    have hd : decide (60 < (s.length : Int)) = true := by simp; omega
    have Hst := Lib.hid hst
    clear hst Hall
    go_enter Tryd.func15, Tryd.ntmps15
    go_wp2
    go_ret
    exact ⟨ret_str (by rw [Hst.out]), Below.refl _ _⟩
end Go.Proofs.YtinmpjhmbciapaaDoor

/-
  The stem of a stem is itself: the law's walk.
-/
import Derived.Test.YtinmpjhmbciapaaDoorSmEx
namespace Go.Proofs.YtinmpjhmbciapaaDoor
open Go.RowKit
set_option linter.unusedVariables false
set_option maxHeartbeats 4000000 in
theorem sidem_walk (s : Str) (w : World) (hs : s.length ≤ maxLen) (hT : TabsU w) : Calls Tryd.prog 4 #[.string (bs s)] w fun e w' => e = .returned (.bool true) ∧ Below w.heap.size w w' := by
  have hle := Sm.stem_len s
  have hss := Sm.stem_stem s
  have hpre := Sm.stem_pre s
  have hne : s ≠ [] → Sm.stem s ≠ [] := Sm.stem_ne
  have h1 := of_ok s hs w
  obtain ⟨t, ht⟩ : ∃ t, Sm.stem s = t := ⟨_, rfl⟩
  rw [ht] at hle hss hpre h1 hne
  have h3 := fun W => of_ok t (by omega) W
  rw [hss] at h3
  have H1 := Lib.hid h1; have H3 := Lib.hid h3; have HT := Lib.hid hT
  unfold maxLen at hs
  clear h1 h3 ht hss hT
  have hself : (t == t) = true := by simp
  have hself2 : (t != t) = false := by simp
  have hgt : decide ((s.length : Int) < (t.length : Int)) = false := by simp; omega
  have hgt2 : decide (s.length < t.length) = false := by simp; omega
  by_cases h0 : s = []
  · subst h0
    have ht0 : t = [] := List.eq_nil_of_length_eq_zero (by simpa using hle)
    subst ht0
    clear hne hpre hle hgt hgt2
    go_enter Tryd.func4, Tryd.ntmps4
    go_wp2_with fail
    refine H1.out.mono ?_
    rintro e w1 ⟨rfl, hb1⟩
    go_wp2_with fail
    refine (sexample_ok _ (HT.out.ext hb1)).mono ?_
    rintro e w2 ⟨rfl, hb2⟩
    go_wp2_with fail
    refine (H3.out _).mono ?_
    rintro e w3 ⟨rfl, hb3⟩
    have hb := below2 (below2 hb1 hb2) hb3
    go_wp2
    go_quiet (fail)
    go_wp2
    go_ret
    exact ⟨rfl, hb.trans (below_drewN' _ _ _)⟩
  · have hl0 : 0 < s.length := List.length_pos_iff.2 h0
    have htl : 0 < t.length := List.length_pos_iff.2 (hne h0)
    have hd0 : decide ((0 : Int) < (s.length : Int)) = true := by simp; omega
    have hd1 : ((t.length : Int) == 0) = false := beq_eq_false_iff_ne.2 (by omega)
    have hi : IntKind.i64.wrap ((t.length : Int) - 1) = (t.length : Int) - 1 := IntWalk.i64_in _ (by omega)
    have hmx : max ((t.length : Int) - 1) 0 = (t.length : Int) - 1 := Int.max_eq_left (by omega)
    have hk1 : (1 : Int) ≤ (t.length : Int) := by omega
    have hk2 : 1 ≤ t.length := by omega
    have hk3 : (t.length : Int) - 1 ≤ (t.length : Int) := by omega
    have hk4 : (t.length : Int) - 1 ≤ (s.length : Int) := by omega
    have hk5 : (0 : Int) ≤ (t.length : Int) - 1 := by omega
    have hk6 : ((t.length : Int) - 1).toNat = t.length - 1 := by omega
    have hpe : (t.take (t.length - 1) == s.take (t.length - 1)) = true := by rw [hpre]; simp
    clear hpre hne h0
    go_enter Tryd.func4, Tryd.ntmps4
    go_wp2_with fail
    refine H1.out.mono ?_
    rintro e w1 ⟨rfl, hb1⟩
    go_wp2_with fail
    refine (sexample_ok _ (HT.out.ext hb1)).mono ?_
    rintro e w2 ⟨rfl, hb2⟩
    go_wp2_with fail
    refine (H3.out _).mono ?_
    rintro e w3 ⟨rfl, hb3⟩
    have hb := below2 (below2 hb1 hb2) hb3
    go_wp2
    go_quiet (fail)
    go_wp2
    go_ret
    exact ⟨ret_bool (by simp), hb.trans (below_drewN' _ _ _)⟩
end Go.Proofs.YtinmpjhmbciapaaDoor

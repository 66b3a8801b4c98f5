/-
  Lower, Of, Words and Stems are as the specification has them: the law's walk.
-/
import Derived.Test.YtinmpjhmbciapaaDoorSmEx
namespace Go.Proofs.YtinmpjhmbciapaaDoor
open Go.RowKit
set_option linter.unusedVariables false
set_option maxRecDepth 100000 in
set_option maxHeartbeats 8000000 in
theorem smatch_ok (s : Str) (w : World) (h4 : s.length ≤ 4000) (hs : s.length ≤ 4000000) (hT : TabsU w) :
    Calls Tryd.prog 3 #[.string (bs s)] w fun e w' => e = .returned (.bool true) ∧ Below w.heap.size w w' := by
  have hbw := Below.refl w.heap.size w
  have hd : decide ((4000 : Int) < (s.length : Int)) = false := by simp; omega
  go_enter Tryd.func3, Tryd.ntmps3
  have hc := stemWords_r s h4 _ hT
  go_wp2_with fail
  refine (hc).mono ?_
  rintro e w1 ⟨v1, rfl, hr1, hq1⟩
  clear hc
  have ha1 := (Below.refl w1.heap.size w1).alloc (Nat.le_refl _) (.cells #[.int .i64 0, .int .i64 0] 24)
  have hc1 := below2 hq1 ha1
  replace hT := hT.ext hc1
  replace hbw := hbw.trans (hc1.mono hbw.size)
  have k1 := Blk.new w1 24 #[.int .i64 0, .int .i64 0]
  clear hq1 hc1
  replace hr1 := hr1.ext ha1
  clear ha1
  obtain ⟨A1, c1, rfl, _, _⟩ := hr1.form
  have hc := stemStems_r s h4 _ hT
  go_wp2_with fail
  refine (hc).mono ?_
  rintro e w2 ⟨v2, rfl, hr2, hq2⟩
  clear hc
  have ha2 := (Below.refl w2.heap.size w2).alloc (Nat.le_refl _) (.cells #[.int .i64 0, .int .i64 0] 24)
  have hc2 := below2 hq2 ha2
  replace hT := hT.ext hc2
  replace k1 := k1.ext hc2
  replace hr1 := hr1.ext hc2
  replace hbw := hbw.trans (hc2.mono hbw.size)
  have k2 := Blk.new w2 24 #[.int .i64 0, .int .i64 0]
  clear hq2 hc2
  replace hr2 := hr2.ext ha2
  clear ha2
  obtain ⟨A2, c2, rfl, _, _⟩ := hr2.form
  go_wp2_with fail
  refine (sexample_ok _ hT).mono ?_
  rintro e w3 ⟨rfl, hq3⟩
  replace hT := hT.ext hq3
  replace k1 := k1.ext hq3
  replace hr1 := hr1.ext hq3
  replace k2 := k2.ext hq3
  replace hr2 := hr2.ext hq3
  replace hbw := hbw.trans (hq3.mono hbw.size)
  clear hq3
  have hc := stemLower_ok s hs _ hT
  go_wp2_with fail
  refine (hc).mono ?_
  rintro e w4 ⟨rfl, hq4⟩
  replace hT := hT.ext hq4
  replace k1 := k1.ext hq4
  replace hr1 := hr1.ext hq4
  replace k2 := k2.ext hq4
  replace hr2 := hr2.ext hq4
  replace hbw := hbw.trans (hq4.mono hbw.size)
  clear hq4
  clear hc
  have hc := refLower_ok s hs _ hT
  go_wp2_with fail
  refine (hc).mono ?_
  rintro e w5 ⟨rfl, hq5⟩
  replace hT := hT.ext hq5
  replace k1 := k1.ext hq5
  replace hr1 := hr1.ext hq5
  replace k2 := k2.ext hq5
  replace hr2 := hr2.ext hq5
  replace hbw := hbw.trans (hq5.mono hbw.size)
  clear hq5
  clear hc
  have hlw : (Sm.lower s != Sm.lower s) = false := by simp
  have hlw2 : (Sm.lower s == Sm.lower s) = true := by simp
  have hc := of_ok s (by unfold maxLen; omega) w5
  go_wp2_with fail
  refine (hc).mono ?_
  rintro e w6 ⟨rfl, hq6⟩
  replace hT := hT.ext hq6
  replace k1 := k1.ext hq6
  replace hr1 := hr1.ext hq6
  replace k2 := k2.ext hq6
  replace hr2 := hr2.ext hq6
  replace hbw := hbw.trans (hq6.mono hbw.size)
  clear hq6
  clear hc
  have hc := stem_ok (Sm.mu s) s (Nat.le_refl _) (by unfold maxLen; omega) w6
  go_wp2_with fail
  refine (hc).mono ?_
  rintro e w7 ⟨rfl, hq7⟩
  replace hT := hT.ext hq7
  replace k1 := k1.ext hq7
  replace hr1 := hr1.ext hq7
  replace k2 := k2.ext hq7
  replace hr2 := hr2.ext hq7
  replace hbw := hbw.trans (hq7.mono hbw.size)
  clear hq7
  clear hc hlw hlw2
  have hlw : (Sm.stem s != Sm.stem s) = false := by simp
  have hlw2 : (Sm.stem s == Sm.stem s) = true := by simp
  obtain ⟨p0, _, _, _, _⟩ := k1.two
  obtain ⟨q0, _, _, _, _⟩ := k2.two
  have hc := refWords_r s hs w7 hT
  go_wp2_with fail
  refine (hc).mono ?_
  rintro e w8 ⟨v3, rfl, hr3, hq8⟩
  clear hc p0 q0
  replace hT := hT.ext hq8
  replace k1 := k1.ext hq8
  replace hr1 := hr1.ext hq8
  replace k2 := k2.ext hq8
  replace hr2 := hr2.ext hq8
  replace hbw := hbw.trans (hq8.mono hbw.size)
  clear hq8
  obtain ⟨A3, c3, rfl, _, _⟩ := hr3.form
  have htx := texts_ok _ _ _ _ w8 hr1 hr3
  rw [beq_self_eq_true] at htx
  have Htx := Lib.hid htx; clear htx
  go_wp2_with fail
  refine (Htx.out).mono ?_
  rintro e w9 ⟨rfl, hq9⟩
  replace hT := hT.ext hq9
  replace k1 := k1.ext hq9
  replace hr1 := hr1.ext hq9
  replace k2 := k2.ext hq9
  replace hr2 := hr2.ext hq9
  replace hbw := hbw.trans (hq9.mono hbw.size)
  clear hq9
  have hc := refStems_r s hs w9 hT
  go_wp2_with fail
  refine (hc).mono ?_
  rintro e w10 ⟨v4, rfl, hr4, hq10⟩
  clear hc Htx
  replace hT := hT.ext hq10
  replace k1 := k1.ext hq10
  replace hr1 := hr1.ext hq10
  replace k2 := k2.ext hq10
  replace hr2 := hr2.ext hq10
  replace hbw := hbw.trans (hq10.mono hbw.size)
  clear hq10
  obtain ⟨A4, c4, rfl, _, _⟩ := hr4.form
  have htx := texts_ok _ _ _ _ w10 hr2 hr4
  rw [beq_self_eq_true] at htx
  have Htx := Lib.hid htx; clear htx
  go_wp2_with fail
  refine (Htx.out).mono ?_
  rintro e w11 ⟨rfl, hq11⟩
  replace hT := hT.ext hq11
  replace k1 := k1.ext hq11
  replace hr1 := hr1.ext hq11
  replace k2 := k2.ext hq11
  replace hr2 := hr2.ext hq11
  replace hbw := hbw.trans (hq11.mono hbw.size)
  clear hq11
  go_wp2
  go_ret
  exact ⟨rfl, hbw⟩
theorem stemStemsLong_r (s : Str) (hs : 4000 < s.length) (w : World) : Calls Tryd.prog 11 #[.string (bs s)] w fun e w' => ∃ v, e = .returned (.tuple #[v, .agg #[.int .i64 1, .int .i64 (-1)]]) ∧ SlR strC M0 w' v [] ∧ Below w.heap.size w w' :=
  (stemStems_long s hs w).mono fun e w' ⟨A, c, L, he, hL, ho, hb⟩ => ⟨_, he, by rw [← hL.out]; exact ho.read0, hb⟩
set_option maxRecDepth 100000 in
set_option maxHeartbeats 8000000 in
theorem smatch_long (s : Str) (w : World) (h4 : 4000 < s.length) (hs : s.length ≤ 4000000) (hT : TabsU w) :
    Calls Tryd.prog 3 #[.string (bs s)] w fun e w' => e = .returned (.bool true) ∧ Below w.heap.size w w' := by
  have hbw := Below.refl w.heap.size w
  have hd : decide ((4000 : Int) < (s.length : Int)) = true := by simp; omega
  go_enter Tryd.func3, Tryd.ntmps3
  have hc := stemWords_long s h4 w
  go_wp2_with fail
  refine (hc).mono ?_
  rintro e w1 ⟨rfl, hq1⟩
  clear hc
  have ha1 := (Below.refl w1.heap.size w1).alloc (Nat.le_refl _) (.cells #[.int .i64 1, .int .i64 (-1)] 24)
  have hc1 := below2 hq1 ha1
  replace hT := hT.ext hc1
  replace hbw := hbw.trans (hc1.mono hbw.size)
  have k1 := Blk.new w1 24 #[.int .i64 1, .int .i64 (-1)]
  clear hq1 hc1
  clear ha1
  have hc := stemStemsLong_r s h4 (w1.alloc (.cells #[.int .i64 1, .int .i64 (-1)] 24))
  go_wp2_with fail
  refine (hc).mono ?_
  rintro e w2 ⟨v2, rfl, hr2, hq2⟩
  clear hc
  have ha2 := (Below.refl w2.heap.size w2).alloc (Nat.le_refl _) (.cells #[.int .i64 1, .int .i64 (-1)] 24)
  have hc2 := below2 hq2 ha2
  replace hT := hT.ext hc2
  replace k1 := k1.ext hc2
  replace hbw := hbw.trans (hc2.mono hbw.size)
  have k2 := Blk.new w2 24 #[.int .i64 1, .int .i64 (-1)]
  clear hq2 hc2
  clear ha2
  obtain ⟨A2, c2, rfl, _, _⟩ := hr2.form
  simp only [List.length_nil]
  clear hr2
  go_wp2_with fail
  refine (sexample_ok _ hT).mono ?_
  rintro e w3 ⟨rfl, hq3⟩
  replace hT := hT.ext hq3
  replace k1 := k1.ext hq3
  replace k2 := k2.ext hq3
  replace hbw := hbw.trans (hq3.mono hbw.size)
  clear hq3
  have hc := stemLower_ok s hs _ hT
  go_wp2_with fail
  refine (hc).mono ?_
  rintro e w4 ⟨rfl, hq4⟩
  replace hT := hT.ext hq4
  replace k1 := k1.ext hq4
  replace k2 := k2.ext hq4
  replace hbw := hbw.trans (hq4.mono hbw.size)
  clear hq4
  clear hc
  have hc := refLower_ok s hs _ hT
  go_wp2_with fail
  refine (hc).mono ?_
  rintro e w5 ⟨rfl, hq5⟩
  replace hT := hT.ext hq5
  replace k1 := k1.ext hq5
  replace k2 := k2.ext hq5
  replace hbw := hbw.trans (hq5.mono hbw.size)
  clear hq5
  clear hc
  have hlw : (Sm.lower s != Sm.lower s) = false := by simp
  have hlw2 : (Sm.lower s == Sm.lower s) = true := by simp
  have hc := of_ok s (by unfold maxLen; omega) w5
  go_wp2_with fail
  refine (hc).mono ?_
  rintro e w6 ⟨rfl, hq6⟩
  replace hT := hT.ext hq6
  replace k1 := k1.ext hq6
  replace k2 := k2.ext hq6
  replace hbw := hbw.trans (hq6.mono hbw.size)
  clear hq6
  clear hc
  have hc := stem_ok (Sm.mu s) s (Nat.le_refl _) (by unfold maxLen; omega) w6
  go_wp2_with fail
  refine (hc).mono ?_
  rintro e w7 ⟨rfl, hq7⟩
  replace hT := hT.ext hq7
  replace k1 := k1.ext hq7
  replace k2 := k2.ext hq7
  replace hbw := hbw.trans (hq7.mono hbw.size)
  clear hq7
  clear hc hlw hlw2
  have hlw : (Sm.stem s != Sm.stem s) = false := by simp
  have hlw2 : (Sm.stem s == Sm.stem s) = true := by simp
  have hkeep : ∀ W', Below w7.heap.size w7 W' → W'.cell? ⟨w1.heap.size, 0, none⟩ = some (.int .i64 1) ∧ W'.cell? ⟨w1.heap.size, 1, none⟩ = some (.int .i64 (-1)) ∧ W'.cell? ⟨w2.heap.size, 0, none⟩ = some (.int .i64 1) ∧ W'.cell? ⟨w2.heap.size, 1, none⟩ = some (.int .i64 (-1)) := fun W' h =>
    ⟨(k1.ext h).two.1, (k1.ext h).two.2.1, (k2.ext h).two.1, (k2.ext h).two.2.1⟩
  have hS0 := hkeep _ (below_drewN' w7.heap.size w7 1)
  have HK := Lib.hid hkeep
  clear hkeep k1 k2
  go_wp2
  go_region_held3 (fun W' => W'.cell? ⟨w1.heap.size, 0, none⟩ = some (.int .i64 1) ∧ W'.cell? ⟨w1.heap.size, 1, none⟩ = some (.int .i64 (-1)) ∧ W'.cell? ⟨w2.heap.size, 0, none⟩ = some (.int .i64 1) ∧ W'.cell? ⟨w2.heap.size, 1, none⟩ = some (.int .i64 (-1))) (first | exact hS0 | exact hS1) ((go_at_call 17; refine (at_ok 1 (-1) _).mono ?_; rintro e w8 ⟨rfl, hb8⟩; have hb08 : Below w7.heap.size w7 w8 := Below.trans (below_drewN' w7.heap.size w7 1) hb8; have hS1 := HK.out _ hb08))
  go_wp2
  go_ret
  exact ⟨rfl, hbw.trans (hb08.mono hbw.size)⟩
theorem smatch_walk (s : Str) (w : World) (hs : s.length ≤ 4000000) (hT : TabsU w) :
    Calls Tryd.prog 3 #[.string (bs s)] w fun e w' => e = .returned (.bool true) ∧ Below w.heap.size w w' := by
  by_cases h : s.length ≤ 4000
  · exact smatch_ok s w h hs hT
  · exact smatch_long s w (by omega) hs hT
end Go.Proofs.YtinmpjhmbciapaaDoor

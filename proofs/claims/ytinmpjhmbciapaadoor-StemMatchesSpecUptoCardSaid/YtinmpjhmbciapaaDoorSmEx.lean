/-
  The example of the stems' statements.
-/
import Derived.Test.YtinmpjhmbciapaaDoorSmK
namespace Go.Proofs.YtinmpjhmbciapaaDoor
open Go.RowKit
set_option linter.unusedVariables false
theorem run_code (a b : Int) (w : World) : (Instr.field 24 (.agg #[.int .i64 a, .int .i64 b]) 0).run Tryd.prog w = .ok (.int .i64 a) w := by kernel_rfl
theorem stemWords_r (s : Str) (hs : s.length ≤ 4000) (w : World) (hT : TabsU w) : Calls Tryd.prog 10 #[.string (bs s)] w fun e w' => ∃ v, e = .returned (.tuple #[v, .agg #[.int .i64 0, .int .i64 0]]) ∧ SlR strC M0 w' v (Sm.words s) ∧ Below w.heap.size w w' :=
  (stemWords_ok s hs w hT).mono fun e w' ⟨A, c, L, he, hL, ho, hb⟩ => ⟨_, he, by rw [← hL.out]; exact ho.read0, hb⟩
theorem stemStems_r (s : Str) (hs : s.length ≤ 4000) (w : World) (hT : TabsU w) : Calls Tryd.prog 11 #[.string (bs s)] w fun e w' => ∃ v, e = .returned (.tuple #[v, .agg #[.int .i64 0, .int .i64 0]]) ∧ SlR strC M0 w' v (Sm.stems s) ∧ Below w.heap.size w w' :=
  (stemStems_ok s hs w hT).mono fun e w' ⟨A, c, L, he, hL, ho, hb⟩ => ⟨_, he, by rw [← hL.out]; exact ho.read0, hb⟩
theorem refWords_r (s : Str) (hs : s.length ≤ 4000000) (w : World) (hT : TabsU w) : Calls Tryd.prog 19 #[.string (bs s)] w fun e w' => ∃ v, e = .returned v ∧ SlR strC M0 w' v (Sm.words s) ∧ Below w.heap.size w w' :=
  (refWords_ok s hs w hT).mono fun e w' ⟨A, c, L, he, hL, ho, hb⟩ => ⟨_, he, by rw [← hL.out]; exact ho.read0, hb⟩
theorem refStems_r (s : Str) (hs : s.length ≤ 4000000) (w : World) (hT : TabsU w) : Calls Tryd.prog 20 #[.string (bs s)] w fun e w' => ∃ v, e = .returned v ∧ SlR strC M0 w' v (Sm.stems s) ∧ Below w.heap.size w w' :=
  (refStems_ok s hs w hT).mono fun e w' ⟨A, c, L, he, hL, ho, hb⟩ => ⟨_, he, by rw [← hL.out]; exact ho.read0, hb⟩
def exsW : List Str := [[105, 116], [115], [53], [111], [99, 108, 111, 99, 107]]
def exsS : List Str := [[114, 117, 110], [100, 111, 103]]
theorem exs_words : Sm.words [73, 116, 39, 115, 32, 53, 32, 111, 39, 99, 108, 111, 99, 107, 46] = exsW := by decide +kernel
theorem exs_stems : Sm.stems [82, 117, 110, 110, 105, 110, 103, 32, 100, 111, 103, 115] = exsS := by decide +kernel
theorem exs_of : Sm.stem [114, 117, 110, 110, 105, 110, 103] = [114, 117, 110] := by decide +kernel
theorem exs_low : Sm.lower [77, 97, 105, 108] = [109, 97, 105, 108] := by decide +kernel
set_option maxRecDepth 100000 in
set_option maxHeartbeats 8000000 in
theorem sexample_ok (w : World) (hT : TabsU w) : Calls Tryd.prog 12 #[] w fun e w' => e = .returned (.bool true) ∧ Below w.heap.size w w' := by
  have hbw := Below.refl w.heap.size w
  go_enter Tryd.func12, Tryd.ntmps12
  have hc := stemWords_r [73, 116, 39, 115, 32, 53, 32, 111, 39, 99, 108, 111, 99, 107, 46] (by decide) w hT
  rw [exs_words] at hc
  go_wp2_with fail
  refine (hc).mono ?_
  rintro e w1 ⟨v1, rfl, hr1, hq1⟩
  clear hc
  have ha1 := (Below.refl w1.heap.size w1).alloc (Nat.le_refl _) (.cells #[.int .i64 0, .int .i64 0] 24)
  have hc1 := below2 hq1 ha1
  replace hT := hT.ext hc1
  replace hbw := hbw.trans (hc1.mono hbw.size)
  have k1 := Blk.new w1 24 #[.int .i64 0, .int .i64 0]
  clear hq1 hc1
  replace hr1 := hr1.ext ha1
  obtain ⟨A1, c1, rfl, _, _⟩ := hr1.form
  clear ha1
  have hc := stemStems_r [82, 117, 110, 110, 105, 110, 103, 32, 100, 111, 103, 115] (by decide) _ hT
  rw [exs_stems] at hc
  go_wp2_with fail
  refine (hc).mono ?_
  rintro e w2 ⟨v2, rfl, hr2, hq2⟩
  clear hc
  have ha2 := (Below.refl w2.heap.size w2).alloc (Nat.le_refl _) (.cells #[.int .i64 0, .int .i64 0] 24)
  have hc2 := below2 hq2 ha2
  replace hT := hT.ext hc2
  replace k1 := k1.ext hc2
  replace hr1 := hr1.ext hc2
  replace hbw := hbw.trans (hc2.mono hbw.size)
  have k2 := Blk.new w2 24 #[.int .i64 0, .int .i64 0]
  clear hq2 hc2
  replace hr2 := hr2.ext ha2
  obtain ⟨A2, c2, rfl, _, _⟩ := hr2.form
  clear ha2
  obtain ⟨W, hW⟩ : ∃ W, W = w2.alloc (.cells #[.int .i64 0, .int .i64 0] 24) := ⟨_, rfl⟩
  rw [← hW] at hT hr1 hr2 k1 k2 hbw
  have HW := Lib.hid hW
  clear hW
  have hl1 : exsW.length = 5 := rfl
  have hl2 : exsS.length = 2 := rfl
  rw [hl1] at hr1 ⊢
  rw [hl2] at hr2 ⊢
  clear hl1 hl2
  obtain ⟨p0, _, _, _, _⟩ := k1.two
  obtain ⟨q0, _, _, _, _⟩ := k2.two
  rw [HW.out] at p0 q0
  go_wp2_with fail
  rw [← HW.out]
  have ht : SlR strC M0 (W.alloc (.cells #[.string ⟨#[105, 116]⟩, .string ⟨#[115]⟩, .string ⟨#[53]⟩, .string ⟨#[111]⟩, .string ⟨#[99, 108, 111, 99, 107]⟩] 9)) (.slice (some ⟨W.heap.size, 0, none⟩) 5 5) exsW := lit_row W exsW (by decide) (by decide)
  rw [show W.heap.size = w2.heap.size + 1 by rw [HW.out, World.size_alloc]] at ht
  have hb1 := (Below.refl W.heap.size W).alloc (Nat.le_refl _) (.cells #[.string ⟨#[105, 116]⟩, .string ⟨#[115]⟩, .string ⟨#[53]⟩, .string ⟨#[111]⟩, .string ⟨#[99, 108, 111, 99, 107]⟩] 9)
  have htx := texts_ok _ _ exsW exsW _ (hr1.ext hb1) ht
  rw [beq_self_eq_true] at htx
  clear ht p0 q0
  replace hT := hT.ext hb1
  replace k1 := k1.ext hb1
  replace hr1 := hr1.ext hb1
  replace k2 := k2.ext hb1
  replace hr2 := hr2.ext hb1
  replace hbw := hbw.trans (hb1.mono hbw.size)
  clear hb1
  refine (htx).mono ?_
  rintro e w3 ⟨rfl, hq3⟩
  replace hT := hT.ext hq3
  replace k1 := k1.ext hq3
  replace hr1 := hr1.ext hq3
  replace k2 := k2.ext hq3
  replace hr2 := hr2.ext hq3
  replace hbw := hbw.trans (hq3.mono hbw.size)
  clear hq3
  clear htx
  obtain ⟨q0, _, _, _, _⟩ := k2.two
  go_wp2_with fail
  have ht : SlR strC M0 (w3.alloc (.cells #[.string ⟨#[114, 117, 110]⟩, .string ⟨#[100, 111, 103]⟩] 9)) (.slice (some ⟨w3.heap.size, 0, none⟩) 2 2) exsS := lit_row w3 exsS (by decide) (by decide)
  have hb1 := (Below.refl w3.heap.size w3).alloc (Nat.le_refl _) (.cells #[.string ⟨#[114, 117, 110]⟩, .string ⟨#[100, 111, 103]⟩] 9)
  have htx := texts_ok _ _ exsS exsS _ (hr2.ext hb1) ht
  rw [beq_self_eq_true] at htx
  clear ht q0
  replace hT := hT.ext hb1
  replace k1 := k1.ext hb1
  replace hr1 := hr1.ext hb1
  replace k2 := k2.ext hb1
  replace hr2 := hr2.ext hb1
  replace hbw := hbw.trans (hb1.mono hbw.size)
  clear hb1
  refine (htx).mono ?_
  rintro e w4 ⟨rfl, hq4⟩
  replace hT := hT.ext hq4
  replace k1 := k1.ext hq4
  replace hr1 := hr1.ext hq4
  replace k2 := k2.ext hq4
  replace hr2 := hr2.ext hq4
  replace hbw := hbw.trans (hq4.mono hbw.size)
  clear hq4
  clear htx
  have hc := of_ok [114, 117, 110, 110, 105, 110, 103] (by decide) w4
  rw [exs_of] at hc
  go_wp2_with fail
  refine (hc).mono ?_
  rintro e w5 ⟨rfl, hq5⟩
  replace hT := hT.ext hq5
  replace k1 := k1.ext hq5
  replace hr1 := hr1.ext hq5
  replace k2 := k2.ext hq5
  replace hr2 := hr2.ext hq5
  replace hbw := hbw.trans (hq5.mono hbw.size)
  clear hq5
  clear hc
  have hc := stemLower_ok [77, 97, 105, 108] (by decide) w5 hT
  rw [exs_low] at hc
  go_wp2_with fail
  refine (hc).mono ?_
  rintro e w6 ⟨rfl, hq6⟩
  replace hT := hT.ext hq6
  replace k1 := k1.ext hq6
  replace hr1 := hr1.ext hq6
  replace k2 := k2.ext hq6
  replace hr2 := hr2.ext hq6
  replace hbw := hbw.trans (hq6.mono hbw.size)
  clear hq6
  go_wp2
  go_ret
  exact ⟨rfl, hbw⟩
end Go.Proofs.YtinmpjhmbciapaaDoor

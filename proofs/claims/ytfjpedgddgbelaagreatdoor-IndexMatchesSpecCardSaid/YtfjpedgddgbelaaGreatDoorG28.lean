/-
  Contracts and plain facts, one after another: The example of the stems' statements; The example of the indexes' statements; Indexes: what the law's helpers compute; plain; The reference's In.
-/
import Derived.Test.YtfjpedgddgbelaaGreatDoorG24
import Derived.Test.YtfjpedgddgbelaaGreatDoorIxH
import Derived.Test.YtfjpedgddgbelaaGreatDoorG25
import Derived.Test.YtfjpedgddgbelaaGreatDoorG26
import Derived.Test.YtfjpedgddgbelaaGreatDoorG12
import Derived.Test.YtfjpedgddgbelaaGreatDoorG17
import Derived.Test.YtfjpedgddgbelaaGreatDoorG22
import Derived.Test.YtfjpedgddgbelaaGreatDoorG2
namespace Go.Proofs.YtfjpedgddgbelaaGreatDoor
open Go.RowKit
set_option linter.unusedVariables false
theorem run_code (a b : Int) (w : World) : (Instr.field 27 (.agg #[.int .i64 a, .int .i64 b]) 0).run Tryz.prog w = .ok (.int .i64 a) w := by kernel_rfl
theorem stemWords_r (s : Str) (hs : s.length ≤ 4000) (w : World) (hT : TabsU w) : Calls Tryz.prog 104 #[.string (bs s)] w fun e w' => ∃ v, e = .returned (.tuple #[v, .agg #[.int .i64 0, .int .i64 0]]) ∧ SlR strC M0 w' v (Sm.words s) ∧ Below w.heap.size w w' :=
  (stemWords_ok s hs w hT).mono fun e w' ⟨A, c, L, he, hL, ho, hb⟩ => ⟨_, he, by rw [← hL.out]; exact ho.read0, hb⟩
theorem stemStems_r (s : Str) (hs : s.length ≤ 4000) (w : World) (hT : TabsU w) : Calls Tryz.prog 53 #[.string (bs s)] w fun e w' => ∃ v, e = .returned (.tuple #[v, .agg #[.int .i64 0, .int .i64 0]]) ∧ SlR strC M0 w' v (Sm.stems s) ∧ Below w.heap.size w w' :=
  (stemStems_ok s hs w hT).mono fun e w' ⟨A, c, L, he, hL, ho, hb⟩ => ⟨_, he, by rw [← hL.out]; exact ho.read0, hb⟩
theorem refWords_r (s : Str) (hs : s.length ≤ 4000000) (w : World) (hT : TabsU w) : Calls Tryz.prog 37 #[.string (bs s)] w fun e w' => ∃ v, e = .returned v ∧ SlR strC M0 w' v (Sm.words s) ∧ Below w.heap.size w w' :=
  (refWords_ok s hs w hT).mono fun e w' ⟨A, c, L, he, hL, ho, hb⟩ => ⟨_, he, by rw [← hL.out]; exact ho.read0, hb⟩
theorem refStems_r (s : Str) (hs : s.length ≤ 4000000) (w : World) (hT : TabsU w) : Calls Tryz.prog 71 #[.string (bs s)] w fun e w' => ∃ v, e = .returned v ∧ SlR strC M0 w' v (Sm.stems s) ∧ Below w.heap.size w w' :=
  (refStems_ok s hs w hT).mono fun e w' ⟨A, c, L, he, hL, ho, hb⟩ => ⟨_, he, by rw [← hL.out]; exact ho.read0, hb⟩
def exsW : List Str := [[105, 116], [115], [53], [111], [99, 108, 111, 99, 107]]
def exsS : List Str := [[114, 117, 110], [100, 111, 103]]
theorem exs_words : Sm.words [73, 116, 39, 115, 32, 53, 32, 111, 39, 99, 108, 111, 99, 107, 46] = exsW := by decide +kernel
theorem exs_stems : Sm.stems [82, 117, 110, 110, 105, 110, 103, 32, 100, 111, 103, 115] = exsS := by decide +kernel
theorem exs_of : Sm.stem [114, 117, 110, 110, 105, 110, 103] = [114, 117, 110] := by decide +kernel
theorem exs_low : Sm.lower [77, 97, 105, 108] = [109, 97, 105, 108] := by decide +kernel
end Go.Proofs.YtfjpedgddgbelaaGreatDoor
namespace Go.Proofs.YtfjpedgddgbelaaGreatDoor
open Go.RowKit
set_option linter.unusedVariables false
/-- one box, two boxes: under names -/
theorem box1 (w : World) (cs : Array Value) (t : TypeId) : ∃ W g, w.alloc (.cells cs t) = W ∧ w.heap.size = g ∧ W.heap.size = g + 1 ∧ Blk W g t cs ∧ Below w.heap.size w W := ⟨_, _, rfl, rfl, by simp, Blk.new w t _, (Below.refl _ _).alloc (Nat.le_refl _) _⟩
theorem box2 (w : World) (cs : Array Value) (t : TypeId) (ds : Array Value) (t' : TypeId) : ∃ W g h, (w.alloc (.cells cs t)).alloc (.cells ds t') = W ∧ w.heap.size = g ∧ g + 1 = h ∧ W.heap.size = h + 1 ∧ Blk W g t cs ∧ Blk W h t' ds ∧ Below w.heap.size w W := by
  refine ⟨_, _, _, rfl, rfl, rfl, by simp, (Blk.new w t cs).alloc _, ?_, ((Below.refl _ _).alloc (Nat.le_refl _) _).alloc (by simp) _⟩
  have := Blk.new (w.alloc (.cells cs t)) t' ds
  rw [World.size_alloc] at this
  exact this
theorem lit_int1 (w : World) (n : Int) (h : -9223372036854775808 ≤ n ∧ n ≤ 9223372036854775807) : SlR intC M0 (w.alloc (.cells #[.int .i64 n] 3)) (.slice (some ⟨w.heap.size, 0, none⟩) 1 1) [n] :=
  (Own.built (M := M0) (B := w.heap.size) (C := intC) 3 (cs := [.int .i64 n]) (l := [n]) (Els.single (C := intC) ⟨rfl, h⟩) (Nat.le_refl _) (by simp [maxLen])).read0
theorem lit_int2 (w : World) (n m : Int) (h : -9223372036854775808 ≤ n ∧ n ≤ 9223372036854775807) (h' : -9223372036854775808 ≤ m ∧ m ≤ 9223372036854775807) : SlR intC M0 (w.alloc (.cells #[.int .i64 n, .int .i64 m] 3)) (.slice (some ⟨w.heap.size, 0, none⟩) 2 2) [n, m] :=
  (Own.built (M := M0) (B := w.heap.size) (C := intC) 3 (cs := [.int .i64 n] ++ [.int .i64 m]) (l := [n] ++ [m]) ((Els.single (C := intC) ⟨rfl, h⟩).append (Els.single (C := intC) ⟨rfl, h'⟩)) (Nat.le_refl _) (by simp [maxLen])).read0
theorem lit_post1 (w : World) (n : Int) (v : Value) (l : List Int) (h : -9223372036854775808 ≤ n ∧ n ≤ 9223372036854775807) (hv : SlR intC M0 w v l) : SlR postC M0 (w.alloc (.cells #[.int .i64 n, v] 96)) (.slice (some ⟨w.heap.size, 0, none⟩) 1 1) [(n, l)] :=
  (Own.built (M := M0) (B := w.heap.size) (C := postC) 96 (cs := [.int .i64 n] ++ [v]) (l := [(n, l)]) (Els.single (C := postC) ⟨[.int .i64 n], [v], rfl, ⟨rfl, h⟩, v, rfl, hv⟩) (Nat.le_refl _) (by simp [maxLen])).read0
def exiT : List Ix.Term := [([97, 110, 100], [(7, [1])]), ([100, 111, 103], [(7, [0, 2])])]
def exiA : Ix.Idx × Int × Int := (([7], exiT), 0, 0)
abbrev exiTx : Str := [100, 111, 103, 115, 32, 97, 110, 100, 32, 100, 111, 103]
abbrev exiW : Str := [68, 111, 103, 115]
theorem exi_a1 : decide ((Ix.addR ([], []) 7 exiTx).1.1 = [7]) = true := by decide +kernel
theorem exi_a2 : decide ((Ix.addR ([], []) 7 exiTx).1.2 = exiT) = true := by decide +kernel
theorem exi_a3 : decide ((Ix.addR ([], []) 7 exiTx).2 = (0, 0)) = true := by decide +kernel
theorem exi_add : Ix.addR ([], []) 7 exiTx = exiA := Prod.ext (Prod.ext (of_decide_eq_true exi_a1) (of_decide_eq_true exi_a2)) (of_decide_eq_true exi_a3)
theorem exi_find : Ix.findR ([7], exiT) exiW = ([(7, [0, 2])], 0, 0) := by decide +kernel
theorem exi_r1 : decide ((Ix.removeR ([7], exiT) 7).1.1 = []) = true := by decide +kernel
theorem exi_r2 : decide ((Ix.removeR ([7], exiT) 7).1.2 = []) = true := by decide +kernel
theorem exi_r3 : decide ((Ix.removeR ([7], exiT) 7).2 = (0, 0)) = true := by decide +kernel
theorem exi_rem : Ix.removeR ([7], exiT) 7 = (([], []), 0, 0) := Prod.ext (Prod.ext (of_decide_eq_true exi_r1) (of_decide_eq_true exi_r2)) (of_decide_eq_true exi_r3)
theorem exi_val : Ix.indexF ([7], exiT) = (0, 0) := by decide +kernel
theorem sz_nil : SzIx [] := fun t h => by cases h
theorem exi_sz : SzIx exiT := by
  intro t h
  simp only [exiT, List.mem_cons, List.not_mem_nil, or_false] at h
  rcases h with rfl | rfl <;> decide
set_option maxRecDepth 100000 in
set_option maxHeartbeats 2000000 in
theorem iexample_ok (w : World) (hT : TabsU w) : Calls Tryz.prog 19 #[] w fun e w' => e = .returned (.bool true) ∧ Below w.heap.size w w' := by
  have hbw := Below.refl w.heap.size w
  have hc := add_ok (.slice none 0 0) (.slice none 0 0) [] [] 7 exiTx w (SlR.nil _ _ _) (SlR.nil _ _ _) sz_nil hT
  unfold AddAt at hc
  rw [exi_add] at hc
  go_enter Tryz.func19, Tryz.ntmps19
  go_wp2_with fail
  refine (hc).mono ?_
  rintro e w1 ⟨a1, b1, rfl, hx0, hx1, hq1⟩
  clear hc
  dsimp only [exiA] at hx0 hx1 ⊢
  obtain ⟨A1, c1, rfl, _, _⟩ := hx0.form
  obtain ⟨A2, c2, rfl, _, _⟩ := hx1.form
  rw [show exiT.length = 2 from rfl] at hx1 ⊢
  rw [show ([7] : List Int).length = 1 from rfl] at hx0 ⊢
  replace hT := hT.ext hq1
  replace hbw := hbw.trans (hq1.mono hbw.size)
  clear hq1
  obtain ⟨W1, g1, g2, hW2, hg2, hh2, hs2, kx, ke, hal2⟩ := box2 w1 #[.slice A1 1 c1, .slice A2 2 c2] 25 #[.int .i64 0, .int .i64 0] 27
  replace hT := hT.ext hal2
  replace hx0 := hx0.ext hal2
  replace hx1 := hx1.ext hal2
  replace hbw := hbw.trans (hal2.mono hbw.size)
  clear hal2
  have HW2 := Lib.hid hW2; have Hs2 := Lib.hid hs2
  have Hhg2 := Lib.hid hg2
  have Hhh2 := Lib.hid hh2
  clear hW2 hs2 hg2 hh2
  have hc := indexFind_ok (.slice A1 1 c1) (.slice A2 2 c2) [7] exiT exiW W1 hx0 hx1 exi_sz hT
  unfold FindAt at hc
  rw [exi_find] at hc
  obtain ⟨kx0, kx1, kx2, kx3, _⟩ := kx.two
  try rw [← HW2.out] at kx0; try rw [← Hhh2.out] at kx0; try rw [← Hhg2.out] at kx0
  try rw [← HW2.out] at kx1; try rw [← Hhh2.out] at kx1; try rw [← Hhg2.out] at kx1
  try rw [← HW2.out] at kx2; try rw [← Hhh2.out] at kx2; try rw [← Hhg2.out] at kx2
  try rw [← HW2.out] at kx3; try rw [← Hhh2.out] at kx3; try rw [← Hhg2.out] at kx3
  go_wp2_with fail
  rw [HW2.out]
  try rw [Hhg2.out]
  try rw [Hhh2.out]
  try rw [← Hs2.out]
  clear kx0 kx1 kx2 kx3
  refine (hc).mono ?_
  rintro e w2 ⟨l1, rfl, hl1, hq3⟩
  clear hc
  dsimp only at hl1 ⊢
  obtain ⟨A3, c3, rfl, _, _⟩ := hl1.form
  rw [show ([(7, [0, 2])] : List Ix.Post).length = 1 from rfl] at hl1 ⊢
  replace hT := hT.ext hq3
  replace hx0 := hx0.ext hq3
  replace hx1 := hx1.ext hq3
  replace kx := kx.ext hq3
  replace ke := ke.ext hq3
  replace hbw := hbw.trans (hq3.mono hbw.size)
  clear hq3
  obtain ⟨W2, g3, hW4, hg4, hs4, kf, hal4⟩ := box1 w2 #[.int .i64 0, .int .i64 0] 27
  replace hT := hT.ext hal4
  replace hx0 := hx0.ext hal4
  replace hx1 := hx1.ext hal4
  replace kx := kx.ext hal4
  replace ke := ke.ext hal4
  replace hl1 := hl1.ext hal4
  replace hbw := hbw.trans (hal4.mono hbw.size)
  clear hal4
  have HW4 := Lib.hid hW4; have Hs4 := Lib.hid hs4
  have Hhg4 := Lib.hid hg4
  clear hW4 hs4 hg4
  have hc := remove_ok (.slice A1 1 c1) (.slice A2 2 c2) [7] exiT 7 W2 hx0 hx1 exi_sz
  unfold RemAt at hc
  rw [exi_rem] at hc
  obtain ⟨kx0, kx1, kx2, kx3, _⟩ := kx.two
  try rw [← HW4.out] at kx0; try rw [← Hhg4.out] at kx0
  try rw [← HW4.out] at kx1; try rw [← Hhg4.out] at kx1
  try rw [← HW4.out] at kx2; try rw [← Hhg4.out] at kx2
  try rw [← HW4.out] at kx3; try rw [← Hhg4.out] at kx3
  go_wp2_with fail
  rw [HW4.out]
  try rw [Hhg4.out]
  try rw [← Hs4.out]
  clear kx0 kx1 kx2 kx3
  refine (hc).mono ?_
  rintro e w3 ⟨a4, b4, rfl, hy0, hy1, hq5⟩
  clear hc
  dsimp only at hy0 hy1 ⊢
  obtain ⟨A4, c4, rfl, _, _⟩ := hy0.form
  obtain ⟨A5, c5, rfl, _, _⟩ := hy1.form
  rw [show ([] : List Int).length = 0 from rfl] at hy0 ⊢
  rw [show ([] : List Ix.Term).length = 0 from rfl] at hy1 ⊢
  replace hT := hT.ext hq5
  replace hx0 := hx0.ext hq5
  replace hx1 := hx1.ext hq5
  replace kx := kx.ext hq5
  replace ke := ke.ext hq5
  replace hl1 := hl1.ext hq5
  replace kf := kf.ext hq5
  replace hbw := hbw.trans (hq5.mono hbw.size)
  clear hq5
  obtain ⟨W3, g4, g5, hW6, hg6, hh6, hs6, ky, kg, hal6⟩ := box2 w3 #[.slice A4 0 c4, .slice A5 0 c5] 25 #[.int .i64 0, .int .i64 0] 27
  replace hT := hT.ext hal6
  replace hx0 := hx0.ext hal6
  replace hx1 := hx1.ext hal6
  replace kx := kx.ext hal6
  replace ke := ke.ext hal6
  replace hl1 := hl1.ext hal6
  replace kf := kf.ext hal6
  replace hy0 := hy0.ext hal6
  replace hy1 := hy1.ext hal6
  replace hbw := hbw.trans (hal6.mono hbw.size)
  clear hal6
  have HW6 := Lib.hid hW6; have Hs6 := Lib.hid hs6
  have Hhg6 := Lib.hid hg6
  have Hhh6 := Lib.hid hh6
  clear hW6 hs6 hg6 hh6
  have hal9 := (Below.refl W3.heap.size W3).alloc (Nat.le_refl _) (.cells #[.int .i64 7] 3)
  have hc := ints_ok _ _ [7] [7] _ (hx0.ext hal9) (lit_int1 W3 7 (by decide))
  rw [beq_self_eq_true] at hc
  have hg1 : W3.heap.size = W3.heap.size := rfl
  obtain ⟨ke0, ke1, ke2, ke3, _⟩ := ke.two
  try rw [← HW6.out] at ke0; try rw [← Hhh6.out] at ke0; try rw [← Hhg6.out] at ke0
  try rw [← HW6.out] at ke1; try rw [← Hhh6.out] at ke1; try rw [← Hhg6.out] at ke1
  try rw [← HW6.out] at ke2; try rw [← Hhh6.out] at ke2; try rw [← Hhg6.out] at ke2
  try rw [← HW6.out] at ke3; try rw [← Hhh6.out] at ke3; try rw [← Hhg6.out] at ke3
  obtain ⟨kx0, kx1, kx2, kx3, _⟩ := kx.two
  try rw [← HW6.out] at kx0; try rw [← Hhh6.out] at kx0; try rw [← Hhg6.out] at kx0
  try rw [← HW6.out] at kx1; try rw [← Hhh6.out] at kx1; try rw [← Hhg6.out] at kx1
  try rw [← HW6.out] at kx2; try rw [← Hhh6.out] at kx2; try rw [← Hhg6.out] at kx2
  try rw [← HW6.out] at kx3; try rw [← Hhh6.out] at kx3; try rw [← Hhg6.out] at kx3
  go_wp2_with fail
  rw [HW6.out]
  try rw [Hhg6.out]
  try rw [Hhh6.out]
  try rw [← Hs6.out]
  clear ke0 ke1 ke2 ke3
  clear kx0 kx1 kx2 kx3
  refine (hc).mono ?_
  rintro e w4 ⟨rfl, hq7⟩
  clear hc
  replace hq7 := below2 hal9 hq7
  clear hal9
  replace hT := hT.ext hq7
  replace hx0 := hx0.ext hq7
  replace hx1 := hx1.ext hq7
  replace kx := kx.ext hq7
  replace ke := ke.ext hq7
  replace hl1 := hl1.ext hq7
  replace kf := kf.ext hq7
  replace hy0 := hy0.ext hq7
  replace hy1 := hy1.ext hq7
  replace ky := ky.ext hq7
  replace kg := kg.ext hq7
  replace hbw := hbw.trans (hq7.mono hbw.size)
  clear hq7
  have h2 := lit_int2 w4 0 2 (by decide) (by decide)
  have h3 := lit_post1 _ 7 _ _ (by decide) h2
  rw [World.size_alloc] at h3
  have hal9 := ((Below.refl w4.heap.size w4).alloc (Nat.le_refl _) (.cells #[.int .i64 0, .int .i64 2] 3)).alloc (by simp) (.cells #[.int .i64 7, .slice (some ⟨w4.heap.size, 0, none⟩) 2 2] 96)
  have hc := samePost_ok _ _ [(7, [0, 2])] [(7, [0, 2])] _ (hl1.ext hal9) h3
  rw [beq_self_eq_true] at hc
  clear h2 h3
  obtain ⟨kx0, kx1, kx2, kx3, _⟩ := kx.two
  obtain ⟨kf0, kf1, kf2, kf3, _⟩ := kf.two
  go_wp2_with fail
  clear kx0 kx1 kx2 kx3
  clear kf0 kf1 kf2 kf3
  refine (hc).mono ?_
  rintro e w5 ⟨rfl, hq8⟩
  clear hc
  replace hq8 := below2 hal9 hq8
  clear hal9
  replace hT := hT.ext hq8
  replace hx0 := hx0.ext hq8
  replace hx1 := hx1.ext hq8
  replace kx := kx.ext hq8
  replace ke := ke.ext hq8
  replace hl1 := hl1.ext hq8
  replace kf := kf.ext hq8
  replace hy0 := hy0.ext hq8
  replace hy1 := hy1.ext hq8
  replace ky := ky.ext hq8
  replace kg := kg.ext hq8
  replace hbw := hbw.trans (hq8.mono hbw.size)
  clear hq8
  have hc := sameIndex_ok (.slice A4 0 c4) (.slice A5 0 c5) (.slice none 0 0) (.slice none 0 0) ([], []) ([], []) w5 hy0 hy1 (SlR.nil _ _ _) (SlR.nil _ _ _)
  rw [show ((([], []) : Ix.Idx) == ([], [])) = true from rfl] at hc
  obtain ⟨kg0, kg1, kg2, kg3, _⟩ := kg.two
  obtain ⟨ky0, ky1, ky2, ky3, _⟩ := ky.two
  go_wp2_with fail
  clear kg0 kg1 kg2 kg3
  clear ky0 ky1 ky2 ky3
  refine (hc).mono ?_
  rintro e w6 ⟨rfl, hq9⟩
  clear hc
  replace hT := hT.ext hq9
  replace hx0 := hx0.ext hq9
  replace hx1 := hx1.ext hq9
  replace kx := kx.ext hq9
  replace ke := ke.ext hq9
  replace hl1 := hl1.ext hq9
  replace kf := kf.ext hq9
  replace hy0 := hy0.ext hq9
  replace hy1 := hy1.ext hq9
  replace ky := ky.ext hq9
  replace kg := kg.ext hq9
  replace hbw := hbw.trans (hq9.mono hbw.size)
  clear hq9
  have hc := validate_ok (.slice A1 1 c1) (.slice A2 2 c2) [7] exiT w6 hx0 hx1 exi_sz
  rw [exi_val] at hc
  have hrc := run_code
  obtain ⟨kx0, kx1, kx2, kx3, _⟩ := kx.two
  go_wp2_with fail
  clear kx0 kx1 kx2 kx3
  refine (hc).mono ?_
  rintro e w7 ⟨rfl, hq10⟩
  clear hc
  replace hT := hT.ext hq10
  replace hx0 := hx0.ext hq10
  replace hx1 := hx1.ext hq10
  replace kx := kx.ext hq10
  replace ke := ke.ext hq10
  replace hl1 := hl1.ext hq10
  replace kf := kf.ext hq10
  replace hy0 := hy0.ext hq10
  replace hy1 := hy1.ext hq10
  replace ky := ky.ext hq10
  replace kg := kg.ext hq10
  replace hbw := hbw.trans (hq10.mono hbw.size)
  clear hq10
  go_wp2
  go_ret
  exact ⟨rfl, hbw⟩
end Go.Proofs.YtfjpedgddgbelaaGreatDoor
namespace Go.Proofs.YtfjpedgddgbelaaGreatDoor
namespace Ix
set_option linter.unusedVariables false
/-- the postings of a word -/
def postingsF (x : Idx) (w : Str) : List Post := (Al.look x.2 w).getD []
/-- the places of a text: the last posting of its number -/
def mineF (id : Int) (ps : List Post) : List Int := ps.foldl (fun m p => if p.1 = id then p.2 else m) []
def othersF (id : Int) (ps : List Post) : List Post := ps.filter fun p => !(p.1 == id)
def addedF (x a : Idx) (id : Int) (s : List Str) : Bool :=
  decide (a.1.length = x.1.length + 1) && a.1.contains id && decide ((indexF a).1 = 0) &&
  a.2.all (fun t => mineF id t.2 == occ t.1 s 0 && othersF id t.2 == postingsF x t.1) &&
  s.all (fun w => !((postingsF a w).length == 0)) && x.2.all (fun t => !((postingsF a t.1).length == 0))
def removedF (x r : Idx) (id : Int) : Bool :=
  decide ((r.1.length : Int) = x.1.length - 1) && !r.1.contains id && decide ((indexF r).1 = 0) &&
  x.2.all (fun t => othersF id t.2 == postingsF r t.1) && decide ((x.2.filter fun t => !((othersF id t.2).length == 0)).length = r.2.length)
theorem mineF_acc {id : Int} : ∀ {ps : List Post} (m : List Int), Al.Sorted ltI ps → ps.foldl (fun m p => if p.1 = id then p.2 else m) m = (Al.look ps id).getD m
  | [], m, _ => rfl
  | p :: r, m, h => by
    unfold Al.Sorted at h
    rw [List.pairwise_cons] at h
    rw [List.foldl_cons, mineF_acc _ h.2, Al.look]
    by_cases e : p.1 = id
    · rw [if_pos e, if_pos e, Al.look_none fun q hq e2 => totI.ne (h.1 q hq) (e.trans e2.symm)]
      rfl
    · rw [if_neg e, if_neg e]
theorem mineF_eq {id : Int} {ps : List Post} (h : Al.Sorted ltI ps) : mineF id ps = (Al.look ps id).getD [] := mineF_acc [] h
theorem look_removeT {ts : List Term} (h : Wf ts) (id : Int) {t : Term} (ht : t ∈ ts) : (Al.look (removeT id ts) t.1).getD [] = othersF id t.2 := by
  have hw := h.remove id
  by_cases e : othersF id t.2 = []
  · rw [e]
    cases hl : Al.look (removeT id ts) t.1 with
    | none => rfl
    | some q =>
      have hm := Al.look_mem hl
      unfold removeT at hm
      obtain ⟨hm1, hm2⟩ := List.mem_filter.1 hm
      obtain ⟨t', ht', e'⟩ := List.mem_map.1 hm1
      simp only [Prod.mk.injEq] at e'
      have h1 := Al.look_of_mem tot_str h.srt (show (t'.1, t'.2) ∈ ts from ht')
      have h2 := Al.look_of_mem tot_str h.srt (show (t.1, t.2) ∈ ts from ht)
      rw [e'.1, h2] at h1
      injection h1 with h1
      unfold othersF at e
      rw [← h1, e] at e'
      rw [← e'.2]
      rfl
  · rw [Al.look_of_mem tot_str hw.srt (show (t.1, othersF id t.2) ∈ removeT id ts from ?_)]
    · rfl
    · unfold removeT
      refine List.mem_filter.2 ⟨List.mem_map.2 ⟨t, ht, rfl⟩, ?_⟩
      show (!((othersF id t.2).length == 0)) = true
      cases ho : othersF id t.2 with
      | nil => exact absurd ho e
      | cons a r => rfl
theorem postings_ne {x : Idx} (h : Wf x.2) {t : Term} (ht : t ∈ x.2) : (postingsF x t.1).length ≠ 0 := by
  unfold postingsF
  rw [Al.look_of_mem tot_str h.srt (show (t.1, t.2) ∈ x.2 from ht)]
  exact fun e => (h.post t ht).1 (List.eq_nil_of_length_eq_zero e)
theorem added_law {x : Idx} (h : Canon x) {id : Int} {s : List Str} (hid : id ∉ x.1) (hc : Canon (addF x id s)) : addedF x (addF x id s) id s = true := by
  have hw := h.wf
  have hw' := hc.wf
  have hct := cont_putAll id s 0 hw
  have hrem := remove_put hw id s (strange h hid)
  unfold addedF
  simp only [Bool.and_eq_true, decide_eq_true_eq, List.all_eq_true, beq_iff_eq, Bool.not_eq_true', beq_eq_false_iff_ne]
  refine ⟨⟨⟨⟨⟨insId_len hid h.ids, ?_⟩, (indexF_zero _).2 hc⟩, fun t ht => ⟨?_, ?_⟩⟩, fun w hws => ?_⟩, fun t ht => ?_⟩
  · rw [List.contains_iff_mem]; exact mem_insId.2 (.inl rfl)
  · rw [mineF_eq (hw'.post t ht).2.1]
    have := hct t.1 id
    rw [if_pos rfl, strange h hid, List.nil_append] at this
    refine Eq.trans ?_ this
    unfold cont
    rw [Al.look_of_mem tot_str (show Al.Sorted ltS (putAll id s 0 x.2) from hw'.srt) (show (t.1, t.2) ∈ putAll id s 0 x.2 from ht)]
    rfl
  · rw [← look_removeT hw' id ht]
    show _ = (Al.look x.2 t.1).getD []
    rw [show removeT id (addF x id s).2 = x.2 from hrem]
  · have := hct w id
    rw [if_pos rfl, strange h hid, List.nil_append] at this
    have hne : cont (putAll id s 0 x.2) w id ≠ [] := by
      rw [this]
      exact fun e => (occ_nil w s 0).1 e hws
    obtain ⟨t, ht, e, _⟩ := mem_cont hne
    rw [← e]
    exact postings_ne hw' ht
  · rw [show x.2 = removeT id (addF x id s).2 from hrem.symm] at ht
    unfold removeT at ht
    obtain ⟨t', ht', e⟩ := List.mem_map.1 (List.mem_filter.1 ht).1
    have := postings_ne hw' ht'
    rw [← e]
    exact this
theorem removed_law {x : Idx} (h : Canon x) {id : Int} (hid : id ∈ x.1) : removedF x (removeF x id) id = true := by
  have hw := h.wf
  have hc := canon_remove h id
  unfold removedF
  simp only [Bool.and_eq_true, decide_eq_true_eq, List.all_eq_true, beq_iff_eq, Bool.not_eq_true']
  refine ⟨⟨⟨⟨?_, ?_⟩, (indexF_zero _).2 hc⟩, fun t ht => ?_⟩, ?_⟩
  · obtain ⟨k, hk, e⟩ := List.mem_iff_getElem.1 hid
    have h1 := eraseIdx_filter h.ids hk
    rw [e] at h1
    show ((x.1.filter fun n => !(n == id)).length : Int) = _
    rw [← h1, List.length_eraseIdx, if_pos hk]
    omega
  · show (x.1.filter fun n => !(n == id)).contains id = false
    cases hcn : (x.1.filter fun n => !(n == id)).contains id with
    | false => rfl
    | true =>
      have := (List.mem_filter.1 (List.contains_iff_mem.1 hcn)).2
      simp at this
  · exact (look_removeT hw id ht).symm
  · show _ = (removeT id x.2).length
    unfold removeT
    rw [List.filter_map, List.length_map]
    rfl
/-! ### how many terms there would be -/
/-- the law's count: from the words of the text, one more for each that is not known -/
def termsGo (x : Idx) (s : List Str) : Nat → Nat → Nat → Nat
  | 0, _, n => n
  | f + 1, i, n => if 990000 < n then termsGo x s f (i + 1) (if (postingsF x (s.getD i [])).length = 0 ∧ (s.getD i []) ∉ s.take i then n + 1 else n) else n
def termsF (x : Idx) (s : List Str) : Nat := termsGo x s s.length 0 x.2.length
theorem posts_none {x : Idx} (h : Wf x.2) (w : Str) : (postingsF x w).length = 0 ↔ Al.look x.2 w = none := by
  unfold postingsF
  cases hl : Al.look x.2 w with
  | none => simp
  | some q =>
    have := (h.post _ (Al.look_mem hl)).1
    simp only [Option.getD_some, List.length_eq_zero_iff, reduceCtorEq, iff_false]
    exact this
theorem termsGo_eq {x : Idx} (h : Wf x.2) (s : List Str) : ∀ (f i n : Nat), f = s.length - i → i ≤ s.length → 990000 < n → termsGo x s f i n = n + fresh x.2 (s.take i) (s.drop i)
  | 0, i, n, hf, hi, hn => by
    have : i = s.length := by omega
    subst this
    rw [termsGo, List.drop_length, fresh]
    omega
  | f + 1, i, n, hf, hi, hn => by
    have hlt : i < s.length := by omega
    rw [termsGo, if_pos hn, termsGo_eq h s f (i + 1) _ (by omega) (by omega) (by split <;> omega), List.take_succ_eq_append_getElem hlt, List.drop_eq_getElem_cons hlt, fresh, getD_get hlt]
    simp only [posts_none h]
    split <;> omega
theorem terms_law {x : Idx} (h : Canon x) (id : Int) {s : List Str} (hs : s.length ≤ 4000) : 1000000 < termsF x s ↔ 1000000 < (putAll id s 0 x.2).length := by
  have hw := h.wf
  have hl := putAll_len id x.2 s 0 [] hw (fun w => by simp)
  have hf := fresh_le x.2 s []
  unfold termsF
  by_cases hn : 990000 < x.2.length
  · rw [termsGo_eq hw s s.length 0 x.2.length (by omega) (Nat.zero_le _) hn, hl]
    rfl
  · have : termsGo x s s.length 0 x.2.length = x.2.length := by
      cases s with
      | nil => rfl
      | cons a s => rw [List.length_cons, termsGo, if_neg hn]
    rw [this]
    omega
end Ix
end Go.Proofs.YtfjpedgddgbelaaGreatDoor
namespace Go.Proofs.YtfjpedgddgbelaaGreatDoor
open Go.RowKit

theorem in_ok (a b c : Int) (w : World) : Calls Tryz.prog 22 #[.int .i64 a, .int .i64 b, .int .i64 c] w fun e w' => e = .returned (.bool (decide (b ≤ a) && decide (a ≤ c))) ∧ w = w' := by
  by_cases h1 : b ≤ a
  all_goals
    go_enter Tryz.func22, Tryz.ntmps22
    go_wp2
    all_goals go_ret
    all_goals simp [h1]
  all_goals omega
end Go.Proofs.YtfjpedgddgbelaaGreatDoor

/-
  The example of the threads' statements.
-/
import Derived.Test.YtclobnojpmgmaaaThO3
namespace Go.Proofs.Ytclobnojpmgmaaa
open Go.RowKit
set_option linter.unusedVariables false
def exL : List Letter := [([97], [], 0), ([98], [[120], [97]], 1)]
theorem exLF : Th.lettersF exL = (0, 0) := by decide +kernel
theorem exPF : Th.parentsF exL = [-1, 0] := by decide +kernel
theorem exP : parQ exL = ([-1, 0], 0, 0) := by unfold parQ; rw [exLF, exPF]; rfl
theorem exK0 : Th.kids exL (-1) = [0] := by decide +kernel
theorem exK1 : Th.kids exL 0 = [1] := by decide +kernel
theorem exK2 : Th.kids exL 1 = [] := by decide +kernel
theorem exS : Th.shownA exL (-1) 0 = [(0, 0), (1, 1)] := by
  have h0 : Th.kidsS exL (-1) = [0] := by unfold Th.kidsS; rw [exK0]; simp
  have h1 : Th.kidsS exL 0 = [1] := by unfold Th.kidsS; rw [exK1]; simp
  have h2 : Th.kidsS exL 1 = [] := by unfold Th.kidsS; rw [exK2]; simp
  show Th.shownF exL 4 (-1) 0 = _
  rw [Th.shownF, h0]
  simp only [List.flatMap_cons, List.flatMap_nil, List.append_nil]
  rw [show ((0 : Nat) : Int) = 0 from rfl, Th.shownF, h1]
  simp only [List.flatMap_cons, List.flatMap_nil, List.append_nil]
  rw [show ((1 : Nat) : Int) = 1 from rfl, Th.shownF, h2]
  rfl
theorem exO : ordQ exL = ([0, 1], [0, 1], 0, 0) := by unfold ordQ; rw [exLF, exS]; rfl
theorem two_ints (w : World) (a b : Int) (ha : -9223372036854775808 ≤ a ∧ a ≤ 9223372036854775807) (hb : -9223372036854775808 ≤ b ∧ b ≤ 9223372036854775807) : SlR intC M0 (w.alloc (.cells #[.int .i64 a, .int .i64 b] 3)) (.slice (some ⟨w.heap.size, 0, none⟩) 2 2) [a, b] :=
  (Own.built (C := intC) (M := M0) (B := 0) 3 (els_ints M0 w [a, b] (by simp; omega)) (Nat.zero_le _) (by simp [maxLen])).read0
theorem run_code (a b : Int) (w : World) : (Instr.field 25 (.agg #[.int .i64 a, .int .i64 b]) 0).run Try.prog w = .ok (.int .i64 a) w := by kernel_rfl
set_option maxRecDepth 20000 in
set_option maxHeartbeats 4000000 in
theorem texample_ok (w : World) : Calls Try.prog 10 #[] w fun e w' => e = .returned (.bool true) ∧ Below w.heap.size w w' := by
  obtain ⟨w1, hw1⟩ : ∃ w1, w1 = w.alloc (.cells #[.string ⟨#[120]⟩, .string ⟨#[97]⟩] 9) := ⟨_, rfl⟩
  have s1 : w1.heap.size = w.heap.size + 1 := by rw [hw1]; simp
  obtain ⟨w2, hw2⟩ : ∃ w2, w2 = w1.alloc (.cells #[.string ⟨#[97]⟩, .slice none 0 0, .int .i64 0, .string ⟨#[98]⟩, .slice (some ⟨w.heap.size, 0, none⟩) 2 2, .int .i64 1] 39) := ⟨_, rfl⟩
  have h1 : SlR strC M0 w1 (.slice (some ⟨w.heap.size, 0, none⟩) 2 2) [[120], [97]] := by
    rw [hw1]
    exact (Own.built (C := strC) (M := M0) (B := 0) 9 (cs := [.string (bs [120]), .string (bs [97])]) (l := [[120], [97]])
      ((Els.single (C := strC) (cs := [.string (bs [120])]) ⟨rfl, by simp [maxLen]⟩).append (Els.single (C := strC) (cs := [.string (bs [97])]) ⟨rfl, by simp [maxLen]⟩)) (Nat.zero_le _) (by simp [maxLen])).read0
  have h2 : SlR letterC M0 w2 (.slice (some ⟨w1.heap.size, 0, none⟩) 2 2) exL := by
    rw [hw2]
    have e1 : letterC.rd M0 w1 [.string (bs [97]), .slice none 0 0, .int .i64 0] ([97], [], 0) := ⟨[.string (bs [97])], [.slice none 0 0, .int .i64 0], rfl, ⟨rfl, by simp [maxLen]⟩, [.slice none 0 0], [.int .i64 0], rfl, ⟨_, rfl, SlR.nil _ _ _⟩, rfl, by decide, by decide⟩
    have e2 : letterC.rd M0 w1 [.string (bs [98]), .slice (some ⟨w.heap.size, 0, none⟩) 2 2, .int .i64 1] ([98], [[120], [97]], 1) := ⟨[.string (bs [98])], [.slice (some ⟨w.heap.size, 0, none⟩) 2 2, .int .i64 1], rfl, ⟨rfl, by simp [maxLen]⟩, [.slice (some ⟨w.heap.size, 0, none⟩) 2 2], [.int .i64 1], rfl, ⟨_, rfl, h1⟩, rfl, by decide, by decide⟩
    exact (Own.built (C := letterC) (M := M0) (B := 0) 39 ((Els.single e1).append (Els.single e2)) (Nat.zero_le _) (by simp [maxLen])).read0
  have b02 : Below w.heap.size w w2 := below2 (hw1 ▸ (Below.refl _ _).alloc (Nat.le_refl _) _) (hw2 ▸ (Below.refl _ _).alloc (Nat.le_refl _) _)
  rw [s1] at h2
  clear h1
  have hpar := fun W (hb : Below w2.heap.size w2 W) => tparents_ok _ exL W (h2.ext hb)
  have hord := fun W (hb : Below w2.heap.size w2 W) => torder_ok _ exL W (h2.ext hb)
  have hval := fun W (hb : Below w2.heap.size w2 W) => tvalidate_ok _ exL W (h2.ext hb)
  rw [exP] at hpar
  rw [exO] at hord
  rw [exLF] at hval
  have Hpar := Lib.hid hpar; have Hord := Lib.hid hord; have Hval := Lib.hid hval
  clear hpar hord hval h2 s1
  go_enter Try.func10, Try.ntmps10
  go_wp2_with fail
  rw [← hw1, ← hw2]
  clear hw1 hw2
  refine (Hpar.out w2 (Below.refl _ _)).mono ?_
  rintro e w3 ⟨vp, rfl, hp3, hb3⟩
  dsimp only at hp3 ⊢
  obtain ⟨Ap, cp, rfl, _, _⟩ := hp3.form
  have k4 := Blk.new w3 25 #[.int .i64 0, .int .i64 0]
  have hp4 := hp3.ext ((Below.refl _ w3).alloc (Nat.le_refl _) (.cells #[.int .i64 0, .int .i64 0] 25))
  have hb4 := hb3.trans (((Below.refl _ w3).alloc (Nat.le_refl _) (.cells #[.int .i64 0, .int .i64 0] 25)).mono hb3.size)
  clear hp3 hb3
  go_wp2_with fail
  generalize w3.alloc (.cells #[.int .i64 0, .int .i64 0] 25) = w4 at k4 hp4 hb4 ⊢
  refine (Hord.out w4 hb4).mono ?_
  rintro e w5 ⟨vo, vd, rfl, ho5, hd5, hb5⟩
  dsimp only at ho5 hd5 ⊢
  obtain ⟨Ao, co, rfl, _, _⟩ := ho5.form
  obtain ⟨Ad, cd, rfl, _, _⟩ := hd5.form
  have al6 := (Below.refl _ w5).alloc (Nat.le_refl _) (.cells #[.int .i64 0, .int .i64 0] 25)
  have k6 := Blk.new w5 25 #[.int .i64 0, .int .i64 0]
  have k4 := (k4.ext hb5).ext al6
  have hp6 := (hp4.ext hb5).ext al6
  have ho6 := ho5.ext al6
  have hd6 := hd5.ext al6
  have hb6 := (hb4.trans (hb5.mono hb4.size)).trans (al6.mono (hb4.trans (hb5.mono hb4.size)).size)
  clear hp4 ho5 hd5 hb4 hb5 al6
  go_wp2_with fail
  generalize w5.alloc (.cells #[.int .i64 0, .int .i64 0] 25) = w6 at k4 k6 hp6 ho6 hd6 hb6 ⊢
  refine (Hval.out w6 hb6).mono ?_
  rintro e w7 ⟨rfl, hb7⟩
  have k4 := k4.ext hb7
  have k6 := k6.ext hb7
  have hp7 := hp6.ext hb7
  have ho7 := ho6.ext hb7
  have hd7 := hd6.ext hb7
  have b7 := b02.trans ((hb6.trans (hb7.mono hb6.size)).mono b02.size)
  clear hp6 ho6 hd6 hb6 hb7 Hpar Hord Hval b02
  obtain ⟨c4, _, _, _, _⟩ := k4.two
  have hcd := run_code 0 0
  have al8 := (Below.refl _ w7).alloc (Nat.le_refl _) (.cells #[.int .i64 (-1), .int .i64 0] 3)
  have i1 := ints_ok _ _ [-1, 0] [-1, 0] _ (hp7.ext al8) (two_ints w7 (-1) 0 (by decide) (by decide))
  have I1 := Lib.hid i1
  clear i1
  go_wp2_with fail
  refine I1.out.mono ?_
  rintro e w8 ⟨rfl, hb8⟩
  have b78 := al8.trans (hb8.mono al8.size)
  have k6 := k6.ext b78
  have ho8 := ho7.ext b78
  have hd8 := hd7.ext b78
  have b8 := b7.trans (b78.mono b7.size)
  obtain ⟨c6, _, _, _, _⟩ := k6.two
  have al9 := (Below.refl _ w8).alloc (Nat.le_refl _) (.cells #[.int .i64 0, .int .i64 1] 3)
  have i2 := ints_ok _ _ [0, 1] [0, 1] _ (ho8.ext al9) (two_ints w8 0 1 (by decide) (by decide))
  have I2 := Lib.hid i2
  clear i2 b7 b78 hp7 ho7 hd7 al8 hb8 I1 c4 k4
  go_wp2_with fail
  refine I2.out.mono ?_
  rintro e w9 ⟨rfl, hb9⟩
  have b89 := al9.trans (hb9.mono al9.size)
  have hd9 := hd8.ext b89
  have b9 := b8.trans (b89.mono b8.size)
  have al10 := (Below.refl _ w9).alloc (Nat.le_refl _) (.cells #[.int .i64 0, .int .i64 1] 3)
  have i3 := ints_ok _ _ [0, 1] [0, 1] _ (hd9.ext al10) (two_ints w9 0 1 (by decide) (by decide))
  have I3 := Lib.hid i3
  clear i3 b8 b89 ho8 hd8 al9 hb9 I2
  go_wp2_with fail
  refine I3.out.mono ?_
  rintro e w10 ⟨rfl, hb10⟩
  have b10 := b9.trans ((al10.trans (hb10.mono al10.size)).mono b9.size)
  clear I3 b9 al10 hb10
  go_wp2
  go_ret
  exact ⟨by simp, b10⟩
end Go.Proofs.Ytclobnojpmgmaaa

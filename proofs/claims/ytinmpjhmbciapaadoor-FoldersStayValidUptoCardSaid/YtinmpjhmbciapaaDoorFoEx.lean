/-
  The example of the folders' statements.
-/
import Derived.Test.YtinmpjhmbciapaaDoorFoP
namespace Go.Proofs.YtinmpjhmbciapaaDoor
open Go.RowKit

def exI : List Str := [inboxF]
def exL1 : List Str := [[97], [97, 47, 98], inboxF]
def exL2 : List Str := [[99], [99, 47, 100], [99, 47, 100, 47, 98], inboxF]
def exL3 : List Str := [[99], [99, 47, 100], inboxF]
def exL4 : List Str := [[97], inboxF]
theorem exf_create : createF exI [97, 47, 98] = (exL1, 0, 0) := by decide +kernel
theorem exf_rename : renameF exL1 [97] [99, 47, 100] = (exL2, 0, 0) := by decide +kernel
theorem exf_delete : deleteF exL2 [99, 47, 100, 47, 98] = (exL3, 0, 0) := by decide +kernel
theorem exf_list : listF exL1 [37] = (exL4, 0, 0) := by decide +kernel
theorem exf_valid : foldersF exL1 = (0, 0) := by decide +kernel
theorem exf_match : matchF [97, 47, 37] [97, 47, 98, 47, 99] = false := by decide +kernel
theorem exz1 : ∀ s ∈ exL1, s.length ≤ 4000000 := by decide +kernel
theorem exz2 : ∀ s ∈ exL2, s.length ≤ 4000000 := by decide +kernel
theorem exzI : ∀ s ∈ exI, s.length ≤ 4000000 := by decide +kernel
theorem run_code (a b : Int) (w : World) : (Instr.field 24 (.agg #[.int .i64 a, .int .i64 b]) 0).run Tryd.prog w = .ok (.int .i64 a) w := by kernel_rfl
theorem lit_strs (M : Nat → Prop) (w : World) : ∀ l : List Str, (∀ s ∈ l, s.length ≤ maxLen) → Els strC M w (l.map fun s => .string (bs s)) l
  | [], _ => Els.nil _ _ _
  | s :: l, h => (Els.single (C := strC) (cs := [.string (bs s)]) ⟨rfl, h s (by simp)⟩).append (lit_strs M w l fun x hx => h x (by simp [hx]))
theorem lit_slr (w : World) (l : List Str) (h : ∀ s ∈ l, s.length ≤ 1000) (hn : l.length ≤ 1000) : SlR strC M0 (w.alloc (.cells (l.map fun s => Value.string (bs s)).toArray 9)) (.slice (some ⟨w.heap.size, 0, none⟩) l.length l.length) l :=
  (Own.built (M := M0) (B := w.heap.size) 9 (lit_strs _ w l fun s hs => by have := h s hs; unfold maxLen; omega) (Nat.le_refl _) (by unfold maxLen; omega)).read0

set_option maxRecDepth 100000 in
set_option maxHeartbeats 8000000 in
theorem fexample_ok (w : World) : Calls Tryd.prog 24 #[] w fun e w' => e = .returned (.bool true) ∧ Below w.heap.size w w' := by
  have hl0 : SlR strC M0 (w.alloc (.cells #[.string ⟨#[105, 110, 98, 111, 120]⟩] 9)) (.slice (some ⟨w.heap.size, 0, none⟩) 1 1) exI := lit_slr w exI (by decide) (by decide)
  have hbw := (Below.refl w.heap.size w).alloc (Nat.le_refl _) (.cells #[.string ⟨#[105, 110, 98, 111, 120]⟩] 9)
  have hc := create_ok' _ exI [97, 47, 98] _ hl0 exzI (by decide)
  rw [exf_create] at hc
  go_enter Tryd.func24, Tryd.ntmps24
  go_wp2_with fail
  refine (hc).mono ?_
  rintro e w1 ⟨v1, rfl, hr1, hq1⟩
  clear hc hl0
  dsimp only at hr1 ⊢
  have ha1 := (Below.refl w1.heap.size w1).alloc (Nat.le_refl _) (.cells #[.int .i64 0, .int .i64 0] 24)
  have hc1 := below2 hq1 ha1
  replace hbw := hbw.trans (hc1.mono hbw.size)
  have k1 := Blk.new w1 24 #[.int .i64 0, .int .i64 0]
  clear hq1 hc1
  replace hr1 := hr1.ext ha1
  obtain ⟨A1, c1, rfl, _, _⟩ := hr1.form
  have hc := rename_ok' _ exL1 [97] [99, 47, 100] _ hr1 exz1 (by decide) (by decide)
  rw [exf_rename] at hc
  go_wp2_with fail
  refine (hc).mono ?_
  rintro e w2 ⟨v2, rfl, hr2, hq2⟩
  clear hc
  dsimp only at hr2 ⊢
  have ha2 := (Below.refl w2.heap.size w2).alloc (Nat.le_refl _) (.cells #[.int .i64 0, .int .i64 0] 24)
  have hc2 := below2 hq2 ha2
  replace k1 := k1.ext hc2
  replace hr1 := hr1.ext hc2
  replace hbw := hbw.trans (hc2.mono hbw.size)
  have k2 := Blk.new w2 24 #[.int .i64 0, .int .i64 0]
  clear hq2 hc2
  replace hr2 := hr2.ext ha2
  obtain ⟨A2, c2, rfl, _, _⟩ := hr2.form
  have hc := delete_ok' _ exL2 [99, 47, 100, 47, 98] _ hr2 exz2 (by decide)
  rw [exf_delete] at hc
  go_wp2_with fail
  refine (hc).mono ?_
  rintro e w3 ⟨v3, rfl, hr3, hq3⟩
  clear hc
  dsimp only at hr3 ⊢
  have ha3 := (Below.refl w3.heap.size w3).alloc (Nat.le_refl _) (.cells #[.int .i64 0, .int .i64 0] 24)
  have hc3 := below2 hq3 ha3
  replace k1 := k1.ext hc3
  replace hr1 := hr1.ext hc3
  replace k2 := k2.ext hc3
  replace hr2 := hr2.ext hc3
  replace hbw := hbw.trans (hc3.mono hbw.size)
  have k3 := Blk.new w3 24 #[.int .i64 0, .int .i64 0]
  clear hq3 hc3
  replace hr3 := hr3.ext ha3
  obtain ⟨A3, c3, rfl, _, _⟩ := hr3.form
  have hc := list_ok' _ exL1 [37] _ hr1 exz1 (by decide)
  rw [exf_list] at hc
  go_wp2_with fail
  refine (hc).mono ?_
  rintro e w4 ⟨v4, rfl, hr4, hq4⟩
  clear hc
  dsimp only at hr4 ⊢
  have ha4 := (Below.refl w4.heap.size w4).alloc (Nat.le_refl _) (.cells #[.int .i64 0, .int .i64 0] 24)
  have hc4 := below2 hq4 ha4
  replace k1 := k1.ext hc4
  replace hr1 := hr1.ext hc4
  replace k2 := k2.ext hc4
  replace hr2 := hr2.ext hc4
  replace k3 := k3.ext hc4
  replace hr3 := hr3.ext hc4
  replace hbw := hbw.trans (hc4.mono hbw.size)
  have k4 := Blk.new w4 24 #[.int .i64 0, .int .i64 0]
  clear hq4 hc4
  replace hr4 := hr4.ext ha4
  obtain ⟨A4, c4, rfl, _, _⟩ := hr4.form
  obtain ⟨W, hW⟩ : ∃ W, W = w4.alloc (.cells #[.int .i64 0, .int .i64 0] 24) := ⟨_, rfl⟩
  rw [← hW] at hr1 hr2 hr3 hr4 k1 k2 k3 k4 hbw
  clear ha1 ha2 ha3 ha4
  have HW := Lib.hid hW
  clear hW
  have hl1 : exL1.length = 3 := rfl
  have hl2 : exL2.length = 4 := rfl
  have hl3 : exL3.length = 3 := rfl
  have hl4 : exL4.length = 2 := rfl
  rw [hl1] at hr1 ⊢
  rw [hl2] at hr2 ⊢
  rw [hl3] at hr3 ⊢
  rw [hl4] at hr4 ⊢
  clear hl1 hl2 hl3 hl4
  obtain ⟨p0, _, _, _, _⟩ := k1.two
  rw [HW.out] at p0
  go_wp2_with fail
  rw [← HW.out]
  have ht : SlR strC M0 (W.alloc (.cells #[.string ⟨#[97]⟩, .string ⟨#[97, 47, 98]⟩, .string ⟨#[105, 110, 98, 111, 120]⟩] 9)) (.slice (some ⟨W.heap.size, 0, none⟩) 3 3) exL1 := lit_slr W exL1 (by decide) (by decide)
  rw [show W.heap.size = w4.heap.size + 1 by rw [HW.out, World.size_alloc]] at ht
  have hb1 := (Below.refl W.heap.size W).alloc (Nat.le_refl _) (.cells #[.string ⟨#[97]⟩, .string ⟨#[97, 47, 98]⟩, .string ⟨#[105, 110, 98, 111, 120]⟩] 9)
  have htx := texts_ok _ _ exL1 exL1 _ (hr1.ext hb1) ht
  rw [beq_self_eq_true] at htx
  clear ht p0
  replace k1 := k1.ext hb1
  replace hr1 := hr1.ext hb1
  replace k2 := k2.ext hb1
  replace hr2 := hr2.ext hb1
  replace k3 := k3.ext hb1
  replace hr3 := hr3.ext hb1
  replace k4 := k4.ext hb1
  replace hr4 := hr4.ext hb1
  replace hbw := hbw.trans (hb1.mono hbw.size)
  clear hb1
  refine (htx).mono ?_
  rintro e w5 ⟨rfl, hq5⟩
  replace k1 := k1.ext hq5
  replace hr1 := hr1.ext hq5
  replace k2 := k2.ext hq5
  replace hr2 := hr2.ext hq5
  replace k3 := k3.ext hq5
  replace hr3 := hr3.ext hq5
  replace k4 := k4.ext hq5
  replace hr4 := hr4.ext hq5
  replace hbw := hbw.trans (hq5.mono hbw.size)
  clear hq5
  clear htx
  obtain ⟨p0, _, _, _, _⟩ := k2.two
  go_wp2_with fail
  have ht : SlR strC M0 (w5.alloc (.cells #[.string ⟨#[99]⟩, .string ⟨#[99, 47, 100]⟩, .string ⟨#[99, 47, 100, 47, 98]⟩, .string ⟨#[105, 110, 98, 111, 120]⟩] 9)) (.slice (some ⟨w5.heap.size, 0, none⟩) 4 4) exL2 := lit_slr w5 exL2 (by decide) (by decide)
  have hb1 := (Below.refl w5.heap.size w5).alloc (Nat.le_refl _) (.cells #[.string ⟨#[99]⟩, .string ⟨#[99, 47, 100]⟩, .string ⟨#[99, 47, 100, 47, 98]⟩, .string ⟨#[105, 110, 98, 111, 120]⟩] 9)
  have htx := texts_ok _ _ exL2 exL2 _ (hr2.ext hb1) ht
  rw [beq_self_eq_true] at htx
  clear ht p0
  replace k1 := k1.ext hb1
  replace hr1 := hr1.ext hb1
  replace k2 := k2.ext hb1
  replace hr2 := hr2.ext hb1
  replace k3 := k3.ext hb1
  replace hr3 := hr3.ext hb1
  replace k4 := k4.ext hb1
  replace hr4 := hr4.ext hb1
  replace hbw := hbw.trans (hb1.mono hbw.size)
  clear hb1
  refine (htx).mono ?_
  rintro e w6 ⟨rfl, hq6⟩
  replace k1 := k1.ext hq6
  replace hr1 := hr1.ext hq6
  replace k2 := k2.ext hq6
  replace hr2 := hr2.ext hq6
  replace k3 := k3.ext hq6
  replace hr3 := hr3.ext hq6
  replace k4 := k4.ext hq6
  replace hr4 := hr4.ext hq6
  replace hbw := hbw.trans (hq6.mono hbw.size)
  clear hq6
  clear htx
  obtain ⟨p0, _, _, _, _⟩ := k3.two
  obtain ⟨q0, _, _, _, _⟩ := k4.two
  go_wp2_with fail
  have ht : SlR strC M0 (w6.alloc (.cells #[.string ⟨#[97]⟩, .string ⟨#[105, 110, 98, 111, 120]⟩] 9)) (.slice (some ⟨w6.heap.size, 0, none⟩) 2 2) exL4 := lit_slr w6 exL4 (by decide) (by decide)
  have hb1 := (Below.refl w6.heap.size w6).alloc (Nat.le_refl _) (.cells #[.string ⟨#[97]⟩, .string ⟨#[105, 110, 98, 111, 120]⟩] 9)
  have htx := texts_ok _ _ exL4 exL4 _ (hr4.ext hb1) ht
  rw [beq_self_eq_true] at htx
  clear ht p0 q0
  replace k1 := k1.ext hb1
  replace hr1 := hr1.ext hb1
  replace k2 := k2.ext hb1
  replace hr2 := hr2.ext hb1
  replace k3 := k3.ext hb1
  replace hr3 := hr3.ext hb1
  replace k4 := k4.ext hb1
  replace hr4 := hr4.ext hb1
  replace hbw := hbw.trans (hb1.mono hbw.size)
  clear hb1
  refine (htx).mono ?_
  rintro e w7 ⟨rfl, hq7⟩
  replace k1 := k1.ext hq7
  replace hr1 := hr1.ext hq7
  replace k2 := k2.ext hq7
  replace hr2 := hr2.ext hq7
  replace k3 := k3.ext hq7
  replace hr3 := hr3.ext hq7
  replace k4 := k4.ext hq7
  replace hr4 := hr4.ext hq7
  replace hbw := hbw.trans (hq7.mono hbw.size)
  clear hq7
  clear htx
  have hv := validate_ok _ exL1 w7 hr1 exz1
  rw [exf_valid] at hv
  go_wp2_with fail
  refine (hv).mono ?_
  rintro e w8 ⟨rfl, hq8⟩
  replace k1 := k1.ext hq8
  replace hr1 := hr1.ext hq8
  replace k2 := k2.ext hq8
  replace hr2 := hr2.ext hq8
  replace k3 := k3.ext hq8
  replace hr3 := hr3.ext hq8
  replace k4 := k4.ext hq8
  replace hr4 := hr4.ext hq8
  replace hbw := hbw.trans (hq8.mono hbw.size)
  clear hq8
  clear hv
  have hcd := run_code 0 0
  have hm := match_ok [97, 47, 37] [97, 47, 98, 47, 99] w8 (by decide) (by decide)
  rw [exf_match] at hm
  go_wp2_with fail
  refine (hm).mono ?_
  rintro e w9 ⟨rfl, hq9⟩
  replace k1 := k1.ext hq9
  replace hr1 := hr1.ext hq9
  replace k2 := k2.ext hq9
  replace hr2 := hr2.ext hq9
  replace k3 := k3.ext hq9
  replace hr3 := hr3.ext hq9
  replace k4 := k4.ext hq9
  replace hr4 := hr4.ext hq9
  replace hbw := hbw.trans (hq9.mono hbw.size)
  clear hq9
  go_wp2
  go_ret
  exact ⟨rfl, hbw⟩
end Go.Proofs.YtinmpjhmbciapaaDoor

/-
  The example of the rights' statements.
-/
import Derived.Test.YtopldghfphgjoaaSet
import Derived.Test.YtopldghfphgjoaaRg9
namespace Go.Proofs.Ytopldghfphgjoaa
open Go.RowKit

def exGs : List Group := [([103], [[117]])]
def exG1 : List Grant := [([35, 103], false, 7)]
def exX : Grant := ([117], true, 2)
def exG2 : List Grant := [([35, 103], false, 7), ([117], true, 2)]
theorem exr_set : setR exG1 exX = (exG2, 0, 0) := by decide +kernel
theorem exr_of : ofR exGs exG2 [117] = (5, 0, 0) := by decide +kernel
theorem exr_groups : groupsF exGs = (0, 0) := by decide +kernel
theorem exr_grants : grantsF exG2 = (0, 0) := by decide +kernel

theorem run_code (a b : Int) (w : World) : (Instr.field 24 (.agg #[.int .i64 a, .int .i64 b]) 0).run Try.prog w = .ok (.int .i64 a) w := by kernel_rfl

set_option maxRecDepth 20000 in
set_option maxHeartbeats 4000000 in
theorem rexample_ok (w : World) : Calls Try.prog 28 #[] w fun e w' => e = .returned (.bool true) ∧ Below w.heap.size w w' := by
  obtain ⟨w1, hw1⟩ : ∃ w1, w1 = w.alloc (.cells #[.string ⟨#[117]⟩] 9) := ⟨_, rfl⟩
  have s1 : w1.heap.size = w.heap.size + 1 := by rw [hw1]; simp
  obtain ⟨w2, hw2⟩ : ∃ w2, w2 = w1.alloc (.cells #[.string ⟨#[103]⟩, .slice (some ⟨w.heap.size, 0, none⟩) 1 1] 80) := ⟨_, rfl⟩
  have s2 : w2.heap.size = w.heap.size + 1 + 1 := by rw [hw2, World.size_alloc, s1]
  obtain ⟨w3, hw3⟩ : ∃ w3, w3 = w2.alloc (.cells #[.string ⟨#[35, 103]⟩, .bool false, .int .i64 7] 47) := ⟨_, rfl⟩
  have s3 : w3.heap.size = w.heap.size + 3 := by rw [hw3, World.size_alloc, s2]
  have h1 : SlR strC M0 w1 (.slice (some ⟨w.heap.size, 0, none⟩) 1 1) [[117]] :=
    hw1 ▸ SlR.built (C := strC) 9 (cs := [.string (bs [117])]) ⟨rfl, by simp [maxLen]⟩ (fun b h => h.elim)
  have h2 : SlR groupC M0 w2 (.slice (some ⟨w1.heap.size, 0, none⟩) 1 1) exGs :=
    hw2 ▸ SlR.built (C := groupC) 80 (cs := [.string (bs [103]), .slice (some ⟨w.heap.size, 0, none⟩) 1 1]) (a := ([103], [[117]])) ⟨[.string (bs [103])], [.slice (some ⟨w.heap.size, 0, none⟩) 1 1], rfl, ⟨rfl, by simp [maxLen]⟩, _, rfl, h1⟩ (fun b h => h.elim)
  have h3 : SlR grantC M0 w3 (.slice (some ⟨w2.heap.size, 0, none⟩) 1 1) exG1 :=
    hw3 ▸ SlR.built (C := grantC) 47 (grant_rd (a := ([35, 103], false, 7)) (by simp [maxLen]) (by decide)) (fun b h => h.elim)
  have b23 : Below w2.heap.size w2 w3 := hw3 ▸ (Below.refl _ _).alloc (Nat.le_refl _) _
  have b13 : Below w1.heap.size w1 w3 := below2 (hw2 ▸ (Below.refl _ _).alloc (Nat.le_refl _) _) b23
  have b03 : Below w.heap.size w w3 := below2 (hw1 ▸ (Below.refl _ _).alloc (Nat.le_refl _) _) b13
  have hg3 := h2.ext b23
  rw [s1] at hg3
  rw [s2] at h3
  have Hs := Lib.hid s3
  clear h1 h2 b13 b23
  go_enter Try.func28, Try.ntmps28
  go_wp2_with fail
  rw [← hw1, ← hw2, ← hw3]
  clear hw1 hw2 hw3 s1 s2 s3
  refine (set_ok _ exG1 exX w3 h3 (by simp [maxLen, exX]) (by simp [exX]) (by simp [exX])).mono ?_
  rintro e w4 ⟨v4, rfl, hr4, hb4⟩
  rw [exr_set] at hr4 ⊢
  obtain ⟨A4, c4, rfl, _, _⟩ := hr4.form
  dsimp only
  have hg4 := hg3.ext hb4
  have b04 := below2 b03 hb4
  have kE := Blk.new w4 24 #[.int .i64 0, .int .i64 0]
  have bE := (Below.refl w4.heap.size w4).alloc (Nat.le_refl _) (.cells #[.int .i64 0, .int .i64 0] 24)
  have hr5 := hr4.ext bE
  have hg5 := hg4.ext bE
  have b05 := below2 b04 bE
  clear hg3 h3 b03 hb4 hr4 hg4 b04 bE
  go_wp2_with fail
  generalize w4.alloc (.cells #[.int .i64 0, .int .i64 0] 24) = w5 at kE hr5 hg5 b05 ⊢
  refine (of_ok _ _ exGs exG2 [117] w5 hg5 hr5 (by simp [maxLen])).mono ?_
  rintro e w6 ⟨rfl, hb6⟩
  rw [exr_of]
  dsimp only
  have kE6 := kE.ext hb6
  have b06 := below2 b05 hb6
  have kF := Blk.new w6 24 #[.int .i64 0, .int .i64 0]
  have bF := (Below.refl w6.heap.size w6).alloc (Nat.le_refl _) (.cells #[.int .i64 0, .int .i64 0] 24)
  have hr7 := (hr5.ext hb6).ext bF
  have hg7 := (hg5.ext hb6).ext bF
  have b07 := below2 b06 bF
  have kE7 := kE6.ext bF
  obtain ⟨w7, hw7⟩ : ∃ w7, w7 = w6.alloc (.cells #[.int .i64 0, .int .i64 0] 24) := ⟨_, rfl⟩
  rw [← hw7] at kF hr7 hg7 b07 kE7
  clear hr5 hg5 b05 b06 kE kE6 hb6 bF
  obtain ⟨p0, p1, _, _, _⟩ := kE7.two
  obtain ⟨q0, q1, _, _, _⟩ := kF.two
  have hl2 : exG2.length = 2 := rfl
  rw [hl2] at hr7 ⊢
  rw [hw7] at p0 p1 q0 q1
  have hgs : Calls Try.prog 29 #[.slice (some ⟨w.heap.size + 1, 0, none⟩) 1 1] w7 fun e w' => e = .returned (.agg #[.int .i64 0, .int .i64 0]) ∧ Below w7.heap.size w7 w' := by
    have := groups_ok _ exGs w7 hg7
    rwa [exr_groups] at this
  have hgr : ∀ W, Below w7.heap.size w7 W → Calls Try.prog 30 #[.slice A4 2 c4] W fun e w' => e = .returned (.agg #[.int .i64 0, .int .i64 0]) ∧ Below W.heap.size W w' := fun W hW => by
    have := grants_ok _ exG2 W (hr7.ext hW)
    rwa [exr_grants] at this
  have Hgs := Lib.hid hgs
  have Hgr := Lib.hid hgr
  clear hgs hgr hr7 hg7
  go_wp2_with fail
  rw [← hw7]
  refine Hgs.out.mono ?_
  rintro e w8 ⟨rfl, hb8⟩
  have HG := Hgr.out w8 hb8
  have hcd := run_code 0 0
  have b08 := below2 b07 hb8
  clear p0 p1 q0 q1
  go_wp2_with fail
  refine HG.mono ?_
  rintro e w9 ⟨rfl, hb9⟩
  go_wp2
  go_ret
  exact ⟨by simp, below2 b08 hb9⟩
end Go.Proofs.Ytopldghfphgjoaa

/-
  threads.Order of letters that are not valid.
-/
import Derived.Test.YtclobnojpmgmaaaThOs
namespace Go.Proofs.Ytclobnojpmgmaaa
open Go.RowKit
set_option linter.unusedVariables false
set_option maxHeartbeats 4000000 in
theorem torder_bad (A : Option Addr) (c : Nat) (l : List Letter) (w : World) (h : SlR letterC M0 w (.slice A l.length c) l) (h0 : (Th.lettersF l).1 ≠ 0) : Calls Try.prog 8 #[.slice A l.length c] w fun e w' =>
    e = .returned (.tuple #[.slice none 0 0, .slice none 0 0, .agg #[.int .i64 (Th.lettersF l).1, .int .i64 (Th.lettersF l).2]]) ∧ Below w.heap.size w w' := by
  have hL := fun w' (hb : Below w.heap.size w w') => tvalidate_ok _ l w' (h.ext hb)
  obtain ⟨g1, hg1⟩ : ∃ g1, (Th.lettersF l).1 = g1 := ⟨_, rfl⟩
  obtain ⟨g2, hg2⟩ : ∃ g2, (Th.lettersF l).2 = g2 := ⟨_, rfl⟩
  rw [hg1, hg2] at hL
  rw [hg1, hg2]
  rw [hg1] at h0
  have HL := Lib.hid hL
  clear hL hg1 hg2
  obtain ⟨w0, hw0⟩ : ∃ w0, ((w.alloc (.cells #[.slice none 0 0] 23)).alloc (.cells #[.slice none 0 0] 23)).alloc (.cells #[.int .i64 0, .int .i64 0] 25) = w0 := ⟨_, rfl⟩
  have hs0 : w0.heap.size = w.heap.size + 3 := by rw [← hw0]; simp
  have hb0 : Below w.heap.size w w0 := by
    rw [← hw0]
    exact (((Below.refl _ w).alloc (Nat.le_refl _) _).alloc (by simp) _).alloc (by simp; omega) _
  have k2 : Blk w0 w.heap.size 23 #[.slice none 0 0] := hw0 ▸ ((Blk.new w _ _).alloc _).alloc _
  have k3 : Blk w0 (w.heap.size + 1) 23 #[.slice none 0 0] := hw0 ▸ (by have := (Blk.new (w.alloc (.cells #[.slice none 0 0] 23)) 23 #[.slice none 0 0]).alloc (.cells #[.int .i64 0, .int .i64 0] 25); simpa using this)
  have k4 : Blk w0 (w.heap.size + 2) 25 #[.int .i64 0, .int .i64 0] := hw0 ▸ (by have := Blk.new ((w.alloc (.cells #[.slice none 0 0] 23)).alloc (.cells #[.slice none 0 0] 23)) 25 #[.int .i64 0, .int .i64 0]; simpa using this)
  have HW0 := Lib.hid hw0
  clear hw0
  refine calls_of_wp_marks Try.func8 rfl ?_
  simp only [Try.ntmps8, List.size_toArray, List.length_cons, List.length_nil, Nat.reduceAdd, Nat.reduceSub, Array.replicate_succ, Array.replicate_zero, List.push_toArray, List.append_toArray, List.nil_append, List.cons_append]
  go_wp2_with fail
  rw [HW0.out]
  refine (HL.out _ hb0).mono ?_
  rintro e w1 ⟨rfl, hb1⟩
  obtain ⟨r4, hr4⟩ : ∃ r, w.heap.size + 1 + 1 = r := ⟨_, rfl⟩
  rw [hr4]
  rw [show w.heap.size + 2 = r4 from hr4] at k4
  obtain ⟨r3, hr3⟩ : ∃ r, w.heap.size + 1 = r := ⟨_, rfl⟩
  rw [hr3] at k3 ⊢
  obtain ⟨r2, hr2⟩ : ∃ r, w.heap.size = r := ⟨_, rfl⟩
  rw [hr2] at k2 ⊢
  have k2 := k2.ext hb1
  have k3 := k3.ext hb1
  have k4 := k4.ext hb1
  have b1 := hb0.trans (hb1.mono hb0.size)
  have hs1 := hb1.size
  obtain ⟨r5, hr5⟩ : ∃ r, w1.heap.size = r := ⟨_, rfl⟩
  have Hr : Hid (r2 = w.heap.size ∧ r3 = r2 + 1 ∧ r4 = r2 + 2 ∧ r2 + 3 ≤ r5) := Lib.hid (by omega)
  clear hb0 hb1 hs0 hs1 hr2 hr3 hr4 HW0 HL
  have hb1 : Below w.heap.size w w1 := b1
  clear b1
  go_wp2_with fail
  refine (failed_ok _ _ _).mono ?_
  rintro e w2 ⟨rfl, hb2⟩
  have k2 := (k2.alloc _).ext hb2
  have k3 := (k3.alloc _).ext hb2
  have k4 := (k4.alloc _).ext hb2
  have k5 := (Blk.new w1 25 #[.int .i64 g1, .int .i64 g2]).ext hb2
  have b2 := (hb1.alloc hb1.size _).trans (hb2.mono (hb1.alloc hb1.size _).size)
  clear hb1 hb2
  have hgb : (g1 != 0) = true := by simpa using h0
  rw [hgb]
  rw [hr5] at k5
  clear hr5
  have hn : r2 ≠ r3 ∧ r2 ≠ r4 ∧ r3 ≠ r4 ∧ r5 ≠ r2 ∧ r5 ≠ r3 ∧ r5 ≠ r4 ∧ w.heap.size ≤ r2 ∧ w.heap.size ≤ r3 ∧ w.heap.size ≤ r4 := by have := Hr.out; omega
  obtain ⟨n23, n24, n34, n52, n53, n54, m2, m3, m4⟩ := hn
  obtain ⟨e0, e1, x0, x1, s5⟩ := k5.two
  obtain ⟨c0, c1', z0, z1, s4⟩ := k4.two
  obtain ⟨e2, z2, s2⟩ := k2.one
  obtain ⟨e3, z3, s3⟩ := k3.one
  go_wp2
  go_region
  all_goals go_wp2
  obtain ⟨W8, hW8⟩ : ∃ W8, ((((w2.setCell ⟨r2, 0, none⟩ (.slice none 0 0)).setCell ⟨r3, 0, none⟩ (.slice none 0 0)).setCell ⟨r4, 0, none⟩ (.int .i64 g1)).setCell ⟨r4, 1, none⟩ (.int .i64 g2)) = W8 := ⟨_, rfl⟩
  have q2 : Blk W8 r2 23 #[.slice none 0 0] := by
    rw [← hW8]
    have := (((k2.set_ 0 (.slice none 0 0)).far (p := ⟨r3, 0, none⟩) n23 (.slice none 0 0)).far (p := ⟨r4, 0, none⟩) n24 (.int .i64 g1)).far (p := ⟨r4, 1, none⟩) n24 (.int .i64 g2)
    simpa using this
  have q3 : Blk W8 r3 23 #[.slice none 0 0] := by
    rw [← hW8]
    have := (((k3.far (p := ⟨r2, 0, none⟩) (fun e => n23 e.symm) (.slice none 0 0)).set_ 0 (.slice none 0 0)).far (p := ⟨r4, 0, none⟩) n34 (.int .i64 g1)).far (p := ⟨r4, 1, none⟩) n34 (.int .i64 g2)
    simpa using this
  have q4 : Blk W8 r4 25 #[.int .i64 g1, .int .i64 g2] := by
    rw [← hW8]
    have := (((k4.far (p := ⟨r2, 0, none⟩) (fun e => n24 e.symm) (.slice none 0 0)).far (p := ⟨r3, 0, none⟩) (fun e => n34 e.symm) (.slice none 0 0)).set_ 0 (.int .i64 g1)).set_ 1 (.int .i64 g2)
    simpa using this
  have hbw : Below w.heap.size w W8 := by
    rw [← hW8]
    exact Below.setCell (Below.setCell (Below.setCell (Below.setCell b2 m2 _) m3 _) m4 _) m4 _
  rw [hW8]
  clear hW8
  have q2 := q2.drewN 1
  have q3 := q3.drewN 1
  have q4 := q4.drewN 1
  have f2 : W8.drew.cell? ⟨r2, 0, none⟩ = some (.slice none 0 0) := q2.one.1
  have f3 : W8.drew.cell? ⟨r3, 0, none⟩ = some (.slice none 0 0) := q3.one.1
  have f0 : W8.drew.cell? ⟨r4, 0, none⟩ = some (.int .i64 g1) := q4.two.1
  have f1 : W8.drew.cell? ⟨r4, 1, none⟩ = some (.int .i64 g2) := q4.two.2.1
  exact bodyPostM_none (v := .tuple #[.slice none 0 0, .slice none 0 0, .agg #[.int .i64 g1, .int .i64 g2]]) (by simp [results, Try.results8, go_sem, f0, f1, f2, f3]) ⟨rfl, below_drew hbw⟩
end Go.Proofs.Ytclobnojpmgmaaa

/-
  The law of repaired logs: its walk.
-/
import Derived.Test.YtopldghfphgjoaaRecL2
namespace Go.Proofs.Ytopldghfphgjoaa
open Go.RowKit

theorem repaired_facts (l r : List UInt8) (hl : l.length ≤ 400000) :
    let z := endOf (recs l)
    repairF l = (l.take z, 0, 0) ∧ (l.take z).length = z ∧ readF l = ((recs l).map (·.2), z, 0, 0) ∧ readF (l.take z) = ((recs l).map (·.2), z, 0, 0) ∧
      (r.length ≤ 1000 → z ≤ 390000 → ∃ la x2, appendF (l.take z) r = (la, 0, x2)) := by
  intro z
  have hz : z ≤ l.length := endOf_le l
  have hlen : (l.take z).length = z := by rw [List.length_take]; omega
  have hrr : recs (l.take z) = recs l := recs_repair l
  refine ⟨by rw [repairF, if_neg (by omega)], hlen, by rw [readF, if_neg (by omega)], by rw [readF, if_neg (by omega), hrr], fun h1 h2 => ?_⟩
  exact ⟨_, _, by rw [appendF, if_neg (by omega), hrr, if_neg (by omega), if_neg (by omega), if_neg (by omega)]⟩

set_option maxRecDepth 100000 in
set_option maxHeartbeats 4000000 in
theorem repaired_walk (v0 : Value) (l : List UInt8) (v1 : Value) (r : List UInt8) (w : World) (h0 : SlR byteC M0 w v0 l) (h1 : SlR byteC M0 w v1 r) :
    Calls Try.prog 5 #[v0, v1] w fun e w' => e = .returned (.bool true) ∧ Below w.heap.size w w' := by
  obtain ⟨A0, c0, rfl, hlc0, _⟩ := h0.form
  obtain ⟨A1, c1, rfl, hlc1, _⟩ := h1.form
  by_cases hl : 400000 < l.length
  · have hP : repairF l = ([], 1, -1) := by rw [repairF, if_pos hl]
    have HP := Lib.hid hP
    clear hP
    go_enter Try.func5, Try.ntmps5
    go_wp2_with fail
    refine (example_ok _).mono ?_
    rintro e wa ⟨rfl, hba⟩
    have h0a := h0.ext hba
    go_wp2_with fail
    refine (repair_ok _ l _ h0a).mono ?_
    rintro e w1 ⟨u, he, hown1, hb1⟩
    rw [HP.out] at he hown1
    subst he
    obtain ⟨A2, c2, rfl, _, _⟩ := hown1.shape
    have hbw := below2 hba hb1
    clear hown1 h0a h0 h1 hb1 hba
    go_wp2
    go_ret
    exact ⟨rfl, hbw.alloc hbw.size _⟩
  · obtain ⟨f1, f2, f3, f4, f5⟩ := repaired_facts l r (by omega)
    have hzl := endOf_le l
    obtain ⟨z, hz⟩ : ∃ z, z = endOf (recs l) := ⟨_, rfl⟩
    obtain ⟨lp, hlp⟩ : ∃ lp, lp = l.take z := ⟨_, rfl⟩
    obtain ⟨lr, hlr⟩ : ∃ lr, lr = (recs l).map (·.2) := ⟨_, rfl⟩
    have hls : lr.length ≤ 1000000000 := by have := recs_count l; rw [hlr, List.length_map]; omega
    rw [← hz] at f1 f2 f3 f4 f5 hzl
    rw [← hlp] at f1 f2 f4 f5
    rw [← hlr] at f3 f4
    have F1 := Lib.hid f1; have F2 := Lib.hid f2; have F3 := Lib.hid f3; have F4 := Lib.hid f4; have F5 := Lib.hid f5
    clear f1 f2 f3 f4 f5 hz hlp hlr
    go_enter Try.func5, Try.ntmps5
    go_wp2_with fail
    refine (example_ok _).mono ?_
    rintro e wa ⟨rfl, hba⟩
    have h0a := h0.ext hba
    have h1a := h1.ext hba
    go_wp2_with fail
    refine (repair_ok _ l _ h0a).mono ?_
    rintro e w1 ⟨u, he, hown1, hb1⟩
    rw [F1.out] at he hown1
    subst he
    obtain ⟨A2, c2, rfl, hc21, _⟩ := hown1.shape
    have hbw1 := below2 hba hb1
    have hp1 := hown1.read0
    have h01 := h0a.ext hb1
    have h11 := h1a.ext hb1
    have k11 := Blk.new w1 24 #[.int .i64 0, .int .i64 0]
    obtain ⟨w2, hw2⟩ : ∃ w2, w2 = w1.alloc (.cells #[.int .i64 0, .int .i64 0] 24) := ⟨_, rfl⟩
    have hb12 : Below w1.heap.size w1 w2 := hw2 ▸ (Below.refl _ _).alloc (Nat.le_refl _) _
    rw [← hw2] at k11
    have h02 := h01.ext hb12
    have h12 := h11.ext hb12
    have hp2 := hp1.ext hb12
    have hbw2 := below2 hbw1 hb12
    have Hw2 := Lib.hid hw2
    clear hown1 h0 h1 h0a h1a hba hb1 hw2 hp1 h01 h11
    by_cases hr : 1000 < r.length
    · clear k11 h02 h12 hp2
      go_wp2
      go_ret
      exact ⟨rfl, hbw1.alloc hbw1.size _⟩
    · by_cases hz9 : 390000 < lp.length
      · clear k11 h02 h12 hp2
        go_wp2
        go_ret
        exact ⟨rfl, hbw1.alloc hbw1.size _⟩
      · obtain ⟨la, x2, hA⟩ := F5.out (by omega) (by have := F2.out; omega)
        have HA := Lib.hid hA
        clear hA
        go_wp2_with fail
        rw [← Hw2.out]
        refine (read_ok _ l _ h02).mono ?_
        rintro e w3 ⟨u3, he, hr3, hb3⟩
        rw [F3.out] at he hr3
        subst he
        obtain ⟨A3, c3, rfl, hc31, hc32⟩ := hr3.form
        have b33 := (Below.refl w3.heap.size w3).alloc (Nat.le_refl _) (.cells #[.int .i64 0, .int .i64 0] 24)
        have hp3 := (hp2.ext hb3).ext b33
        have k33 := Blk.new w3 24 #[.int .i64 0, .int .i64 0]
        have hr33 := hr3.ext b33
        have h13 := (h12.ext hb3).ext b33
        have hbw3 := below2 (below2 hbw2 hb3) b33
        clear k11 h02 h12 hp2 hr3 b33 hb3
        go_wp2_with fail
        refine (read_ok _ lp _ hp3).mono ?_
        rintro e w4 ⟨u4, he, hr4, hb4⟩
        rw [F4.out] at he hr4
        subst he
        obtain ⟨A4, c4, rfl, hc41, hc42⟩ := hr4.form
        have b44 := (Below.refl w4.heap.size w4).alloc (Nat.le_refl _) (.cells #[.int .i64 0, .int .i64 0] 24)
        have hp4 := (hp3.ext hb4).ext b44
        have h14 := (h13.ext hb4).ext b44
        have k44 := Blk.new w4 24 #[.int .i64 0, .int .i64 0]
        have k34 := (k33.ext hb4).ext b44
        have hr34 := (hr33.ext hb4).ext b44
        have hr44 := hr4.ext b44
        have hbw4 := below2 (below2 hbw3 hb4) b44
        clear hp3 h13 k33 hr33 hr4 b44 hb4
        go_wp2_with fail
        refine (append_ok _ _ lp r _ hp4 h14).mono ?_
        rintro e w5 ⟨u5, he, hown5, hb5⟩
        rw [HA.out] at he hown5
        subst he
        obtain ⟨p0, p1, _, _, pb⟩ := (k34.ext hb5).two
        obtain ⟨q0, q1, _, _, qb⟩ := (k44.ext hb5).two
        have b55 := (Below.refl w5.heap.size w5).alloc (Nat.le_refl _) (.cells #[.int .i64 0, .int .i64 x2] 24)
        have hr55 := (hr34.ext hb5).ext b55
        have hr45 := (hr44.ext hb5).ext b55
        have hbw5 := below2 (below2 hbw4 hb5) b55
        have hzz : ((z : Int) == (lp.length : Int)) = true := by have := F2.out; simp; omega
        clear hp4 h14 k44 k34 hr34 hr44 hown5 b55 hb5
        go_wp2_with fail
        refine ((sameRecords_ok M0 _ _ lr lr _ hr55 hr45 hls).mono fun e w' h => (⟨by rw [h.1, beq_self_eq_true], h.2⟩ : e = .returned (.bool true) ∧ ∃ n, w' = _)).mono ?_
        rintro e w6 ⟨rfl, k, rfl⟩
        go_wp2
        go_ret
        exact ⟨rfl, hbw5.trans (below_drewN' _ _ _)⟩
end Go.Proofs.Ytopldghfphgjoaa

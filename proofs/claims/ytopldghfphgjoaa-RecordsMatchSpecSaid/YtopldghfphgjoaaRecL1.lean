/-
  The law of the records' specification: its walk.
-/
import Derived.Test.YtopldghfphgjoaaRecEx
import Derived.Test.YtopldghfphgjoaaRecPure
namespace Go.Proofs.Ytopldghfphgjoaa
open Go.RowKit

set_option maxRecDepth 100000 in
set_option maxHeartbeats 4000000 in
theorem match_walk (v0 : Value) (l : List UInt8) (v1 : Value) (r : List UInt8) (w : World) (h0 : SlR byteC M0 w v0 l) (h1 : SlR byteC M0 w v1 r) :
    Calls Try.prog 3 #[v0, v1] w fun e w' => e = .returned (.bool true) ∧ Below w.heap.size w w' := by
  obtain ⟨A0, c0, rfl, hlc0, _⟩ := h0.form
  obtain ⟨A1, c1, rfl, hlc1, _⟩ := h1.form
  have hm1 := h1.len_le
  obtain ⟨⟨la, x1, x2⟩, hA⟩ : ∃ p, appendF l r = p := ⟨_, rfl⟩
  obtain ⟨⟨lr, n, y1, y2⟩, hR⟩ : ∃ p, readF l = p := ⟨_, rfl⟩
  obtain ⟨⟨lp, z1, z2⟩, hP⟩ : ∃ p, repairF l = p := ⟨_, rfl⟩
  have HA := Lib.hid hA; have HR := Lib.hid hR; have HP := Lib.hid hP
  have Hm1 := Lib.hid hm1
  clear hA hR hP hm1
  go_enter Try.func3, Try.ntmps3
  go_wp2_with (first
    | (go_at_call 11; refine (append_ok _ _ l r _ h0 h1).mono ?_; rintro e w1 ⟨u, he, hown1, hb1⟩; rw [HA.out] at he hown1; subst he; obtain ⟨A2, c2, rfl, _, _⟩ := hown1.shape; have ha1 := hown1.read0; clear hown1)
    | (go_at_call 12; refine (read_ok _ l _ (h0.ext (hb1.alloc hb1.size _))).mono ?_; rintro e w2 ⟨u2, he, hr2, hb2⟩; rw [HR.out] at he hr2; subst he; obtain ⟨A3, c3, rfl, _, _⟩ := hr2.form; have k1 := (Blk.new w1 _ _).ext hb2; have ha2 := ha1.ext (below_alloc hb2); have hbw2 := below2 hb1 (below_alloc hb2))
    | (go_at_call 13; refine (repair_ok _ l _ (h0.ext (hbw2.alloc hbw2.size _))).mono ?_; rintro e w3 ⟨u3, he, hown3, hb3⟩; rw [HP.out] at he hown3; subst he; obtain ⟨A4, c4, rfl, _, _⟩ := hown3.shape; have hp3 := hown3.read0; clear hown3; have k2 := (Blk.new w2 _ _).ext hb3; have k1' := k1.ext (below_alloc hb3); have ha3 := ha2.ext (below_alloc hb3); have hr3 := hr2.ext (below_alloc hb3); have hbw3 := below2 hbw2 (below_alloc hb3))
    | (go_at_call 14; refine (example_ok _).mono ?_; rintro e w4 ⟨rfl, hb4⟩; have k3 := (Blk.new w3 _ _).ext hb4; have k2' := k2.ext (below_alloc hb4); have k1'' := k1'.ext (below_alloc hb4); have ha4 := ha3.ext (below_alloc hb4); have hr4 := hr3.ext (below_alloc hb4); have hp4 := hp3.ext (below_alloc hb4); have hbw4 := below2 hbw3 (below_alloc hb4)))
  have hh0 := h0.ext hbw4
  have hh1 := h1.ext hbw4
  clear hb1 hb2 hb3 hb4 k1 k1' k2 ha1 ha2 ha3 hr2 hr3 hp3 h0 h1 hbw2 hbw3
  obtain ⟨s, hs⟩ : ∃ s : Int, s = ((sumF r).toNat : Int) := ⟨_, rfl⟩
  have Hs := Lib.hid hs
  clear hs
  refine ((sum_ok M0 _ r _ hh1 Hm1.out).mono fun e w' h => (⟨by rw [h.1, Hs.out], h.2⟩ : e = .returned (.int .u64 s) ∧ w4 = w')).mono ?_
  rintro e w5 ⟨rfl, rfl⟩
  go_wp2_with fail
  refine ((refSum_ok M0 _ r _ hh1 Hm1.out).mono fun e w' h => (⟨by rw [h.1, Hs.out], h.2⟩ : e = .returned (.int .u64 s) ∧ w4 = w')).mono ?_
  rintro e w5 ⟨rfl, rfl⟩
  go_wp2_with fail
  by_cases hl : 400000 < l.length
  · refine (logFault_ok M0 _ l _ hh0).mono ?_
    rintro e w5 ⟨he, hb5⟩
    rw [if_pos hl, if_pos hl] at he
    subst he
    have hbw5 := below2 hbw4 hb5
    have hA := HA.out; have hR := HR.out; have hP := HP.out
    simp only [appendF, readF, repairF, if_pos hl, Prod.mk.injEq] at hA hR hP
    obtain ⟨rfl, rfl, rfl⟩ := hA
    obtain ⟨rfl, rfl, rfl, rfl⟩ := hR
    obtain ⟨rfl, rfl, rfl⟩ := hP
    obtain ⟨p0, p1, _, _, pb⟩ := (k1''.ext hb5).two
    obtain ⟨q0, q1, _, _, qb⟩ := (k2'.ext hb5).two
    obtain ⟨r0, r1, _, _, rb⟩ := (k3.ext hb5).two
    clear k1'' k2' k3 ha4 hr4 hp4 hh0 hh1
    go_wp2_with fail
    go_ret
    exact ⟨rfl, hbw5.alloc hbw5.size _⟩
  · refine (logFault_ok M0 _ l _ hh0).mono ?_
    rintro e w5 ⟨he, hb5⟩
    rw [if_neg hl, if_neg hl] at he
    subst he
    have hbw5 := below2 hbw4 hb5
    have hn : l.length ≤ 400000 := by omega
    have hA := HA.out; have hR := HR.out; have hP := HP.out
    simp only [appendF, readF, repairF, if_neg hl, Prod.mk.injEq] at hA hR hP
    obtain ⟨hr1, hr2, rfl, rfl⟩ := hR
    obtain ⟨hp1, rfl, rfl⟩ := hP
    rw [hr2] at hp1 hA
    have Hr1 := Lib.hid hr1; have Hr2 := Lib.hid hr2; have Hp1 := Lib.hid hp1; have HA2 := Lib.hid hA
    have hzn : n ≤ l.length := hr2 ▸ endOf_recs_le l
    clear hr1 hr2 hp1 hA
    obtain ⟨p0, p1, _, _, pb⟩ := (k1''.ext hb5).two
    obtain ⟨q0, q1, _, _, qb⟩ := (k2'.ext hb5).two
    obtain ⟨r0, r1, _, _, rb⟩ := (k3.ext hb5).two
    have hne15 : ¬ w1.heap.size = w5.heap.size := by omega
    go_wp2_with fail
    have hal := (Below.refl w5.heap.size w5).alloc (Nat.le_refl _) (.cells #[.int .i64 0, .int .i64 0] 24)
    have h05 := (hh0.ext hb5).ext hal
    refine (refRecords_ok M0 _ l _ (fun _ h => h.elim) h05 hn).mono ?_
    rintro e w6 ⟨u6, he, hw6, hb6⟩
    rw [Hr2.out] at he
    rw [Hr1.out] at hw6
    subst he
    obtain ⟨A6, c6, rfl, _, _⟩ := hw6.form
    have hb56 := below2 hal hb6
    have hb46 := below2 hb5 hb56
    have hbw6 := below2 hbw4 hb46
    have m4 := (Blk.new w5 24 #[.int .i64 0, .int .i64 0]).ext hb6
    have m1 := k1''.ext hb46
    have hr6 := hr4.ext hb46
    have hp6 := hp4.ext hb46
    have ha6 := ha4.ext hb46
    have h06 := hh0.ext hb46
    have h16 := hh1.ext hb46
    clear k1'' k2' k3 ha4 hr4 hp4 hh0 hh1 hal h05 p0 p1 pb q0 q1 qb r0 r1 rb hb5 hb6
    go_wp2_with fail
    have hls : lr.length ≤ 1000000000 := by have := hw6.len_le; have := recs_count l; rw [← Hr1.out, List.length_map]; omega
    refine ((sameRecords_ok M0 _ _ lr lr _ hr6 hw6 hls).mono fun e w' h => (⟨by rw [h.1, beq_self_eq_true], h.2⟩ : e = .returned (.bool true) ∧ ∃ n, w' = w6.drewN n)).mono ?_
    rintro e w7 ⟨rfl, k, rfl⟩
    go_wp2_with fail
    have hpre := h06.pre hzn
    rw [Hp1.out] at hpre
    refine ((same_ok M0 _ _ lp lp _ (hp6.drewN k) (hpre.drewN k)).mono fun e w' h => (⟨by rw [h.1, beq_self_eq_true], h.2⟩ : e = .returned (.bool true) ∧ w6.drewN k = w')).mono ?_
    rintro e w7 ⟨rfl, rfl⟩
    have hA := HA2.out
    obtain ⟨w7, hw7⟩ : ∃ w7, w7 = w6.drewN k := ⟨_, rfl⟩
    rw [← hw7]
    have hb67 : Below w6.heap.size w6 w7 := hw7 ▸ below_drewN' _ _ _
    clear hw7
    replace hbw6 := below2 hbw6 hb67
    replace m1 := m1.ext hb67
    replace m4 := m4.ext hb67
    replace ha6 := ha6.ext hb67
    replace h06 := h06.ext hb67
    replace h16 := h16.ext hb67
    clear hb67 hw6 hr6 hp6 hpre hb46 hb56 hls HA HR HP Hp1
    clear w6
    by_cases i1 : n < l.length
    · rw [if_pos i1] at hA
      simp only [Prod.mk.injEq] at hA
      obtain ⟨rfl, rfl, rfl⟩ := hA
      clear HA2
      go_wp2_with fail
      refine (at_ok _ _ _).mono ?_
      rintro e w8 ⟨rfl, hb7⟩
      obtain ⟨p0, p1, _, _, pb⟩ := (m1.ext hb7).two
      obtain ⟨q0, q1, f0, f1, qb⟩ := (m4.ext hb7).two
      have hbw7 : Below w.heap.size w w8 := below2 hbw6 hb7
      have hbv5 := hbw5.size
      clear m1 m4 ha6 h06 h16
      go_wp2
      go_ret
      exact ⟨rfl, (hbw7.setCell (p := ⟨w5.heap.size, 0, none⟩) hbv5 _).setCell (p := ⟨w5.heap.size, 1, none⟩) hbv5 _⟩
    · rw [if_neg i1] at hA
      by_cases i2 : 20000 < r.length
      · rw [if_pos i2] at hA
        simp only [Prod.mk.injEq] at hA
        obtain ⟨rfl, rfl, rfl⟩ := hA
        clear HA2
        go_wp2_with fail
        refine (at_ok _ _ _).mono ?_
        rintro e w8 ⟨rfl, hb7⟩
        obtain ⟨p0, p1, _, _, pb⟩ := (m1.ext hb7).two
        obtain ⟨q0, q1, f0, f1, qb⟩ := (m4.ext hb7).two
        have hbw7 : Below w.heap.size w w8 := below2 hbw6 hb7
        have hbv5 := hbw5.size
        clear m1 m4 ha6 h06 h16
        go_wp2
        go_ret
        exact ⟨rfl, (hbw7.setCell (p := ⟨w5.heap.size, 0, none⟩) hbv5 _).setCell (p := ⟨w5.heap.size, 1, none⟩) hbv5 _⟩
      · rw [if_neg i2] at hA
        by_cases i3 : 400000 < l.length + r.length + 10
        · rw [if_pos i3] at hA
          simp only [Prod.mk.injEq] at hA
          obtain ⟨rfl, rfl, rfl⟩ := hA
          have i3' : (400000 : Int) < (l.length : Int) + (r.length : Int) + 10 := by omega
          clear HA2
          go_wp2_with fail
          refine (at_ok _ _ _).mono ?_
          rintro e w8 ⟨rfl, hb7⟩
          obtain ⟨p0, p1, _, _, pb⟩ := (m1.ext hb7).two
          obtain ⟨q0, q1, f0, f1, qb⟩ := (m4.ext hb7).two
          have hbw7 : Below w.heap.size w w8 := below2 hbw6 hb7
          have hbv5 := hbw5.size
          clear m1 m4 ha6 h06 h16
          go_wp2
          go_ret
          exact ⟨rfl, (hbw7.setCell (p := ⟨w5.heap.size, 0, none⟩) hbv5 _).setCell (p := ⟨w5.heap.size, 1, none⟩) hbv5 _⟩
        · rw [if_neg i3] at hA
          simp only [Prod.mk.injEq] at hA
          obtain ⟨hla, rfl, rfl⟩ := hA
          have Hla := Lib.hid hla
          clear HA2 hla
          have j1 : ((n : Int) < (l.length : Int)) = False := by simp; omega
          have j2 : ((20000 : Int) < (r.length : Int)) = False := by simp; omega
          have j3 : ((400000 : Int) < (l.length : Int) + (r.length : Int) + 10) = False := by simp; omega
          have I3 := Lib.hid i3
          clear i3
          obtain ⟨p0, p1, _, _, pb⟩ := m1.two
          obtain ⟨q0, q1, f0, f1, qb⟩ := m4.two
          have hnl : SlR byteC (fun b => M0 b ∨ (Value.slice none 0 0).ownBlock = some b) w7 (.slice A0 l.length c0) l := h06.sub (fun b _ h => h.elim id (fun h => by simp [Value.ownBlock] at h))
          have Hne := Lib.hid hne15
          clear m1 m4 hne15
          go_wp2_with (at_builtin; refine wpList_append_Own byteC (M := M0) (B := w7.heap.size) (l := []) (l' := l) TBytes rfl (.const (.slice none 0 0)) (.tmp 131) rfl (v := .slice none 0 0) rfl (Own.nil _ _ _ _ _) rfl hnl ?c2 ?c3 ?c4 ?_)
          case c2 => simp [maxLen]; omega
          case c3 => simp; omega
          case c4 => exact Nat.le_refl _
          have i3 := I3.out
          intro A8 c8 L8 w8 hL8 hown8 hb8 _ _
          have h18 := h16.ext hb8
          have hr9 : r.length ≤ 1000000000 := by omega
          clear h16 p0 p1 q0 q1 f0 f1 hnl h06
          go_wp2_with fail
          refine (framed_ok M0 _ r _ (fun _ h => h.elim) h18 hr9).mono ?_
          rintro e w9 ⟨u9, rfl, hown9, hb9⟩
          obtain ⟨A9, c9, rfl, _, _⟩ := hown9.shape
          have hL8l : L8.length = l.length := by simpa using congrArg List.length hL8.out
          have HL8l := Lib.hid hL8l
          have hsl := storedF_len r
          have Hsl := Lib.hid hsl
          have hrd9 : SlR byteC (fun b => M0 b ∨ (Value.slice A8 L8.length c8).ownBlock = some b) w9 (.slice A9 (storedF r).length c9) (storedF r) := ((hown9.byteM (M' := fun b => b < w8.heap.size)).readB (fun b hb => hb)).sub fun b _ hor => hor.elim (fun h => h.elim) (hown8.lt b)
          have hown8' := hown8.ext hb9
          clear hL8l hsl
          go_wp2_with (at_builtin; refine wpList_append_Own byteC (M := M0) (B := w7.heap.size) (l := L8) (l' := storedF r) TBytes rfl (.tmp 132) (.tmp 134) rfl (v := .slice A8 L8.length c8) rfl hown8' rfl hrd9 ?c2 ?c3 ?c4 ?_)
          case c2 => rw [HL8l.out, Hsl.out]; simp [maxLen]; omega
          case c3 => rw [HL8l.out, Hsl.out]; omega
          case c4 => exact Nat.le_trans hb8.size hb9.size
          intro A10 c10 L10 w10 hL10 hown10 hb10 hgr10 _
          have b710 := (below2 hb8 hb9).trans hb10
          have ha10 := ha6.ext b710
          have hx10 := hown10.read0
          have he10 : la = L10 := by rw [← Hla.out, hL10.out]; simpa using hL8.out.symm
          subst he10
          clear ha6 hown8 hown8' hrd9 h18 hown9 hown10
          go_wp2_with fail
          refine ((same_ok M0 _ _ la la _ ha10 hx10).mono fun e w' h => (⟨by rw [h.1, beq_self_eq_true], h.2⟩ : e = .returned (.bool true) ∧ w10 = w')).mono ?_
          rintro e w11 ⟨rfl, rfl⟩
          go_wp2
          go_ret
          exact ⟨rfl, below2 hbw6 b710⟩
end Go.Proofs.Ytopldghfphgjoaa

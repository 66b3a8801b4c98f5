/-
  The reference's Parent.
-/
import Derived.Test.YtclobnojpmgmaaaThE
namespace Go.Proofs.Ytclobnojpmgmaaa
open Go.RowKit
set_option linter.unusedVariables false
/-- the reference's rows: one candidate k against the references of x -/
def refIn (x y : Letter) (k : Int) (s : Int × Int) : Nat → Int × Int
  | 0 => s
  | n + 1 => if (x.2.1[n]? == some y.1) && (decide ((refIn x y k s n).2 < (n : Int)) && Th.earlier y x) then (k, (n : Int)) else refIn x y k s n
def refOut (l : List Letter) (x : Letter) : Nat → Int × Int
  | 0 => (-1, -1)
  | n + 1 => match l[n]? with
    | some y => refIn x y (n : Int) (refOut l x n) x.2.1.length
    | none => refOut l x n
theorem refIn_succ (x y : Letter) (k : Int) (s : Int × Int) (n : Nat) (hn : n < x.2.1.length) : refIn x y k s (n + 1) = if (x.2.1[n] == y.1) && (decide ((refIn x y k s n).2 < (n : Int)) && Th.earlier y x) then (k, (n : Int)) else refIn x y k s n := by
  rw [refIn, List.getElem?_eq_getElem hn]
  rfl
theorem refOut_succ (l : List Letter) (x : Letter) (k : Nat) (hk : k < l.length) : refOut l x (k + 1) = refIn x l[k] (k : Int) (refOut l x k) x.2.1.length := by
  rw [refOut, List.getElem?_eq_getElem hk]
set_option maxHeartbeats 4000000 in
theorem refParent_ok (v : Value) (l : List Letter) (i : Nat) (w : World) (h : SlR letterC M0 w v l) (hn : l.length ≤ 4000000) (hi : i < l.length) : Calls Try.prog 12 #[v, .int .i64 (i : Int)] w fun e w' => e = .returned (.int .i64 (refOut l l[i] l.length).1) ∧ Below w.heap.size w w' := by
  obtain ⟨A, c, rfl, _, _⟩ := h.form
  obtain ⟨hlc, hcm⟩ := h.lenM
  have hw0 : Below w.heap.size w w := Below.refl _ _
  go_enter Try.func12, Try.ntmps12
  go_wp2
  go_loopw [5, 6, 7] (fun pv bv iv wr => ∃ (k : Nat) (p b : Int), k ≤ l.length ∧ pv = .int .i64 p ∧ bv = .int .i64 b ∧ iv = .int .i64 k ∧ Hid ((p, b) = refOut l l[i] k) ∧ Below w.heap.size w wr) (fun _ _ iv _ => l.length - (intOf iv).toNat)
  case atStart => exact ⟨0, -1, -1, Nat.zero_le _, rfl, rfl, rfl, Lib.hid rfl, hw0⟩
  case round =>
    obtain ⟨k, p, b, hk, rfl, rfl, rfl, hst, hb⟩ := hrel
    clear hw0
    by_cases hlt : k < l.length
    · obtain ⟨bb, off, A2, c2, rfl, _, _, p0, p1, p2, hil, hrs, ht1, ht2⟩ := h.letterAt hi
      obtain ⟨bb2, off2, A3, c3, hA, _, _, r0, r1, r2, _, _, _, _⟩ := h.letterAt hlt
      injection hA with hA
      injection hA with hA1 hA2
      subst hA1 hA2
      have hrow := refOut_succ l l[i] k hlt
      obtain ⟨x, hx⟩ : ∃ x, l[i] = x := ⟨_, rfl⟩
      rw [hx] at p0 p1 p2 hrs hrow hst
      obtain ⟨y, hy⟩ : ∃ y, l[k] = y := ⟨_, rfl⟩
      rw [hy] at r0 r1 r2 hrow
      rw [← hst.out] at hrow
      have hrz : refIn x y (k : Int) (p, b) 0 = (p, b) := rfl
      have hrn := fun n hn => refIn_succ x y (k : Int) (p, b) n hn
      have hoc := fun W => earlier_ok y x (.slice A3 y.2.1.length c3) (.slice A2 x.2.1.length c2) W
      obtain ⟨t, ht⟩ : ∃ t, Th.earlier y x = t := ⟨_, rfl⟩
      rw [ht] at hoc hrn
      obtain ⟨id, rs, ta⟩ := x
      obtain ⟨yi, yr, yt⟩ := y
      unfold letV at hoc
      dsimp only at p0 p1 p2 hrs r0 r1 r2 hrow hrn hrz hoc
      obtain ⟨hlr, hcr⟩ := hrs.lenM
      have Hrow := Lib.hid hrow; have Hrz := Lib.hid hrz; have Hrn := Lib.hid hrn; have Hoc := Lib.hid hoc; have Hx := Lib.hid hx
      have hil' : (i : Int) < (l.length : Int) := by omega
      have hi0 : (0 : Int) ≤ (i : Int) := by omega
      have hiw : IntKind.i64.wrap (i : Int) = (i : Int) := IntWalk.i64_in _ (by omega)
      have hkl : (k : Int) < (l.length : Int) := by omega
      have hk0 : (0 : Int) ≤ (k : Int) := by omega
      have hkw : IntKind.i64.wrap (k : Int) = (k : Int) := IntWalk.i64_in _ (by omega)
      clear hrow hrz hrn hoc hx hy ht hst hil ht1 ht2
      go_wp2
      go_loopw [5, 6, 8] (fun pv bv jv wz => ∃ (j : Nat) (p2 b2 : Int), j ≤ rs.length ∧ pv = .int .i64 p2 ∧ bv = .int .i64 b2 ∧ jv = .int .i64 j ∧ Hid ((p2, b2) = refIn (id, rs, ta) (yi, yr, yt) (k : Int) (p, b) j) ∧ Below w.heap.size w wz) (fun _ _ jv _ => rs.length - (intOf jv).toNat)
      case atStart => exact ⟨0, p, b, Nat.zero_le _, rfl, rfl, rfl, Lib.hid Hrz.out.symm, hb⟩
      case round =>
        obtain ⟨j, p3, b3, hj, rfl, rfl, rfl, hs2, hbz⟩ := hrel
        clear hb
        have q0 := cell_ext hbz p0
        have q1 := cell_ext hbz p1
        have q2 := cell_ext hbz p2
        have s0 := cell_ext hbz r0
        have s1 := cell_ext hbz r1
        have s2 := cell_ext hbz r2
        by_cases hjl : j < rs.length
        · obtain ⟨b9, off9, rfl, _, _, hc9, _⟩ := (hrs.ext hbz).strAt hjl
          have hstep := Hrn.out j hjl
          rw [← hs2.out] at hstep
          obtain ⟨r, hr⟩ : ∃ r, rs[j] = r := ⟨_, rfl⟩
          rw [hr] at hc9 hstep
          dsimp only at hstep
          have hjl' : (j : Int) < (rs.length : Int) := by omega
          have hj0 : (0 : Int) ≤ (j : Int) := by omega
          have hjw : IntKind.i64.wrap (j : Int) = (j : Int) := IntWalk.i64_in _ (by omega)
          cases he : r == yi with
          | false =>
            rw [he, Bool.false_and] at hstep
            simp only [Bool.false_eq_true, if_false] at hstep
            have Hst := Lib.hid hstep
            clear hstep hr
            go_wp2
            go_quiet (fail)
            go_wp2
            go_roundw
            case rel => exact ⟨j + 1, p3, b3, by omega, rfl, rfl, by go_num, Lib.hid Hst.out.symm, hbz.trans (below_drewN' _ _ _)⟩
            case measure => simp [intOf]; omega
          | true =>
            rw [he, Bool.true_and] at hstep
            by_cases hbj : b3 < (j : Int)
            · have hd : decide (b3 < (j : Int)) = true := decide_eq_true hbj
              rw [hd, Bool.true_and] at hstep
              have Hst := Lib.hid hstep
              clear hstep hr
              have hS : ∀ W, Below wr.heap.size wr W → W.cell? ⟨bb, off + k * 3, none⟩ = some (.string (bs yi)) ∧ W.cell? ⟨bb, off + k * 3 + 1, none⟩ = some (.slice A3 yr.length c3) ∧ W.cell? ⟨bb, off + k * 3 + 2, none⟩ = some (.int .i64 yt) ∧ W.cell? ⟨bb, off + i * 3, none⟩ = some (.string (bs id)) ∧ W.cell? ⟨bb, off + i * 3 + 1, none⟩ = some (.slice (some ⟨b9, off9, none⟩) rs.length c2) ∧ W.cell? ⟨bb, off + i * 3 + 2, none⟩ = some (.int .i64 ta) ∧ W.cell? ⟨b9, off9 + j, none⟩ = some (.string (bs r)) := fun W hW => ⟨cell_ext hW s0, cell_ext hW s1, cell_ext hW s2, cell_ext hW q0, cell_ext hW q1, cell_ext hW q2, cell_ext hW hc9⟩
              have HS := Lib.hid hS
              have hS0 := HS.out _ (below_drewN' wr.heap.size wr 1)
              clear hS
              go_wp2
              go_region_held3 (fun W => W.cell? ⟨bb, off + k * 3, none⟩ = some (.string (bs yi)) ∧ W.cell? ⟨bb, off + k * 3 + 1, none⟩ = some (.slice A3 yr.length c3) ∧ W.cell? ⟨bb, off + k * 3 + 2, none⟩ = some (.int .i64 yt) ∧ W.cell? ⟨bb, off + i * 3, none⟩ = some (.string (bs id)) ∧ W.cell? ⟨bb, off + i * 3 + 1, none⟩ = some (.slice (some ⟨b9, off9, none⟩) rs.length c2) ∧ W.cell? ⟨bb, off + i * 3 + 2, none⟩ = some (.int .i64 ta) ∧ W.cell? ⟨b9, off9 + j, none⟩ = some (.string (bs r))) (first | exact hS0 | exact hS2) ((go_at_call 24; refine (Hoc.out _).mono ?_; rintro e w2 ⟨rfl, hb2⟩; have hb12 : Below wr.heap.size wr w2 := Below.trans (below_drewN' wr.heap.size wr 1) hb2; have hS2 := HS.out _ hb12))
              have hbw2 := hbz.trans (hb12.mono hbz.size)
              clear hS0 hS2
              cases t with
              | true =>
                have hst := Hst.out
                simp only [if_true] at hst
                have Hs3 := Lib.hid hst
                clear hst
                go_wp2
                go_roundw
                case rel => exact ⟨j + 1, (k : Int), (j : Int), by omega, rfl, rfl, by go_num, Lib.hid Hs3.out.symm, hbw2⟩
                case measure => simp [intOf]; omega
              | false =>
                have hst := Hst.out
                simp only [Bool.false_eq_true, if_false] at hst
                have Hs3 := Lib.hid hst
                clear hst
                go_wp2
                go_roundw
                case rel => exact ⟨j + 1, p3, b3, by omega, rfl, rfl, by go_num, Lib.hid Hs3.out.symm, hbw2⟩
                case measure => simp [intOf]; omega
            · have hd : decide (b3 < (j : Int)) = false := decide_eq_false hbj
              rw [hd, Bool.false_and] at hstep
              simp only [Bool.false_eq_true, if_false] at hstep
              have Hst := Lib.hid hstep
              clear hstep hr
              go_wp2
              go_quiet (fail)
              go_wp2
              go_roundw
              case rel => exact ⟨j + 1, p3, b3, by omega, rfl, rfl, by go_num, Lib.hid Hst.out.symm, hbz.trans (below_drewN' _ _ _)⟩
              case measure => simp [intOf]; omega
        · obtain rfl : j = rs.length := by omega
          have hnx : (p3, b3) = refOut l (id, rs, ta) (k + 1) := by rw [Hrow.out, hs2.out]
          have Hnx := Lib.hid hnx
          clear hnx
          go_wp2
          go_roundw
          case rel => exact ⟨k + 1, p3, b3, by omega, rfl, rfl, by go_num, by rw [Hx.out]; exact Hnx, hbz⟩
          case measure => simp [intOf]; omega
    · obtain rfl : k = l.length := by omega
      have he := congrArg Prod.fst hst.out
      dsimp only at he
      have He := Lib.hid he
      clear he
      go_wp2
      go_ret
      exact ⟨ret_i He.out, hb⟩
end Go.Proofs.Ytclobnojpmgmaaa

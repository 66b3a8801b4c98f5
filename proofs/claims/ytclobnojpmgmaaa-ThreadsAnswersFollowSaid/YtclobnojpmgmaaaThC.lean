/-
  The reference's LettersFault.
-/
import Derived.Test.YtclobnojpmgmaaaThB
import Derived.Test.YtclobnojpmgmaaaIn
import Derived.Deep.QuietTactic
import Derived.BigQuiet
namespace Go.Proofs.Ytclobnojpmgmaaa
open Go.RowKit
set_option linter.unusedVariables false
theorem rat_ok (a b : Int) (w : World) : Calls Try.prog 21 #[.int .i64 a, .int .i64 b] w fun e w' => e = .returned (.agg #[.int .i64 a, .int .i64 b]) ∧ Below w.heap.size w w' := by
  go_enter Try.func21, Try.ntmps21
  go_wp2
  exact bodyPost_ret (v := .agg #[.int .i64 a, .int .i64 b]) (by simp [results, Try.results21, go_sem]) rfl ⟨rfl, (Below.refl _ _).alloc (Nat.le_refl _) _⟩
set_option maxHeartbeats 4000000 in
theorem lettersFault_ok (v : Value) (l : List Letter) (w : World) (h : SlR letterC M0 w v l) : Calls Try.prog 9 #[v] w fun e w' => e = .returned (.agg #[.int .i64 (Th.lettersF l).1, .int .i64 (Th.lettersF l).2]) ∧ Below w.heap.size w w' := by
  obtain ⟨A, c, rfl, _, _⟩ := h.form
  obtain ⟨hlc, hcm⟩ := h.lenM
  have hfc := fun a b W => rat_ok a b W
  have Hfc := Lib.hid hfc
  clear hfc
  by_cases h300 : 300 < l.length
  · have hq : Th.lettersF l = (2, -1) := by unfold Th.lettersF; rw [if_pos h300]
    rw [hq]
    clear hq
    have hd : decide ((300 : Int) < (l.length : Int)) = true := by simp; omega
    go_enter Try.func9, Try.ntmps9
    go_wp2_with fail
    refine (Hfc.out 2 (-1) _).mono ?_
    rintro e w1 ⟨rfl, hb⟩
    have k1 := (Blk.new w 25 #[.int .i64 0, .int .i64 0]).ext hb
    have hbw := below_alloc hb
    obtain ⟨c0, c1, z0, z1, hlt⟩ := k1.two
    go_wp2
    obtain ⟨e0, e1⟩ := k1.put2 (.int .i64 2) (.int .i64 (-1))
    refine bodyPost_ret (v := .agg #[.int .i64 2, .int .i64 (-1)]) (by simp [results, Try.results9, go_sem, e0, e1]) rfl ⟨rfl, below_set2 hbw (Nat.le_refl _) _ _⟩
  · have hd : decide ((300 : Int) < (l.length : Int)) = false := by simp; omega
    obtain ⟨a, ha⟩ : ∃ a, (Th.lettersF l).1 = a := ⟨_, rfl⟩
    obtain ⟨b, hb⟩ : ∃ b, (Th.lettersF l).2 = b := ⟨_, rfl⟩
    have hF : Th.faultGo l l.length 0 = (a, b) := by
      have : Th.lettersF l = Th.faultGo l l.length 0 := by unfold Th.lettersF; rw [if_neg h300]
      rw [← this, ← ha, ← hb]
    rw [ha, hb]
    have HF := Lib.hid hF
    clear hF ha hb
    have hbw0 : Below w.heap.size w (w.alloc (.cells #[.int .i64 0, .int .i64 0] 25)) := (Below.refl _ _).alloc (Nat.le_refl _) _
    have k0 := Blk.new w 25 #[.int .i64 0, .int .i64 0]
    go_enter Try.func9, Try.ntmps9
    go_wp2
    go_loopw [3] (fun i wr => ∃ k : Nat, k ≤ l.length ∧ i = .int .i64 k ∧ Hid (Th.faultGo l (l.length - k) k = (a, b)) ∧ Blk wr w.heap.size 25 #[.int .i64 0, .int .i64 0] ∧ Below w.heap.size w wr) (fun i _ => l.length - (intOf i).toNat)
    case atStart => exact ⟨0, Nat.zero_le _, rfl, HF, k0, hbw0⟩
    case round =>
      obtain ⟨k, hk, rfl, hst, q0, hb⟩ := hrel
      clear k0 hbw0
      by_cases hlt : k < l.length
      · have hw := h.ext hb
        obtain ⟨bb, off, A2, c2, rfl, _, _, p0, p1, p2, hil, hrs, ht1, ht2⟩ := hw.letterAt hlt
        have hgo := fault_at (l := l) (l.length - k) k (by omega) hlt
        rw [hst.out, List.getElem?_eq_getElem hlt, Option.getD_some] at hgo
        obtain ⟨hl2, hm2⟩ := hrs.lenM
        obtain ⟨x, hx⟩ : ∃ x, l[k] = x := ⟨_, rfl⟩
        rw [hx] at p0 p1 p2 hil ht1 ht2 hgo hl2
        obtain ⟨id, rs, ta⟩ := x
        dsimp only at p0 p1 p2 hil ht1 ht2 hl2
        obtain ⟨ec, hec⟩ : ∃ ec, Th.errOf (l.take k) (id, rs, ta) = ec := ⟨_, rfl⟩
        rw [hec] at hgo
        unfold Th.errOf at hec
        dsimp only at hec
        have hi1 := fun W => in_ok (id.length : Int) 1 200 W
        have hi2 := fun W => in_ok ta (-68719476736) 68719476736 W
        have Hst := Lib.hid hgo.symm; have Hx := Lib.hid hx
        clear hgo hx hst
        by_cases he1 : id = [] ∨ 200 < id.length
        · have hib : (decide ((1 : Int) ≤ (id.length : Int)) && decide ((id.length : Int) ≤ 200)) = false := by
            rcases he1 with he1 | he1
            · subst he1; rfl
            · rw [decide_eq_false (show ¬ ((id.length : Int) ≤ 200) by omega), Bool.and_false]
          have hi12 := fun W => (hi1 W).mono fun e w' hh => (⟨by rw [hh.1, hib], hh.2⟩ : e = .returned (.bool false) ∧ W = w')
          have Hi1 := Lib.hid hi12
          have Hec : Hid (ec = 10) := Lib.hid (by rw [← hec, if_pos he1])
          clear hec hi1 hi2 hi12 hib
          go_wp2_with fail
          refine (Hi1.out _).mono ?_
          rintro e w9 ⟨rfl, rfl⟩
          go_wp2_with fail
          refine (Hfc.out 10 (k : Int) _).mono ?_
          rintro e w2 ⟨rfl, hb2⟩
          have q1 := q0.ext hb2
          have hbw2 := hb.trans (hb2.mono hb.size)
          obtain ⟨c0, c1, z0, z1, hlt0⟩ := q1.two
          go_wp2
          obtain ⟨e0, e1⟩ := q1.put2 (.int .i64 10) (.int .i64 (k : Int))
          have hres := Hst.out
          rw [Hec.out] at hres
          have hres2 : a = 10 ∧ b = (k : Int) := by simpa using hres.symm
          obtain ⟨rfl, rfl⟩ := hres2
          exact bodyPost_ret (v := .agg #[.int .i64 10, .int .i64 (k : Int)]) (by simp [results, Try.results9, go_sem, e0, e1]) rfl ⟨rfl, below_set2 hbw2 (Nat.le_refl _) _ _⟩
        · have hib : (decide ((1 : Int) ≤ (id.length : Int)) && decide ((id.length : Int) ≤ 200)) = true := by
            have h1 : id.length ≠ 0 := fun e => he1 (.inl (List.eq_nil_of_length_eq_zero e))
            have h2 : ¬ 200 < id.length := fun e => he1 (.inr e)
            rw [decide_eq_true (show (1 : Int) ≤ (id.length : Int) by omega), decide_eq_true (show (id.length : Int) ≤ 200 by omega)]; rfl
          have hi12 := fun W => (hi1 W).mono fun e w' hh => (⟨by rw [hh.1, hib], hh.2⟩ : e = .returned (.bool true) ∧ W = w')
          have Hi1 := Lib.hid hi12
          rw [if_neg he1] at hec
          clear hi1 hi12 hib he1
          by_cases he3 : -68719476736 ≤ ta ∧ ta ≤ 68719476736
          · have htb : (decide (-68719476736 ≤ ta) && decide (ta ≤ 68719476736)) = true := by simp [he3]
            rw [if_neg (by simp [he3])] at hec
            have htm2 := fun W => (hi2 W).mono fun e w' hh => (⟨by rw [hh.1, htb], hh.2⟩ : e = .returned (.bool true) ∧ W = w')
            have Hi2 := Lib.hid htm2
            clear hi2 htm2 htb
            by_cases he4 : 30 < rs.length
            · have hd4 : decide ((30 : Int) < (rs.length : Int)) = true := by simp; omega
              have Hec : Hid (ec = 2) := Lib.hid (by rw [← hec, if_pos he4])
              clear hec
              go_wp2_with fail
              refine (Hi1.out _).mono ?_
              rintro e w9 ⟨rfl, rfl⟩
              go_wp2_with fail
              refine (Hi2.out _).mono ?_
              rintro e w9 ⟨rfl, rfl⟩
              go_wp2_with fail
              refine (Hfc.out 2 (k : Int) _).mono ?_
              rintro e w2 ⟨rfl, hb2⟩
              have q1 := q0.ext hb2
              have hbw2 := hb.trans (hb2.mono hb.size)
              obtain ⟨c0, c1, z0, z1, hlt0⟩ := q1.two
              go_wp2
              obtain ⟨e0, e1⟩ := q1.put2 (.int .i64 2) (.int .i64 (k : Int))
              have hres := Hst.out
              rw [Hec.out] at hres
              have hres2 : a = 2 ∧ b = (k : Int) := by simpa using hres.symm
              obtain ⟨rfl, rfl⟩ := hres2
              exact bodyPost_ret (v := .agg #[.int .i64 2, .int .i64 (k : Int)]) (by simp [results, Try.results9, go_sem, e0, e1]) rfl ⟨rfl, below_set2 hbw2 (Nat.le_refl _) _ _⟩
            · have hd4 : decide ((30 : Int) < (rs.length : Int)) = false := by simp; omega
              rw [if_neg he4] at hec
              have Hec0 := Lib.hid hec
              clear hec
              go_wp2_with fail
              refine (Hi1.out _).mono ?_
              rintro e w9 ⟨rfl, rfl⟩
              go_wp2_with fail
              refine (Hi2.out _).mono ?_
              rintro e w9 ⟨rfl, rfl⟩
              go_wp2
              clear Hi1 Hi2
              obtain ⟨W0, rfl⟩ : ∃ W0, W0 = wr := ⟨_, rfl⟩
              go_loopw [4] (fun i wz => ∃ j : Nat, j ≤ k ∧ i = .int .i64 j ∧ Hid (∀ (z : Nat) (hz : z < l.length), z < j → (l[z].1 == id) = false) ∧ Below W0.heap.size W0 wz) (fun i _ => k - (intOf i).toNat)
              case atStart => exact ⟨0, Nat.zero_le _, rfl, Lib.hid (fun z hz h => absurd h (by omega)), Below.refl _ _⟩
              case round =>
                obtain ⟨j, hj, rfl, hpre, hbz⟩ := hrel
                have q0z := q0.ext hbz
                have hbz2 := hb.trans (hbz.mono hb.size)
                have hcz : wr.cell? ⟨bb, off + k * 3, none⟩ = some (.string (bs id)) := (hbz.cell (p := ⟨bb, off + k * 3, none⟩) (World.block_lt_of_cell? W0 _ p0)).trans p0
                by_cases hjk : j < k
                · have hjl : j < l.length := by omega
                  obtain ⟨bb', off', A3, c3, hA, _, _, r0, _⟩ := (h.ext hbz2).letterAt hjl
                  injection hA with hA
                  injection hA with hA1 hA2
                  subst hA1 hA2
                  obtain ⟨y, hy⟩ : ∃ y, l[j].1 = y := ⟨_, rfl⟩
                  rw [hy] at r0
                  have Hy := Lib.hid hy
                  clear hy
                  have hj1 : (j : Int) < (l.length : Int) := by omega
                  have hk1 : (k : Int) < (l.length : Int) := by omega
                  cases ht : (y == id) with
                  | true =>
                    have Hec : Hid (ec = 7) := Lib.hid (by
                      rw [← Hec0.out, if_pos]
                      rw [List.any_eq_true]
                      refine ⟨l[j], List.mem_iff_getElem.2 ⟨j, by rw [List.length_take]; omega, by rw [List.getElem_take]⟩, by rw [Hy.out]; exact ht⟩)
                    go_wp2
                    go_quiet (fail)
                    go_wp2_with fail
                    refine (Hfc.out 7 (k : Int) _).mono ?_
                    rintro e w2 ⟨rfl, hb2⟩
                    have q1 := (q0z.drewN nq).ext hb2
                    have hbw2 := hbz2.trans (((below_drewN' wr.heap.size wr nq).trans hb2).mono hbz2.size)
                    obtain ⟨c0, c1, z0, z1, hlt0⟩ := q1.two
                    go_wp2
                    obtain ⟨e0, e1⟩ := q1.put2 (.int .i64 7) (.int .i64 (k : Int))
                    have hres := Hst.out
                    rw [Hec.out] at hres
                    have hres2 : a = 7 ∧ b = (k : Int) := by simpa using hres.symm
                    obtain ⟨rfl, rfl⟩ := hres2
                    exact bodyPost_ret (v := .agg #[.int .i64 7, .int .i64 (k : Int)]) (by simp [results, Try.results9, go_sem, e0, e1]) rfl ⟨rfl, below_set2 hbw2 (Nat.le_refl _) _ _⟩
                  | false =>
                    go_wp2
                    go_quiet (fail)
                    go_wp2
                    go_roundw
                    case rel => exact ⟨j + 1, by omega, by go_num, Lib.hid fun z hz hzj => by
                      by_cases e : z = j
                      · subst e; rw [Hy.out]; exact ht
                      · exact hpre.out z hz (by omega), hbz.trans (below_drewN' _ _ _)⟩
                    case measure => simp [intOf]; omega
                · obtain rfl : j = k := by omega
                  have Hec : Hid (ec = 0) := Lib.hid (by
                    rw [← Hec0.out, if_neg]
                    rw [Bool.not_eq_true, List.any_eq_false]
                    intro x hx
                    obtain ⟨i, hi, rfl⟩ := List.mem_iff_getElem.1 hx
                    rw [List.length_take] at hi
                    rw [List.getElem_take, hpre.out i (by omega) (by omega)]
                    simp)
                  go_wp2
                  go_roundw
                  case rel =>
                    have hst2 := Hst.out
                    rw [if_pos Hec.out, show l.length - j - 1 = l.length - (j + 1) by omega] at hst2
                    exact ⟨j + 1, by omega, by go_num, Lib.hid hst2, q0z, hbz2⟩
                  case measure => simp [intOf]; omega
          · have htb : (decide (-68719476736 ≤ ta) && decide (ta ≤ 68719476736)) = false := by simp; omega
            have Hec : Hid (ec = 3) := Lib.hid (by rw [← hec, if_pos he3])
            have htm2 := fun W => (hi2 W).mono fun e w' hh => (⟨by rw [hh.1, htb], hh.2⟩ : e = .returned (.bool false) ∧ W = w')
            have Hi2 := Lib.hid htm2
            clear hi2 htm2 htb hec
            go_wp2_with fail
            refine (Hi1.out _).mono ?_
            rintro e w9 ⟨rfl, rfl⟩
            go_wp2_with fail
            refine (Hi2.out _).mono ?_
            rintro e w9 ⟨rfl, rfl⟩
            go_wp2_with fail
            refine (Hfc.out 3 (k : Int) _).mono ?_
            rintro e w2 ⟨rfl, hb2⟩
            have q1 := q0.ext hb2
            have hbw2 := hb.trans (hb2.mono hb.size)
            obtain ⟨c0, c1, z0, z1, hlt0⟩ := q1.two
            go_wp2
            obtain ⟨e0, e1⟩ := q1.put2 (.int .i64 3) (.int .i64 (k : Int))
            have hres := Hst.out
            rw [Hec.out] at hres
            have hres2 : a = 3 ∧ b = (k : Int) := by simpa using hres.symm
            obtain ⟨rfl, rfl⟩ := hres2
            exact bodyPost_ret (v := .agg #[.int .i64 3, .int .i64 (k : Int)]) (by simp [results, Try.results9, go_sem, e0, e1]) rfl ⟨rfl, below_set2 hbw2 (Nat.le_refl _) _ _⟩
      · have hkk : l.length - k = 0 := by omega
        have hst2 := hst.out
        rw [hkk] at hst2
        have hab : a = 0 ∧ b = 0 := by
          have : ((0 : Int), (0 : Int)) = (a, b) := hst2
          injection this with h1 h2
          exact ⟨h1.symm, h2.symm⟩
        obtain ⟨rfl, rfl⟩ := hab
        clear hst hst2 hkk HF
        obtain ⟨c0, c1, z0, z1, hlt0⟩ := q0.two
        go_wp2
        obtain ⟨e0, e1⟩ := q0.put2 (.int .i64 0) (.int .i64 0)
        exact bodyPost_ret (v := .agg #[.int .i64 0, .int .i64 0]) (by simp [results, Try.results9, go_sem, e0, e1]) rfl ⟨rfl, below_set2 hb (Nat.le_refl _) _ _⟩
end Go.Proofs.Ytclobnojpmgmaaa

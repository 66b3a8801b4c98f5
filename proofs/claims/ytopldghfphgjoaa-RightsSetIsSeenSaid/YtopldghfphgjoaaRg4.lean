/-
  Groups, by the reference.
-/
import Derived.Test.YtopldghfphgjoaaRg3
namespace Go.Proofs.Ytopldghfphgjoaa
open Go.RowKit

theorem at8_ok (a b : Int) (w : World) : Calls Try.prog 54 #[.int .i64 a, .int .i64 b] w fun e w' => e = .returned (.agg #[.int .i64 a, .int .i64 b]) ∧ Below w.heap.size w w' := by
  go_enter Try.func54, Try.ntmps54
  go_wp2
  exact bodyPost_ret (v := .agg #[.int .i64 a, .int .i64 b]) (by simp [results, Try.results54, go_sem]) rfl ⟨rfl, (Below.refl _ _).alloc (Nat.le_refl _) _⟩
theorem any_take {α : Type} (l : List α) (p : α → Bool) (k : Nat) (h : ∀ (j : Nat) (hj : j < l.length), j < k → p l[j] = false) : (l.take k).any p = false :=
  any_false _ p fun i hi => by
    rw [List.length_take] at hi
    rw [List.getElem_take]
    exact h i (by omega) (by omega)
theorem any_take_true {α : Type} (l : List α) (p : α → Bool) (k j : Nat) (hj : j < l.length) (hjk : j < k) (h : p l[j] = true) : (l.take k).any p = true := by
  have : j < (l.take k).length := by rw [List.length_take]; omega
  exact anyL_true _ p j this (by rw [List.getElem_take]; exact h)

set_option maxRecDepth 20000 in
set_option maxHeartbeats 4000000 in
theorem groupsFault_ok (v : Value) (l : List Group) (w : World) (h : SlR groupC M0 w v l) : Calls Try.prog 26 #[v] w fun e w' => e = .returned (.agg #[.int .i64 (groupsF l).1, .int .i64 (groupsF l).2]) ∧ Below w.heap.size w w' := by
  obtain ⟨A, c, rfl, _, _⟩ := h.form
  obtain ⟨hlc, hcm⟩ := h.lenM
  by_cases hl : 60 < l.length
  · have hg : groupsF l = (2, -1) := by rw [groupsF, if_pos hl]
    rw [hg]
    clear hg h
    go_enter Try.func26, Try.ntmps26
    go_wp2_with fail
    refine (at8_ok _ _ _).mono ?_
    rintro e w9 ⟨rfl, hb9⟩
    have k9 := (Blk.new w 24 #[.int .i64 0, .int .i64 0]).ext hb9
    obtain ⟨c0, c1, z0, z1, s1⟩ := k9.two
    obtain ⟨e0, e1⟩ := k9.put2 (.int .i64 2) (.int .i64 (-1))
    have hbw9 := below_alloc hb9
    go_wp2
    exact bodyPost_ret (v := .agg #[.int .i64 2, .int .i64 (-1)]) (by simp [results, Try.results26, go_sem, e0, e1]) rfl ⟨rfl, below_set2 hbw9 (Nat.le_refl _) _ _⟩
  · have hg : groupsF l = scanF (grpErr l) 0 l.length := by rw [groupsF, if_neg hl]
    have Hg := Lib.hid hg
    clear hg
    have hln : l.length ≤ 60 := by omega
    go_enter Try.func26, Try.ntmps26
    go_wp2
    go_loopw [3] (fun i wr => ∃ k : Nat, k ≤ l.length ∧ i = .int .i64 k ∧ Hid (∀ j, j < k → grpErr l j = none) ∧ Blk wr w.heap.size 24 #[.int .i64 0, .int .i64 0] ∧ Below w.heap.size w wr) (fun i _ => l.length - (intOf i).toNat)
    case atStart => exact ⟨0, Nat.zero_le _, rfl, Lib.hid fun j h => absurd h (by omega), Blk.new _ _ _, (Below.refl _ _).alloc (Nat.le_refl _) _⟩
    case round =>
      obtain ⟨k, hk, rfl, hpre, kb, hb⟩ := hrel
      obtain ⟨wo, rfl⟩ : ∃ wo : World, wo = wr := ⟨_, rfl⟩
      by_cases hlt : k < l.length
      · have hx1 := h.ext hb
        obtain ⟨b, off, A2, c2, rfl, hbl, q0, q1, hl1, hs⟩ := hx1.groupAt hlt
        obtain ⟨⟨gs, gm⟩, hx⟩ : ∃ x, x = l[k] := ⟨_, rfl⟩
        rw [← hx] at q0 q1 hl1 hs
        dsimp only at q0 q1 hl1 hs
        obtain ⟨t1, ht1⟩ : ∃ t, userF gs = t := ⟨_, rfl⟩
        have herr : grpErr l k = if !t1 then some 10 else if (l.take k).any (fun x => x.1 == gs) then some 7 else if 300 < gm.length then some 2 else if gm.any (fun s => !userF s) then some 10 else none := by
          rw [grpErr, List.getElem?_eq_getElem hlt, ← hx]
          simp only [ht1]
        have hsm := fun w => user_ok gs hl1 w
        rw [ht1] at hsm
        have Hsm := Lib.hid hsm; have Herr := Lib.hid herr
        have hgm := hs.lenM
        have hhit : ∀ c, grpErr l k = some c → groupsF l = (c, (k : Int)) := fun c hc => by rw [Hg.out, scan_hit hlt hpre.out hc]; simp
        have Hhit := Lib.hid hhit; have Hx := Lib.hid hx
        clear hsm herr ht1 hhit hx
        go_wp2_with fail
        refine (Hsm.out _).mono ?_
        rintro e w1 ⟨rfl, rfl⟩
        cases t1 with
        | false =>
          go_wp2_with fail
          refine (at8_ok _ _ _).mono ?_
          rintro e w9 ⟨rfl, hb9⟩
          have k9 := kb.ext hb9
          obtain ⟨c0, c1, z0, z1, s1⟩ := k9.two
          obtain ⟨e0, e1⟩ := k9.put2 (.int .i64 (10)) (.int .i64 ((k : Int)))
          have hbw9 := hb.trans (hb9.mono hb.size)
          go_wp2
          refine bodyPost_ret (v := .agg #[.int .i64 (10), .int .i64 ((k : Int))]) (by simp [results, Try.results26, go_sem, e0, e1]) rfl ⟨?_, below_set2 hbw9 (Nat.le_refl _) _ _⟩
          exact ret_fault (Hhit.out 10 (by rw [Herr.out]; rfl))
        | true =>
          go_wp2
          go_loopw [4] (fun i wx => ∃ j : Nat, j ≤ k ∧ i = .int .i64 j ∧ Hid (∀ (n : Nat) (hn : n < l.length), n < j → (l[n].1 == gs) = false) ∧ Below wo.heap.size wo wx) (fun i _ => k - (intOf i).toNat)
          case atStart => exact ⟨0, Nat.zero_le _, rfl, Lib.hid fun n _ h => absurd h (by omega), Below.refl _ _⟩
          case round =>
            obtain ⟨j, hj, rfl, hpre2, hbx⟩ := hrel
            by_cases hjk : j < k
            · have hjl : j < l.length := by omega
              obtain ⟨_, _, A3, c3, e1, _, p0, p1, _, _⟩ := (hx1.ext hbx).groupAt hjl
              cases e1
              obtain ⟨_, _, _, _, e1, _, q2, _, _, _⟩ := (hx1.ext hbx).groupAt hlt
              cases e1
              rw [← Hx.out] at q2
              dsimp only at q2
              obtain ⟨y, hy⟩ : ∃ y, y = l[j].1 := ⟨_, rfl⟩
              rw [← hy] at p0
              have Hy := Lib.hid hy
              clear hy p1 q0 q1
              cases ht : (y == gs) with
              | true =>
                have herr2 : grpErr l k = some 7 := by rw [Herr.out, any_take_true l (fun x => x.1 == gs) k j hjl hjk (by rw [← Hy.out]; exact ht)]; rfl
                have Herr2 := Lib.hid herr2
                clear herr2
                go_wp2
                go_quiet (fail)
                have hbx2 := hbx.trans (below_drewN' wo.heap.size _ nq)
                have kbx := kb.ext hbx2
                have hbw2 := hb.trans (hbx2.mono hb.size)
                go_wp2_with fail
                go_wp2_with fail
                refine (at8_ok _ _ _).mono ?_
                rintro e w9 ⟨rfl, hb9⟩
                have k9 := kbx.ext hb9
                obtain ⟨c0, c1, z0, z1, s1⟩ := k9.two
                obtain ⟨e0, e1⟩ := k9.put2 (.int .i64 (7)) (.int .i64 ((k : Int)))
                have hbw9 := hbw2.trans (hb9.mono hbw2.size)
                go_wp2
                refine bodyPost_ret (v := .agg #[.int .i64 (7), .int .i64 ((k : Int))]) (by simp [results, Try.results26, go_sem, e0, e1]) rfl ⟨?_, below_set2 hbw9 (Nat.le_refl _) _ _⟩
                exact ret_fault (Hhit.out 7 Herr2.out)
              | false =>
                go_wp2
                go_quiet (fail)
                go_wp2
                go_roundw
                case rel => exact ⟨j + 1, by omega, by go_num, Lib.hid fun n hn hnj => by
                  by_cases e : n = j
                  · subst e; rw [← Hy.out]; exact ht
                  · exact hpre2.out n hn (by omega), hbx.trans (below_drewN' wo.heap.size _ nq)⟩
                case measure => simp [intOf]; omega
            · have hany : (l.take k).any (fun x => x.1 == gs) = false := any_take l _ k fun n hn hnk => hpre2.out n hn (by omega)
              have hbw := hb.trans (hbx.mono hb.size)
              have kbx := kb.ext hbx
              have q2 := (hbx.cell (p := ⟨b, off + k * 2, none⟩) hbl).trans q0
              have q3 := (hbx.cell (p := ⟨b, off + k * 2 + 1, none⟩) hbl).trans q1
              have hs2 := hs.ext hbx
              clear q0 q1
              by_cases h300 : 300 < gm.length
              · have herr2 : grpErr l k = some 2 := by rw [Herr.out, hany]; simp [h300]
                have Herr2 := Lib.hid herr2
                clear herr2 hany
                go_wp2_with fail
                refine (at8_ok _ _ _).mono ?_
                rintro e w9 ⟨rfl, hb9⟩
                have k9 := kbx.ext hb9
                obtain ⟨c0, c1, z0, z1, s1⟩ := k9.two
                obtain ⟨e0, e1⟩ := k9.put2 (.int .i64 (2)) (.int .i64 ((k : Int)))
                have hbw9 := hbw.trans (hb9.mono hbw.size)
                go_wp2
                refine bodyPost_ret (v := .agg #[.int .i64 (2), .int .i64 ((k : Int))]) (by simp [results, Try.results26, go_sem, e0, e1]) rfl ⟨?_, below_set2 hbw9 (Nat.le_refl _) _ _⟩
                exact ret_fault (Hhit.out 2 Herr2.out)
              · have herr2 : grpErr l k = if gm.any (fun s => !userF s) then some 10 else none := by rw [Herr.out, hany]; simp [h300]
                have Herr2 := Lib.hid herr2
                clear herr2 hany
                go_wp2
                go_loop [5] (fun i => ∃ j : Nat, j ≤ gm.length ∧ i = .int .i64 j ∧ Hid (∀ (n : Nat) (hn : n < gm.length), n < j → (!userF gm[n]) = false)) (fun i => gm.length - (intOf i).toNat)
                case atStart => exact ⟨0, Nat.zero_le _, rfl, Lib.hid fun n _ h => absurd h (by omega)⟩
                case round =>
                  obtain ⟨j, hj, rfl, hpre3⟩ := hrel
                  by_cases hjl : j < gm.length
                  · obtain ⟨b5, off5, e5, _, _, q5, hl5⟩ := hs2.strAt hjl
                    subst e5
                    obtain ⟨y, hy⟩ : ∃ y, y = gm[j] := ⟨_, rfl⟩
                    rw [← hy] at q5 hl5
                    obtain ⟨t, ht⟩ : ∃ t, userF y = t := ⟨_, rfl⟩
                    have hu := fun w => user_ok y hl5 w
                    rw [ht] at hu
                    have Hu := Lib.hid hu; have Hy := Lib.hid hy; have Ht := Lib.hid ht
                    clear hu hy ht
                    go_wp2_with fail
                    refine (Hu.out _).mono ?_
                    rintro e w1 ⟨rfl, rfl⟩
                    cases t with
                    | false =>
                      have herr3 : grpErr l k = some 10 := by rw [Herr2.out, anyL_true gm (fun s => !userF s) j hjl (by rw [← Hy.out, Ht.out]; rfl)]; rfl
                      have Herr3 := Lib.hid herr3
                      clear herr3
                      go_wp2_with fail
                      refine (at8_ok _ _ _).mono ?_
                      rintro e w9 ⟨rfl, hb9⟩
                      have k9 := kbx.ext hb9
                      obtain ⟨c0, c1, z0, z1, s1⟩ := k9.two
                      obtain ⟨e0, e1⟩ := k9.put2 (.int .i64 (10)) (.int .i64 ((k : Int)))
                      have hbw9 := hbw.trans (hb9.mono hbw.size)
                      go_wp2
                      refine bodyPost_ret (v := .agg #[.int .i64 (10), .int .i64 ((k : Int))]) (by simp [results, Try.results26, go_sem, e0, e1]) rfl ⟨?_, below_set2 hbw9 (Nat.le_refl _) _ _⟩
                      exact ret_fault (Hhit.out 10 Herr3.out)
                    | true =>
                      go_wp2
                      go_round
                      case rel => exact ⟨j + 1, by omega, by go_num, Lib.hid fun n hn hnj => by
                        by_cases e : n = j
                        · subst e; rw [← Hy.out, Ht.out]; rfl
                        · exact hpre3.out n hn (by omega)⟩
                      case measure => simp [intOf]; omega
                  · have herr3 : grpErr l k = none := by rw [Herr2.out, any_false gm (fun s => !userF s) fun i hi => hpre3.out i hi (by omega)]; rfl
                    have Herr3 := Lib.hid herr3
                    clear herr3
                    go_wp2
                    go_roundw
                    case rel => exact ⟨k + 1, by omega, by go_num, Lib.hid fun j hj => by
                      by_cases e : j = k
                      · subst e; exact Herr3.out
                      · exact hpre.out j (by omega), kbx, hbw⟩
                    case measure => simp [intOf]; omega
      · have hnone : groupsF l = (0, 0) := by rw [Hg.out, scan_none fun j hj => hpre.out j (by omega)]
        have Hnone := Lib.hid hnone
        clear hnone
        obtain ⟨c0, c1, z0, z1, s1⟩ := kb.two
        obtain ⟨e0, e1⟩ := kb.put2 (.int .i64 0) (.int .i64 0)
        go_wp2
        exact bodyPost_ret (v := .agg #[.int .i64 0, .int .i64 0]) (by simp [results, Try.results26, go_sem, e0, e1]) rfl ⟨ret_fault Hnone.out, below_set2 hb (Nat.le_refl _) _ _⟩
end Go.Proofs.Ytopldghfphgjoaa

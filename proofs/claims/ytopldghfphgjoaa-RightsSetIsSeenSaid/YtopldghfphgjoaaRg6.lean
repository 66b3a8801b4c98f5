/-
  Grants, by the reference.
-/
import Derived.Test.YtopldghfphgjoaaRg5
import Derived.IntWalk
namespace Go.Proofs.Ytopldghfphgjoaa
open Go.RowKit

set_option maxRecDepth 20000 in
set_option maxHeartbeats 4000000 in
theorem grantsFault_ok (v : Value) (l : List Grant) (w : World) (h : SlR grantC M0 w v l) : Calls Try.prog 27 #[v] w fun e w' => e = .returned (.agg #[.int .i64 (grantsF l).1, .int .i64 (grantsF l).2]) ∧ Below w.heap.size w w' := by
  obtain ⟨A, c, rfl, _, _⟩ := h.form
  obtain ⟨hlc, hcm⟩ := h.lenM
  by_cases hl : 60 < l.length
  · have hg : grantsF l = (2, -2) := by rw [grantsF, if_pos hl]
    rw [hg]
    clear hg h
    go_enter Try.func27, Try.ntmps27
    go_wp2_with fail
    refine (at8_ok _ _ _).mono ?_
    rintro e w9 ⟨rfl, hb9⟩
    have k9 := (Blk.new w 24 #[.int .i64 0, .int .i64 0]).ext hb9
    obtain ⟨c0, c1, z0, z1, s1⟩ := k9.two
    obtain ⟨e0, e1⟩ := k9.put2 (.int .i64 2) (.int .i64 (-2))
    have hbw9 := below_alloc hb9
    go_wp2
    exact bodyPost_ret (v := .agg #[.int .i64 2, .int .i64 (-2)]) (by simp [results, Try.results27, go_sem, e0, e1]) rfl ⟨rfl, below_set2 hbw9 (Nat.le_refl _) _ _⟩
  · have hg : grantsF l = scanF (grantErr l) 100 l.length := by rw [grantsF, if_neg hl]
    have Hg := Lib.hid hg
    clear hg
    have hln : l.length ≤ 60 := by omega
    go_enter Try.func27, Try.ntmps27
    go_wp2
    go_loopw [3] (fun i wr => ∃ k : Nat, k ≤ l.length ∧ i = .int .i64 k ∧ Hid (∀ j, j < k → grantErr l j = none) ∧ Blk wr w.heap.size 24 #[.int .i64 0, .int .i64 0] ∧ Below w.heap.size w wr) (fun i _ => l.length - (intOf i).toNat)
    case atStart => exact ⟨0, Nat.zero_le _, rfl, Lib.hid fun j h => absurd h (by omega), Blk.new _ _ _, (Below.refl _ _).alloc (Nat.le_refl _) _⟩
    case round =>
      obtain ⟨k, hk, rfl, hpre, kb, hb⟩ := hrel
      by_cases hlt : k < l.length
      · have hx1 := h.ext hb
        obtain ⟨b, off, rfl, hbl, q0, q1, q2, hl1, hr1, hr2⟩ := hx1.grantAt hlt
        obtain ⟨⟨gs, gn, gr⟩, hx⟩ : ∃ x, x = l[k] := ⟨_, rfl⟩
        rw [← hx] at q0 q1 q2 hl1 hr1 hr2
        dsimp only at q0 q1 q2 hl1 hr1 hr2
        obtain ⟨t1, ht1⟩ : ∃ t, whoF gs = t := ⟨_, rfl⟩
        obtain ⟨t2, ht2⟩ : ∃ t, (decide (1 ≤ gr) && decide (gr ≤ 63)) = t := ⟨_, rfl⟩
        have herr : grantErr l k = if !t1 then (some 10 : Option Int) else if !t2 then some 3 else if k = 0 then none else match l[k - 1]? with
            | none => none
            | some p => if !afterF (gs, gn, gr) p then some 19 else none := by
          rw [grantErr, List.getElem?_eq_getElem hlt, ← hx]
          have : (gr < 1 ∨ 63 < gr) ↔ (!t2) = true := by rw [← ht2]; simp
          simp only [ht1, this]
          rfl
        have hsm := fun w => Who_ok gs hl1 w
        rw [ht1] at hsm
        have hin := fun w => in_ok gr 1 63 w
        rw [ht2] at hin
        have Hsm := Lib.hid hsm; have Herr := Lib.hid herr; have Hin := Lib.hid hin
        have hhit : ∀ c, grantErr l k = some c → grantsF l = (c, 100 + (k : Int)) := fun c hc => by rw [Hg.out, scan_hit hlt hpre.out hc]
        have Hhit := Lib.hid hhit
        clear hsm herr ht1 hhit hx hin ht2
        go_wp2_with fail
        refine (Hsm.out _).mono ?_
        rintro e w1 ⟨rfl, rfl⟩
        cases t1 with
        | false =>
          go_wp2_with fail
          refine (at8_ok _ _ _).mono ?_
          rintro e w9 ⟨rfl, hb9⟩
          have k9 := kb.ext hb9
          obtain ⟨c0, c1, z0, z1, s1⟩ := k9.two
          obtain ⟨e0, e1⟩ := k9.put2 (.int .i64 (10)) (.int .i64 (100 + (k : Int)))
          have hbw9 := hb.trans (hb9.mono hb.size)
          go_wp2
          refine bodyPost_ret (v := .agg #[.int .i64 (10), .int .i64 (100 + (k : Int))]) (by simp [results, Try.results27, go_sem, e0, e1]) rfl ⟨?_, below_set2 hbw9 (Nat.le_refl _) _ _⟩
          exact ret_fault (Hhit.out 10 (by rw [Herr.out]; rfl))
        | true =>
          go_wp2_with fail
          refine (Hin.out _).mono ?_
          rintro e w1 ⟨rfl, rfl⟩
          cases t2 with
          | false =>
            go_wp2_with fail
            refine (at8_ok _ _ _).mono ?_
            rintro e w9 ⟨rfl, hb9⟩
            have k9 := kb.ext hb9
            obtain ⟨c0, c1, z0, z1, s1⟩ := k9.two
            obtain ⟨e0, e1⟩ := k9.put2 (.int .i64 (3)) (.int .i64 (100 + (k : Int)))
            have hbw9 := hb.trans (hb9.mono hb.size)
            go_wp2
            refine bodyPost_ret (v := .agg #[.int .i64 (3), .int .i64 (100 + (k : Int))]) (by simp [results, Try.results27, go_sem, e0, e1]) rfl ⟨?_, below_set2 hbw9 (Nat.le_refl _) _ _⟩
            exact ret_fault (Hhit.out 3 (by rw [Herr.out]; rfl))
          | true =>
            by_cases hk0 : k = 0
            · subst hk0
              have herr2 : grantErr l 0 = none := by rw [Herr.out]; rfl
              have Herr2 := Lib.hid herr2
              clear herr2
              go_wp2
              go_quiet (fail)
              go_wp2
              go_roundw
              case rel => exact ⟨1, by omega, by go_num, Lib.hid fun j hj => by
                obtain rfl : j = 0 := by omega
                exact Herr2.out, kb.drewN _, hb.trans (below_drewN' _ _ _)⟩
              case measure => simp [intOf]; omega
            · obtain ⟨m, rfl⟩ : ∃ m, k = m + 1 := ⟨k - 1, by omega⟩
              have hml : m < l.length := by omega
              obtain ⟨_, _, e1, _, p0, p1, p2, _, _, _⟩ := hx1.grantAt hml
              cases e1
              obtain ⟨⟨ps, pn, pr⟩, hp⟩ : ∃ x, x = l[m] := ⟨_, rfl⟩
              rw [← hp] at p0 p1 p2
              dsimp only at p0 p1 p2
              obtain ⟨o, ho⟩ : ∃ o, afterF (gs, gn, gr) (ps, pn, pr) = o := ⟨_, rfl⟩
              have herr2 : grantErr l (m + 1) = if !o then some 19 else none := by
                rw [Herr.out, if_neg (by simp), if_neg (by simp), if_neg (Nat.succ_ne_zero m), Nat.add_sub_cancel, List.getElem?_eq_getElem hml, ← hp, ← ho]
              have hoc : ∀ W, Calls Try.prog 55 #[.agg #[.string (bs gs), .bool gn, .int .i64 gr], .agg #[.string (bs ps), .bool pn, .int .i64 pr]] W fun e w' => e = .returned (.bool o) ∧ Below W.heap.size W w' := fun W => by
                have := after_ok (gs, gn, gr) (ps, pn, pr) W
                rw [ho] at this
                exact this
              have Hoc := Lib.hid hoc; have Herr2 := Lib.hid herr2
              have hS : ∀ W, Below wr.heap.size wr W → W.cell? ⟨b, off + m * 3, none⟩ = some (.string (bs ps)) ∧ W.cell? ⟨b, off + m * 3 + 1, none⟩ = some (.bool pn) ∧ W.cell? ⟨b, off + m * 3 + 2, none⟩ = some (.int .i64 pr) ∧
                  W.cell? ⟨b, off + (m + 1) * 3, none⟩ = some (.string (bs gs)) ∧ W.cell? ⟨b, off + (m + 1) * 3 + 1, none⟩ = some (.bool gn) ∧ W.cell? ⟨b, off + (m + 1) * 3 + 2, none⟩ = some (.int .i64 gr) := fun W hW =>
                ⟨(hW.cell (p := ⟨b, off + m * 3, none⟩) hbl).trans p0, (hW.cell (p := ⟨b, off + m * 3 + 1, none⟩) hbl).trans p1, (hW.cell (p := ⟨b, off + m * 3 + 2, none⟩) hbl).trans p2,
                  (hW.cell (p := ⟨b, off + (m + 1) * 3, none⟩) hbl).trans q0, (hW.cell (p := ⟨b, off + (m + 1) * 3 + 1, none⟩) hbl).trans q1, (hW.cell (p := ⟨b, off + (m + 1) * 3 + 2, none⟩) hbl).trans q2⟩
              have HS := Lib.hid hS
              have hS0 := HS.out _ (below_drewN' wr.heap.size wr 1)
              clear hoc herr2 ho hp q0 q1 q2 p0 p1 p2 hS
              have hi0 : (0 : Int) ≤ (m : Int) := by omega
              have hi1 : (m : Int) < (l.length : Int) := by omega
              have hi2 : (0 : Int) ≤ (m : Int) + 1 := by omega
              have hi3 : (m : Int) + 1 < (l.length : Int) := by omega
              have hq0 : IntKind.i64.wrap ((m : Int) + 1 - 1) = (m : Int) := by rw [Int.add_sub_cancel]; exact IntWalk.i64_in _ (by omega)
              have hq1 : IntKind.i64.wrap (m : Int) = (m : Int) := IntWalk.i64_in _ (by omega)
              have hq2 : ((m : Int) + 1).toNat = m + 1 := by omega
              go_wp2
              go_region_held3 (fun W => W.cell? ⟨b, off + m * 3, none⟩ = some (.string (bs ps)) ∧ W.cell? ⟨b, off + m * 3 + 1, none⟩ = some (.bool pn) ∧ W.cell? ⟨b, off + m * 3 + 2, none⟩ = some (.int .i64 pr) ∧ W.cell? ⟨b, off + (m + 1) * 3, none⟩ = some (.string (bs gs)) ∧ W.cell? ⟨b, off + (m + 1) * 3 + 1, none⟩ = some (.bool gn) ∧ W.cell? ⟨b, off + (m + 1) * 3 + 2, none⟩ = some (.int .i64 gr)) (first | exact hS0 | exact hS2) ((go_at_call 55; refine (Hoc.out _).mono ?_; rintro e w2 ⟨rfl, hb2⟩; have hb12 : Below wr.heap.size wr w2 := Below.trans (below_drewN' wr.heap.size wr 1) hb2; have hS2 := HS.out _ hb12))
              have kb2 := kb.ext hb12
              have hb2w := hb.trans (hb12.mono hb.size)
              clear hS0 hS2 hq0 hq1 hq2
              cases o with
              | false =>
                go_wp2_with fail
                refine (at8_ok _ _ _).mono ?_
                rintro e w9 ⟨rfl, hb9⟩
                have k9 := kb2.ext hb9
                obtain ⟨c0, c1, z0, z1, s1⟩ := k9.two
                obtain ⟨e0, e1⟩ := k9.put2 (.int .i64 (19)) (.int .i64 (100 + ((m : Int) + 1)))
                have hbw9 := hb2w.trans (hb9.mono hb2w.size)
                go_wp2
                refine bodyPost_ret (v := .agg #[.int .i64 (19), .int .i64 (100 + ((m : Int) + 1))]) (by simp [results, Try.results27, go_sem, e0, e1]) rfl ⟨?_, below_set2 hbw9 (Nat.le_refl _) _ _⟩
                exact ret_fault (Hhit.out 19 (by rw [Herr2.out]; rfl))
              | true =>
                go_wp2
                go_roundw
                case rel => exact ⟨m + 1 + 1, by omega, by go_num, Lib.hid fun j hj => by
                  by_cases e : j = m + 1
                  · subst e; rw [Herr2.out]; rfl
                  · exact hpre.out j (by omega), kb2, hb2w⟩
                case measure => simp [intOf]; omega
      · have hnone : grantsF l = (0, 0) := by rw [Hg.out, scan_none fun j hj => hpre.out j (by omega)]
        have Hnone := Lib.hid hnone
        clear hnone
        obtain ⟨c0, c1, z0, z1, s1⟩ := kb.two
        obtain ⟨e0, e1⟩ := kb.put2 (.int .i64 0) (.int .i64 0)
        go_wp2
        exact bodyPost_ret (v := .agg #[.int .i64 0, .int .i64 0]) (by simp [results, Try.results27, go_sem, e0, e1]) rfl ⟨ret_fault Hnone.out, below_set2 hb (Nat.le_refl _) _ _⟩
end Go.Proofs.Ytopldghfphgjoaa

/-
  Grants, by the program.
-/
import Derived.Test.YtopldghfphgjoaaRg4
import Derived.IntWalk
import Derived.Outline
namespace Go.Proofs.Ytopldghfphgjoaa
open Go.RowKit

set_option maxRecDepth 20000 in
set_option maxHeartbeats 4000000 in
theorem grants_ok (v : Value) (l : List Grant) (w : World) (h : SlR grantC M0 w v l) : Calls Try.prog 30 #[v] w fun e w' => e = .returned (.agg #[.int .i64 (grantsF l).1, .int .i64 (grantsF l).2]) ∧ Below w.heap.size w w' := by
  obtain ⟨A, c, rfl, _, _⟩ := h.form
  obtain ⟨hlc, hcm⟩ := h.lenM
  by_cases hl : 60 < l.length
  · have hg : grantsF l = (2, -2) := by rw [grantsF, if_pos hl]
    rw [hg]
    clear hg h
    go_enter Try.func30, Try.ntmps30
    go_wp2_with fail
    refine (fault_ok _ _ _).mono ?_
    rintro e w9 ⟨rfl, hb9⟩
    have k9 := (Blk.new w 24 #[.int .i64 0, .int .i64 0]).ext hb9
    obtain ⟨c0, c1, z0, z1, s1⟩ := k9.two
    obtain ⟨e0, e1⟩ := k9.put2 (.int .i64 2) (.int .i64 (-2))
    have hbw9 := below_alloc hb9
    go_wp2
    exact bodyPost_ret (v := .agg #[.int .i64 2, .int .i64 (-2)]) (by simp [results, Try.results30, go_sem, e0, e1]) rfl ⟨rfl, below_set2 hbw9 (Nat.le_refl _) _ _⟩
  · have hg : grantsF l = scanF (grantErr l) 100 l.length := by rw [grantsF, if_neg hl]
    have Hg := Lib.hid hg
    clear hg
    have hln : l.length ≤ 60 := by omega
    go_enter Try.func30, Try.ntmps30
    go_wp2
    go_loopw [11] (fun i wr => ∃ k : Nat, k ≤ l.length ∧ i = .int .i64 k ∧ Hid (∀ j, j < k → grantErr l j = none) ∧ Blk wr w.heap.size 24 #[.int .i64 0, .int .i64 0] ∧ Below w.heap.size w wr) (fun i _ => l.length - (intOf i).toNat)
    case atStart => exact ⟨0, Nat.zero_le _, rfl, Lib.hid fun j h => absurd h (by omega), Blk.new _ _ _, (Below.refl _ _).alloc (Nat.le_refl _) _⟩
    case round =>
      obtain ⟨k, hk, rfl, hpre, kb, hb⟩ := hrel
      by_cases hlt : k < l.length
      · have hx1 := h.ext hb
        obtain ⟨b, off, rfl, hbl, q0, q1, q2, hl1, hr1, hr2⟩ := hx1.grantAt hlt
        obtain ⟨⟨gs, gn, gr⟩, hx⟩ : ∃ x, x = l[k] := ⟨_, rfl⟩
        rw [← hx] at q0 q1 q2 hl1 hr1 hr2
        dsimp only at q0 q1 q2 hl1 hr1 hr2
        obtain ⟨t1, ht1⟩ : ∃ t, whoF gs = t := ⟨_, rfl⟩
        have herr : grantErr l k = if !t1 then (some 10 : Option Int) else if gr < 1 ∨ 63 < gr then some 3 else if k = 0 then none else match l[k - 1]? with
            | none => none
            | some p => if !afterF (gs, gn, gr) p then some 19 else none := by
          rw [grantErr, List.getElem?_eq_getElem hlt, ← hx]
          simp only [ht1]
          rfl
        have hsm := fun w => who_ok gs hl1 w
        rw [ht1] at hsm
        have Hsm := Lib.hid hsm; have Herr := Lib.hid herr
        have hhit : ∀ c, grantErr l k = some c → grantsF l = (c, 100 + (k : Int)) := fun c hc => by rw [Hg.out, scan_hit hlt hpre.out hc]
        have Hhit := Lib.hid hhit
        clear hsm herr ht1 hhit hx
        have kbx := kb.alloc (.cells #[.string (bs gs), .bool gn, .int .i64 gr] 47)
        have kbox := Blk.new wr 47 #[.string (bs gs), .bool gn, .int .i64 gr]
        have hbx := hb.alloc hb.size (.cells #[.string (bs gs), .bool gn, .int .i64 gr] 47)
        go_wp2_with fail
        refine (Hsm.out _).mono ?_
        rintro e w1 ⟨rfl, hb1⟩
        have kb1 := kbx.ext hb1
        have kx1 := kbox.ext hb1
        have hb1w := hbx.trans (hb1.mono hbx.size)
        clear kbx kbox hbx
        obtain ⟨x0, x1, x2, _, _, _, xb⟩ := kx1.three
        cases t1 with
        | false =>
          go_wp2_with fail
          refine (fault_ok _ _ _).mono ?_
          rintro e w9 ⟨rfl, hb9⟩
          have k9 := kb1.ext hb9
          obtain ⟨c0, c1, z0, z1, s1⟩ := k9.two
          obtain ⟨e0, e1⟩ := k9.put2 (.int .i64 (10)) (.int .i64 (100 + (k : Int)))
          have hbw9 := hb1w.trans (hb9.mono hb1w.size)
          go_wp2
          refine bodyPost_ret (v := .agg #[.int .i64 (10), .int .i64 (100 + (k : Int))]) (by simp [results, Try.results30, go_sem, e0, e1]) rfl ⟨?_, below_set2 hbw9 (Nat.le_refl _) _ _⟩
          exact ret_fault (Hhit.out 10 (by rw [Herr.out]; rfl))
        | true =>
          by_cases hr : gr < 1 ∨ 63 < gr
          · have herr2 : grantErr l k = some 3 := by rw [Herr.out, if_pos hr]; rfl
            have Herr2 := Lib.hid herr2
            clear herr2
            rcases hr with hr | hr
            ·
              go_wp2_with fail
              refine (fault_ok _ _ _).mono ?_
              rintro e w9 ⟨rfl, hb9⟩
              have k9 := kb1.ext hb9
              obtain ⟨c0, c1, z0, z1, s1⟩ := k9.two
              obtain ⟨e0, e1⟩ := k9.put2 (.int .i64 (3)) (.int .i64 (100 + (k : Int)))
              have hbw9 := hb1w.trans (hb9.mono hb1w.size)
              go_wp2
              refine bodyPost_ret (v := .agg #[.int .i64 (3), .int .i64 (100 + (k : Int))]) (by simp [results, Try.results30, go_sem, e0, e1]) rfl ⟨?_, below_set2 hbw9 (Nat.le_refl _) _ _⟩
              exact ret_fault (Hhit.out 3 Herr2.out)
            ·
              go_wp2_with fail
              refine (fault_ok _ _ _).mono ?_
              rintro e w9 ⟨rfl, hb9⟩
              have k9 := kb1.ext hb9
              obtain ⟨c0, c1, z0, z1, s1⟩ := k9.two
              obtain ⟨e0, e1⟩ := k9.put2 (.int .i64 (3)) (.int .i64 (100 + (k : Int)))
              have hbw9 := hb1w.trans (hb9.mono hb1w.size)
              go_wp2
              refine bodyPost_ret (v := .agg #[.int .i64 (3), .int .i64 (100 + (k : Int))]) (by simp [results, Try.results30, go_sem, e0, e1]) rfl ⟨?_, below_set2 hbw9 (Nat.le_refl _) _ _⟩
              exact ret_fault (Hhit.out 3 Herr2.out)
          · have hrA : 1 ≤ gr := by omega
            have hrB : gr ≤ 63 := by omega
            by_cases hk0 : k = 0
            · subst hk0
              have herr2 : grantErr l 0 = none := by rw [Herr.out, if_neg hr]; rfl
              have Herr2 := Lib.hid herr2
              clear herr2 hr
              go_wp2
              go_quiet (fail)
              go_wp2
              go_roundw
              case rel => exact ⟨1, by omega, by go_num, Lib.hid fun j hj => by
                obtain rfl : j = 0 := by omega
                exact Herr2.out, kb1.drewN _, hb1w.trans (below_drewN' _ _ _)⟩
              case measure => simp [intOf]; omega
            · obtain ⟨m, rfl⟩ : ∃ m, k = m + 1 := ⟨k - 1, by omega⟩
              have hml : m < l.length := by omega
              have hbw1 : Below wr.heap.size wr w1 := below_alloc hb1
              obtain ⟨_, _, e1, _, p0, p1, p2, _, _, _⟩ := (hx1.ext hbw1).grantAt hml
              cases e1
              obtain ⟨⟨ps, pn, pr⟩, hp⟩ : ∃ x, x = l[m] := ⟨_, rfl⟩
              rw [← hp] at p0 p1 p2
              dsimp only at p0 p1 p2
              have herr2 : grantErr l (m + 1) = if !afterF (gs, gn, gr) (ps, pn, pr) then some 19 else none := by
                rw [Herr.out, if_neg hr, if_neg (Nat.succ_ne_zero m), Nat.add_sub_cancel, List.getElem?_eq_getElem hml, ← hp]; rfl
              obtain ⟨o, ho⟩ : ∃ o, orderF (ps, pn, pr) (gs, gn, gr) = o := ⟨_, rfl⟩
              have hoa := order_after (ps, pn, pr) (gs, gn, gr)
              rw [ho] at hoa
              have hoc : ∀ W, Calls Try.prog 51 #[.agg #[.string (bs ps), .bool pn, .int .i64 pr], .agg #[.string (bs gs), .bool gn, .int .i64 gr]] W fun e w' => e = .returned (.int .i64 o) ∧ Below W.heap.size W w' := fun W => by
                have := order_ok (ps, pn, pr) (gs, gn, gr) W
                rw [ho] at this
                exact this
              have Hoc := Lib.hid hoc; have Herr2 := Lib.hid herr2; have Hoa := Lib.hid hoa
              have hS : ∀ W, Below w1.heap.size w1 W → W.cell? ⟨b, off + m * 3, none⟩ = some (.string (bs ps)) ∧ W.cell? ⟨b, off + m * 3 + 1, none⟩ = some (.bool pn) ∧ W.cell? ⟨b, off + m * 3 + 2, none⟩ = some (.int .i64 pr) ∧
                  W.cell? ⟨wr.heap.size, 0, none⟩ = some (.string (bs gs)) ∧ W.cell? ⟨wr.heap.size, 1, none⟩ = some (.bool gn) ∧ W.cell? ⟨wr.heap.size, 2, none⟩ = some (.int .i64 gr) := fun W hW =>
                have hb1 : b < w1.heap.size := by have := hbw1.size; omega
                ⟨(hW.cell (p := ⟨b, off + m * 3, none⟩) hb1).trans p0, (hW.cell (p := ⟨b, off + m * 3 + 1, none⟩) hb1).trans p1, (hW.cell (p := ⟨b, off + m * 3 + 2, none⟩) hb1).trans p2,
                  (hW.cell (p := ⟨wr.heap.size, 0, none⟩) xb).trans x0, (hW.cell (p := ⟨wr.heap.size, 1, none⟩) xb).trans x1, (hW.cell (p := ⟨wr.heap.size, 2, none⟩) xb).trans x2⟩
              have HS := Lib.hid hS
              have hS0 := HS.out _ (below_drewN' w1.heap.size w1 1)
              clear hoc herr2 hoa ho hp q0 q1 q2 hS hr
              have hi0 : (0 : Int) ≤ (m : Int) := by omega
              have hi1 : (m : Int) < (l.length : Int) := by omega
              have hq0 : IntKind.i64.wrap ((m : Int) + 1 - 1) = (m : Int) := by rw [Int.add_sub_cancel]; exact IntWalk.i64_in _ (by omega)
              have hq1 : IntKind.i64.wrap (m : Int) = (m : Int) := IntWalk.i64_in _ (by omega)
              go_wp2
              go_region_held3 (fun W => W.cell? ⟨b, off + m * 3, none⟩ = some (.string (bs ps)) ∧ W.cell? ⟨b, off + m * 3 + 1, none⟩ = some (.bool pn) ∧ W.cell? ⟨b, off + m * 3 + 2, none⟩ = some (.int .i64 pr) ∧ W.cell? ⟨wr.heap.size, 0, none⟩ = some (.string (bs gs)) ∧ W.cell? ⟨wr.heap.size, 1, none⟩ = some (.bool gn) ∧ W.cell? ⟨wr.heap.size, 2, none⟩ = some (.int .i64 gr)) (first | exact hS0 | exact hS2) ((go_at_call 51; refine (Hoc.out _).mono ?_; rintro e w2 ⟨rfl, hb2⟩; have hb12 : Below w1.heap.size w1 w2 := Below.trans (below_drewN' w1.heap.size w1 1) hb2; have hS2 := HS.out _ hb12))
              have kb2 := kb1.ext hb12
              have hb2w := hb1w.trans (hb12.mono hb1w.size)
              clear hS0 hS2 hq0 hq1
              by_cases ho : 0 ≤ o
              · have herr3 : grantErr l (m + 1) = some 19 := by rw [Herr2.out, Hoa.out.1 ho]; rfl
                have Herr3 := Lib.hid herr3
                clear herr3
                go_wp2_with fail
                refine (fault_ok _ _ _).mono ?_
                rintro e w9 ⟨rfl, hb9⟩
                have k9 := kb2.ext hb9
                obtain ⟨c0, c1, z0, z1, s1⟩ := k9.two
                obtain ⟨e0, e1⟩ := k9.put2 (.int .i64 (19)) (.int .i64 (100 + ((m : Int) + 1)))
                have hbw9 := hb2w.trans (hb9.mono hb2w.size)
                go_wp2
                refine bodyPost_ret (v := .agg #[.int .i64 (19), .int .i64 (100 + ((m : Int) + 1))]) (by simp [results, Try.results30, go_sem, e0, e1]) rfl ⟨?_, below_set2 hbw9 (Nat.le_refl _) _ _⟩
                exact ret_fault (Hhit.out 19 Herr3.out)
              · have herr3 : grantErr l (m + 1) = none := by
                  have : afterF (gs, gn, gr) (ps, pn, pr) = true := by
                    cases h : afterF (gs, gn, gr) (ps, pn, pr) with
                    | true => rfl
                    | false => exact absurd (Hoa.out.2 h) ho
                  rw [Herr2.out, this]; rfl
                have Herr3 := Lib.hid herr3
                clear herr3
                go_wp2
                go_roundw
                case rel => exact ⟨m + 1 + 1, by omega, by go_num, Lib.hid fun j hj => by
                  by_cases e : j = m + 1
                  · subst e; exact Herr3.out
                  · exact hpre.out j (by omega), kb2, hb2w⟩
                case measure => simp [intOf]; omega
      · have hnone : grantsF l = (0, 0) := by rw [Hg.out, scan_none fun j hj => hpre.out j (by omega)]
        have Hnone := Lib.hid hnone
        clear hnone
        go_wp2_with fail
        refine (none_ok _).mono ?_
        rintro e w9 ⟨rfl, hb9⟩
        have k9 := kb.ext hb9
        obtain ⟨c0, c1, z0, z1, s1⟩ := k9.two
        obtain ⟨e0, e1⟩ := k9.put2 (.int .i64 0) (.int .i64 0)
        have hbw9 := hb.trans (hb9.mono hb.size)
        go_wp2
        exact bodyPost_ret (v := .agg #[.int .i64 0, .int .i64 0]) (by simp [results, Try.results30, go_sem, e0, e1]) rfl ⟨ret_fault Hnone.out, below_set2 hbw9 (Nat.le_refl _) _ _⟩
end Go.Proofs.Ytopldghfphgjoaa

/-
  Groups, by the program.
-/
import Derived.Test.YtopldghfphgjoaaRg2
namespace Go.Proofs.Ytopldghfphgjoaa
open Go.RowKit

theorem groups1_ok (g : Group) (A : Option Addr) (c : Nat) (B : Nat) (nm : Str) (w : World) (hc : w.cell? ⟨B, 0, none⟩ = some (.string (bs nm))) (hB : B < w.heap.size) : Calls Try.prog 57 #[grv A c g, .pointer (some ⟨B, 0, none⟩)] w fun e w' => e = .returned (.bool (g.1 == nm)) ∧ Below w.heap.size w w' := by
  unfold grv
  go_enter Try.func57, Try.ntmps57
  go_wp2
  go_ret
  exact ⟨ret_bool (by simp), (Below.refl _ _).alloc (Nat.le_refl _) _⟩
theorem groups2_ok (s : Str) (w : World) (hs : s.length ≤ maxLen) : Calls Try.prog 59 #[.string (bs s)] w fun e w' => e = .returned (.bool (!userF s)) ∧ Below w.heap.size w w' := by
  have h := small_ok s hs w
  have H := Lib.hid h
  clear h hs
  go_enter Try.func59, Try.ntmps59
  go_wp2_with fail
  refine H.out.mono ?_
  rintro e w1 ⟨rfl, hb⟩
  go_wp2
  go_ret
  exact ⟨rfl, hb⟩
theorem ret_fault {a b c d : Int} (h : (c, d) = (a, b)) : Ending.returned (.agg #[.int .i64 a, .int .i64 b]) = .returned (.agg #[.int .i64 c, .int .i64 d]) := by injection h with h1 h2; rw [h1, h2]

set_option maxRecDepth 20000 in
set_option maxHeartbeats 4000000 in
theorem groups_ok (v : Value) (l : List Group) (w : World) (h : SlR groupC M0 w v l) : Calls Try.prog 29 #[v] w fun e w' => e = .returned (.agg #[.int .i64 (groupsF l).1, .int .i64 (groupsF l).2]) ∧ Below w.heap.size w w' := by
  obtain ⟨A, c, rfl, _, _⟩ := h.form
  obtain ⟨hlc, hcm⟩ := h.lenM
  by_cases hl : 60 < l.length
  · have hg : groupsF l = (2, -1) := by rw [groupsF, if_pos hl]
    rw [hg]
    clear hg h
    go_enter Try.func29, Try.ntmps29
    go_wp2_with fail
    refine (fault_ok _ _ _).mono ?_
    rintro e w9 ⟨rfl, hb9⟩
    have k9 := (Blk.new w 24 #[.int .i64 0, .int .i64 0]).ext hb9
    obtain ⟨c0, c1, z0, z1, s1⟩ := k9.two
    obtain ⟨e0, e1⟩ := k9.put2 (.int .i64 2) (.int .i64 (-1))
    have hbw9 := below_alloc hb9
    go_wp2
    exact bodyPost_ret (v := .agg #[.int .i64 2, .int .i64 (-1)]) (by simp [results, Try.results29, go_sem, e0, e1]) rfl ⟨rfl, below_set2 hbw9 (Nat.le_refl _) _ _⟩
  · have hg : groupsF l = scanF (grpErr l) 0 l.length := by rw [groupsF, if_neg hl]
    have Hg := Lib.hid hg
    clear hg
    have hln : l.length ≤ 60 := by omega
    go_enter Try.func29, Try.ntmps29
    go_wp2
    go_loopw [11] (fun i wr => ∃ k : Nat, k ≤ l.length ∧ i = .int .i64 k ∧ Hid (∀ j, j < k → grpErr l j = none) ∧ Blk wr w.heap.size 24 #[.int .i64 0, .int .i64 0] ∧ Below w.heap.size w wr) (fun i _ => l.length - (intOf i).toNat)
    case atStart => exact ⟨0, Nat.zero_le _, rfl, Lib.hid fun j h => absurd h (by omega), Blk.new _ _ _, (Below.refl _ _).alloc (Nat.le_refl _) _⟩
    case round =>
      obtain ⟨k, hk, rfl, hpre, kb, hb⟩ := hrel
      by_cases hlt : k < l.length
      · have hx1 := h.ext hb
        obtain ⟨b, off, A2, c2, rfl, hbl, q0, q1, hl1, hs⟩ := hx1.groupAt hlt
        obtain ⟨⟨gs, gm⟩, hx⟩ : ∃ x, x = l[k] := ⟨_, rfl⟩
        rw [← hx] at q0 q1 hl1 hs
        dsimp only at q0 q1 hl1 hs
        obtain ⟨t1, ht1⟩ : ∃ t, userF gs = t := ⟨_, rfl⟩
        obtain ⟨t2, ht2⟩ : ∃ t, (l.take k).any (fun x => x.1 == gs) = t := ⟨_, rfl⟩
        obtain ⟨t3, ht3⟩ : ∃ t, gm.any (fun s => !userF s) = t := ⟨_, rfl⟩
        have herr : grpErr l k = if !t1 then some 10 else if t2 then some 7 else if 300 < gm.length then some 2 else if t3 then some 10 else none := by
          rw [grpErr, List.getElem?_eq_getElem hlt, ← hx]
          simp only [ht1, ht2, ht3]
        have hsm := fun w => small_ok gs hl1 w
        rw [ht1] at hsm
        have hfirst := hx1.firsts (z := k) (by omega)
        have Hsm := Lib.hid hsm; have Herr := Lib.hid herr; have Ht2 := Lib.hid ht2; have Ht3 := Lib.hid ht3
        have hgm := hs.lenM
        have hhit : ∀ c, grpErr l k = some c → groupsF l = (c, (k : Int)) := fun c hc => by rw [Hg.out, scan_hit hlt hpre.out hc]; simp
        have Hhit := Lib.hid hhit
        clear hsm herr ht1 ht2 ht3 hx hhit hx1
        have kbx := kb.alloc (.cells #[.string (bs gs), .slice A2 gm.length c2] 80)
        have kbox := Blk.new wr 80 #[.string (bs gs), .slice A2 gm.length c2]
        have hbx := hb.alloc hb.size (.cells #[.string (bs gs), .slice A2 gm.length c2] 80)
        have hsx := hs.ext ((Below.refl wr.heap.size wr).alloc (Nat.le_refl _) (.cells #[.string (bs gs), .slice A2 gm.length c2] 80))
        have hfx := hfirst.ext ((Below.refl wr.heap.size wr).alloc (Nat.le_refl _) (.cells #[.string (bs gs), .slice A2 gm.length c2] 80))
        clear hs hfirst
        go_wp2_with fail
        refine (Hsm.out _).mono ?_
        rintro e w1 ⟨rfl, hb1⟩
        have kb1 := kbx.ext hb1
        have kx1 := kbox.ext hb1
        have hb1w := hbx.trans (hb1.mono hbx.size)
        have hs1 := hsx.ext hb1
        have hf1 := hfx.ext hb1
        clear kbx kbox hbx hsx hfx
        obtain ⟨x0, x1, _, _, xb⟩ := kx1.two
        cases t1 with
        | false =>
          go_wp2_with fail
          refine (fault_ok _ _ _).mono ?_
          rintro e w9 ⟨rfl, hb9⟩
          have k9 := kb1.ext hb9
          obtain ⟨c0, c1, z0, z1, s1⟩ := k9.two
          obtain ⟨e0, e1⟩ := k9.put2 (.int .i64 (10)) (.int .i64 ((k : Int)))
          have hbw9 := hb1w.trans (hb9.mono hb1w.size)
          go_wp2
          refine bodyPost_ret (v := .agg #[.int .i64 (10), .int .i64 ((k : Int))]) (by simp [results, Try.results29, go_sem, e0, e1]) rfl ⟨?_, below_set2 hbw9 (Nat.le_refl _) _ _⟩
          exact ret_fault (Hhit.out 10 (by rw [Herr.out]; rfl))
        | true =>
          have hcf := containsFuncG_ok M0 57 #[.pointer (some ⟨wr.heap.size, 0, none⟩)] (fun x => x.1 == gs) (l.take k) _ w1 hf1 (enters_of Try.func57 (by kernel_rfl) rfl)
            (fun g A c w2 hb2 _ _ => groups1_ok g A c wr.heap.size gs w2 ((kx1.ext hb2).two.1) (by have := hb2.size; omega))
          rw [Ht2.out] at hcf
          have Hcf := Lib.hid hcf
          clear hcf
          go_wp2_with fail
          refine Hcf.out.mono ?_
          rintro e w2 ⟨rfl, hb2⟩
          have kb2 := kb1.ext hb2
          have kx2 := kx1.ext hb2
          have hb2w := hb1w.trans (hb2.mono hb1w.size)
          have hs2 := hs1.ext hb2
          clear kb1 kx1 x0 x1 hs1 hf1
          obtain ⟨x0, x1, _, _, xb⟩ := kx2.two
          cases t2 with
          | true =>
            go_wp2_with fail
            refine (fault_ok _ _ _).mono ?_
            rintro e w9 ⟨rfl, hb9⟩
            have k9 := kb2.ext hb9
            obtain ⟨c0, c1, z0, z1, s1⟩ := k9.two
            obtain ⟨e0, e1⟩ := k9.put2 (.int .i64 (7)) (.int .i64 ((k : Int)))
            have hbw9 := hb2w.trans (hb9.mono hb2w.size)
            go_wp2
            refine bodyPost_ret (v := .agg #[.int .i64 (7), .int .i64 ((k : Int))]) (by simp [results, Try.results29, go_sem, e0, e1]) rfl ⟨?_, below_set2 hbw9 (Nat.le_refl _) _ _⟩
            exact ret_fault (Hhit.out 7 (by rw [Herr.out]; rfl))
          | false =>
            by_cases h300 : 300 < gm.length
            · have herr2 : grpErr l k = some 2 := by rw [Herr.out]; simp [h300]
              have Herr2 := Lib.hid herr2
              clear herr2
              go_wp2_with fail
              refine (fault_ok _ _ _).mono ?_
              rintro e w9 ⟨rfl, hb9⟩
              have k9 := kb2.ext hb9
              obtain ⟨c0, c1, z0, z1, s1⟩ := k9.two
              obtain ⟨e0, e1⟩ := k9.put2 (.int .i64 (2)) (.int .i64 ((k : Int)))
              have hbw9 := hb2w.trans (hb9.mono hb2w.size)
              go_wp2
              refine bodyPost_ret (v := .agg #[.int .i64 (2), .int .i64 ((k : Int))]) (by simp [results, Try.results29, go_sem, e0, e1]) rfl ⟨?_, below_set2 hbw9 (Nat.le_refl _) _ _⟩
              exact ret_fault (Hhit.out 2 Herr2.out)
            · have herr2 : grpErr l k = if t3 then some 10 else none := by rw [Herr.out]; simp [h300]
              have hcf := containsFuncS_ok M0 59 #[] (fun s => !userF s) gm _ w2 hs2 (enters_of Try.func59 (by kernel_rfl) rfl)
                (fun g w2 _ hl => groups2_ok g w2 hl)
              rw [Ht3.out] at hcf
              have Hcf := Lib.hid hcf
              have Herr2 := Lib.hid herr2
              clear hcf herr2
              go_wp2_with fail
              refine Hcf.out.mono ?_
              rintro e w3 ⟨rfl, hb3⟩
              have kb3 := kb2.ext hb3
              have hb3w := hb2w.trans (hb3.mono hb2w.size)
              cases t3 with
              | true =>
                go_wp2_with fail
                refine (fault_ok _ _ _).mono ?_
                rintro e w9 ⟨rfl, hb9⟩
                have k9 := kb3.ext hb9
                obtain ⟨c0, c1, z0, z1, s1⟩ := k9.two
                obtain ⟨e0, e1⟩ := k9.put2 (.int .i64 (10)) (.int .i64 ((k : Int)))
                have hbw9 := hb3w.trans (hb9.mono hb3w.size)
                go_wp2
                refine bodyPost_ret (v := .agg #[.int .i64 (10), .int .i64 ((k : Int))]) (by simp [results, Try.results29, go_sem, e0, e1]) rfl ⟨?_, below_set2 hbw9 (Nat.le_refl _) _ _⟩
                exact ret_fault (Hhit.out 10 (by rw [Herr2.out]; rfl))
              | false =>
                go_wp2
                go_roundw
                case rel => exact ⟨k + 1, by omega, by go_num, Lib.hid fun j hj => by
                  by_cases e : j = k
                  · subst e; rw [Herr2.out]; rfl
                  · exact hpre.out j (by omega), kb3, hb3w⟩
                case measure => simp [intOf]; omega
      · have hnone : groupsF l = (0, 0) := by rw [Hg.out, scan_none fun j hj => hpre.out j (by omega)]
        have Hnone := Lib.hid hnone
        clear hnone
        go_wp2_with fail
        refine (none_ok _).mono ?_
        rintro e w9 ⟨rfl, hb9⟩
        have k9 := kb.ext hb9
        obtain ⟨c0, c1, z0, z1, s1⟩ := k9.two
        obtain ⟨e0, e1⟩ := k9.put2 (.int .i64 0) (.int .i64 0)
        have hbw9 := hb.trans (hb9.mono hb.size)
        go_wp2
        exact bodyPost_ret (v := .agg #[.int .i64 0, .int .i64 0]) (by simp [results, Try.results29, go_sem, e0, e1]) rfl ⟨ret_fault Hnone.out, below_set2 hbw9 (Nat.le_refl _) _ _⟩
end Go.Proofs.Ytopldghfphgjoaa

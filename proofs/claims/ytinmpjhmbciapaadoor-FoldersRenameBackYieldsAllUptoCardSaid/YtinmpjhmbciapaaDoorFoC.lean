/-
  folders.Validate, few.
-/
import Derived.Test.YtinmpjhmbciapaaDoorFoB
import Derived.Shelf.RegionOpen
namespace Go.Proofs.YtinmpjhmbciapaaDoor
open Go.RowKit

theorem few_ok' (M : Nat → Prop) (l : List Str) (v : Value) (w : World) (h : SlR strC M w v l) : Calls Tryd.prog 44 #[v] w fun e w' => ∃ v', e = .returned (.tuple #[v', .agg #[.int .i64 (fewF l).2.1, .int .i64 (fewF l).2.2]]) ∧ SlR strC M w' v' (fewF l).1 ∧ Below w.heap.size w w' := by
  obtain ⟨A, c, rfl, _, _⟩ := h.form
  obtain ⟨hlc, hcm⟩ := h.lenM
  have k0 := Blk.new w 24 #[.int .i64 0, .int .i64 0]
  have b0 := (Below.refl w.heap.size w).alloc (Nat.le_refl _) (.cells #[.int .i64 0, .int .i64 0] 24)
  have Hh := Lib.hid h
  clear h
  by_cases hl : 100 < l.length
  · have hf : fewF l = ([], 2, -1) := by rw [fewF, if_pos hl]
    rw [hf]
    clear hf
    go_enter Tryd.func44, Tryd.ntmps44
    go_wp2_with fail
    refine (fault_ok _ _ _).mono ?_
    rintro e w9 ⟨rfl, hb9⟩
    have k9 := k0.ext hb9
    obtain ⟨c0, c1, z0, z1, s1⟩ := k9.two
    obtain ⟨e0, e1⟩ := k9.put2 (.int .i64 2) (.int .i64 (-1))
    have b9 := b0.trans (hb9.mono b0.size)
    go_wp2
    exact bodyPost_ret (v := .tuple #[.slice none 0 0, .agg #[.int .i64 2, .int .i64 (-1)]]) (by simp [results, Tryd.results44, go_sem, e0, e1]) rfl ⟨_, rfl, SlR.nil _ _ _, below_set2 b9 (Nat.le_refl _) _ _⟩
  · have hf : fewF l = (l, 0, 0) := by rw [fewF, if_neg hl]
    rw [hf]
    clear hf
    go_enter Tryd.func44, Tryd.ntmps44
    go_wp2_with fail
    refine (none_ok _).mono ?_
    rintro e w9 ⟨rfl, hb9⟩
    have k9 := k0.ext hb9
    obtain ⟨c0, c1, z0, z1, s1⟩ := k9.two
    obtain ⟨e0, e1⟩ := k9.put2 (.int .i64 0) (.int .i64 0)
    have b9 := b0.trans (hb9.mono b0.size)
    have hx : SlR strC (fun b => M b ∨ b = w.heap.size) w (.slice A l.length c) l := Hh.out.sub fun b hb e => e.elim id fun e => absurd hb (by omega)
    have hs9 := ((hx.ext b9).set2 (g := w.heap.size) (.inr rfl) (.int .i64 0) (.int .i64 0)).sub (M' := M) fun b _ hm => .inl hm
    go_wp2
    exact bodyPost_ret (v := .tuple #[.slice A l.length c, .agg #[.int .i64 0, .int .i64 0]]) (by simp [results, Tryd.results44, go_sem, e0, e1]) rfl ⟨_, rfl, hs9, below_set2 b9 (Nat.le_refl _) _ _⟩
theorem any_mem (l : List Str) (s : Str) : l.any (· == s) = decide (s ∈ l) := by
  rw [Bool.eq_iff_iff, List.any_eq_true, decide_eq_true_eq]
  constructor
  · rintro ⟨x, hx, h⟩; rw [← beq_iff_eq.1 h]; exact hx
  · intro h; exact ⟨s, h, beq_self_eq_true s⟩

set_option maxHeartbeats 8000000 in
set_option maxRecDepth 20000 in
theorem validate_ok (v : Value) (l : List Str) (w : World) (h : SlR strC M0 w v l) (hz : ∀ s ∈ l, s.length ≤ 4000000) : Calls Tryd.prog 25 #[v] w fun e w' => e = .returned (.agg #[.int .i64 (foldersF l).1, .int .i64 (foldersF l).2]) ∧ Below w.heap.size w w' := by
  obtain ⟨A, c, rfl, _, _⟩ := h.form
  obtain ⟨hlc, hcm⟩ := h.lenM
  have kn := Blk.new w 24 #[.int .i64 0, .int .i64 0]
  have bn := (Below.refl w.heap.size w).alloc (Nat.le_refl _) (.cells #[.int .i64 0, .int .i64 0] 24)
  by_cases hl : 100 < l.length
  · have hg : foldersF l = (2, -1) := by rw [foldersF, if_pos hl]
    rw [hg]
    clear hg h
    go_enter Tryd.func25, Tryd.ntmps25
    go_wp2_with fail
    refine (fault_ok _ _ _).mono ?_
    rintro e w9 ⟨rfl, hb9⟩
    have k9 := kn.ext hb9
    obtain ⟨c0, c1, z0, z1, s1⟩ := k9.two
    obtain ⟨e0, e1⟩ := k9.put2 (.int .i64 2) (.int .i64 (-1))
    have hbw9 := bn.trans (hb9.mono bn.size)
    go_wp2
    refine bodyPost_ret (v := .agg #[.int .i64 2, .int .i64 (-1)]) (by simp [results, Tryd.results25, go_sem, e0, e1]) rfl ⟨?_, below_set2 hbw9 (Nat.le_refl _) _ _⟩
    rfl
  · obtain ⟨S, hS⟩ : ∃ S, scanF (foErr l) 0 l.length = S := ⟨_, rfl⟩
    have hg : foldersF l = if S.1 ≠ 0 then S else if inboxF ∈ l then (0, 0) else (6, -2) := by rw [foldersF, if_neg hl, hS]
    have Hg := Lib.hid hg; have HS := Lib.hid hS; have Hz := Lib.hid hz; have Hh := Lib.hid h
    clear hg hS hz h
    have hln : l.length ≤ 100 := by omega
    go_enter Tryd.func25, Tryd.ntmps25
    go_wp2
    go_loopw [11] (fun i wr => ∃ k : Nat, k ≤ l.length ∧ i = .int .i64 k ∧ Hid (∀ j, j < k → foErr l j = none) ∧ Blk wr w.heap.size 24 #[.int .i64 0, .int .i64 0] ∧ Below w.heap.size w wr) (fun i _ => l.length - (intOf i).toNat)
    case atStart => exact ⟨0, Nat.zero_le _, rfl, Lib.hid fun j h => absurd h (by omega), Blk.new _ _ _, (Below.refl _ _).alloc (Nat.le_refl _) _⟩
    case round =>
      obtain ⟨k, hk, rfl, hpre, kb, hb⟩ := hrel
      by_cases hlt : k < l.length
      · have hx1 := Hh.out.ext hb
        have hx1' := hx1
        obtain ⟨b, off, rfl, hbM, hbl, q0, hl1⟩ := hx1'.strAt hlt
        obtain ⟨s, hx⟩ : ∃ x, x = l[k] := ⟨_, rfl⟩
        rw [← hx] at q0
        have hsl : s.length ≤ 4000000 := by rw [hx]; exact Hz.out _ (List.getElem_mem hlt)
        have hmaxl : s.length ≤ maxLen := by unfold maxLen; omega
        obtain ⟨t1, ht1⟩ : ∃ t, pathF s = t := ⟨_, rfl⟩
        have herr : foErr l k = if !t1 then some 10 else if notAfter l k s then some 19 else if aboveF s ≠ [] ∧ aboveF s ∉ l.take k then some 6 else none := by
          rw [foErr, List.getElem?_eq_getElem hlt, ← hx]
          simp only [ht1]
        have hhit : ∀ c : Int, c ≠ 0 → foErr l k = some c → foldersF l = (c, (k : Int)) := fun c h0 hc => by
          have : S = (c, (k : Int)) := by rw [← HS.out, scan_hit hlt hpre.out hc]; simp
          rw [Hg.out, this, if_pos h0]
        have hpt := fun W => path_ok s hsl W
        rw [ht1] at hpt
        have Hpt := Lib.hid hpt; have Herr := Lib.hid herr; have Hhit := Lib.hid hhit; have Hx := Lib.hid hx
        clear hpt herr hhit hx ht1
        have hi1 : (k : Int) < (l.length : Int) := by omega
        go_wp2_with fail
        refine (Hpt.out _).mono ?_
        rintro e w1 ⟨rfl, hb1⟩
        have kb1 := kb.ext hb1
        have hb1w := hb.trans (hb1.mono hb.size)
        have hx2 := hx1.ext hb1
        clear kb hx1 q0
        cases t1 with
        | false =>
          go_wp2_with fail
          refine (fault_ok _ _ _).mono ?_
          rintro e w9 ⟨rfl, hb9⟩
          have k9 := kb1.ext hb9
          obtain ⟨c0, c1, z0, z1, s1⟩ := k9.two
          obtain ⟨e0, e1⟩ := k9.put2 (.int .i64 10) (.int .i64 k)
          have hbw9 := hb1w.trans (hb9.mono hb1w.size)
          go_wp2
          refine bodyPost_ret (v := .agg #[.int .i64 10, .int .i64 k]) (by simp [results, Tryd.results25, go_sem, e0, e1]) rfl ⟨?_, below_set2 hbw9 (Nat.le_refl _) _ _⟩
          exact ret_fault (Hhit.out 10 (by decide) (by rw [Herr.out]; rfl))
        | true =>
          by_cases hk0 : k = 0
          · have hna : notAfter l k s = false := by
              unfold notAfter
              cases l[k - 1]? with
              | none => rfl
              | some p => simp [hk0]
            have Hna := Lib.hid hna
            clear hna
            subst hk0
            have hxt := hx2.firsts (z := 0) hk
            have hnat : notAfter l 0 s = false := Hna.out
            by_cases ha0 : aboveF s = []
            · have herr2 : foErr l 0 = none := by rw [Herr.out, hnat, if_neg (by simp), if_neg (by simp), if_neg (fun h => h.1 ha0)]
              have hal := fun W => (above_ok s hmaxl W).mono fun e w' hh => (⟨hh.1, hh.2.symm⟩ : e = .returned (.string (bs (aboveF s))) ∧ w' = W)
              rw [ha0] at hal
              have Herr2 := Lib.hid herr2; have Hal := Lib.hid hal
              clear herr2 hal ha0 hnat hxt
              go_wp2
              go_quiet ((go_at_call 54; exact Calls.quiet_of_same (Hal.out _)))
              go_wp2
              go_roundw
              case rel => exact ⟨0 + 1, by omega, by first | go_num | rfl, Lib.hid fun j hj => by
                by_cases e : j = 0
                · subst e; exact Herr2.out
                · exact hpre.out j (by omega), kb1.drewN _, hb1w.trans (below_drewN' _ _ _)⟩
              case measure => simp [intOf]; omega
            · have hab : (aboveF s == ([] : List UInt8)) = false := by simpa using ha0
              have hal := fun W => (above_ok s hmaxl W).mono fun e w' hh => (⟨hh.1, hh.2.symm⟩ : e = .returned (.string (bs (aboveF s))) ∧ w' = W)
              obtain ⟨a, hae⟩ : ∃ a, aboveF s = a := ⟨_, rfl⟩
              rw [hae] at hal hab ha0
              have hct := fun n => (containsS_ok M0 _ (l.take 0) a (w1.drewN n) (hxt.drewN n)).mono fun e w' hh => (⟨by rw [hh.1, any_mem], hh.2.symm⟩ : e = .returned (.bool (decide (a ∈ l.take 0))) ∧ w' = w1.drewN n)
              obtain ⟨t3, ht3⟩ : ∃ t, decide (a ∈ l.take 0) = t := ⟨_, rfl⟩
              rw [ht3] at hct
              have herr2 : foErr l 0 = if t3 = false then some 6 else none := by
                rw [Herr.out, hnat, hae, if_neg (by simp), if_neg (by simp)]
                cases t3 with
                | true => rw [if_neg (fun h => h.2 (of_decide_eq_true ht3)), if_neg (by simp)]
                | false => rw [if_pos ⟨ha0, of_decide_eq_false ht3⟩, if_pos rfl]
              have Herr2 := Lib.hid herr2; have Hal := Lib.hid hal; have Hct := Lib.hid hct
              clear herr2 hal hct ha0 hnat hxt hae ht3
              go_wp2
              go_quiet ((first
                | (go_at_call 54; exact Calls.quiet_of_same (Hal.out _))
                | (go_at_call 55; exact Calls.quiet_of_same (Hct.out _))))
              cases t3 with
              | true =>
                go_wp2
                go_roundw
                case rel => exact ⟨0 + 1, by omega, by first | go_num | rfl, Lib.hid fun j hj => by
                  by_cases e : j = 0
                  · subst e; rw [Herr2.out]; rfl
                  · exact hpre.out j (by omega), kb1.drewN _, hb1w.trans (below_drewN' _ _ _)⟩
                case measure => simp [intOf]; omega
              | false =>
                have kb2 := kb1.drewN nq
                have hb2w := hb1w.trans (below_drewN' w.heap.size w1 nq)
                go_wp2_with fail
                refine (fault_ok _ _ _).mono ?_
                rintro e w9 ⟨rfl, hb9⟩
                have k9 := kb2.ext hb9
                obtain ⟨c0, c1, z0, z1, s1⟩ := k9.two
                obtain ⟨e0, e1⟩ := k9.put2 (.int .i64 6) (.int .i64 0)
                have hbw9 := hb2w.trans (hb9.mono hb2w.size)
                go_wp2
                refine bodyPost_ret (v := .agg #[.int .i64 6, .int .i64 0]) (by simp [results, Tryd.results25, go_sem, e0, e1]) rfl ⟨?_, below_set2 hbw9 (Nat.le_refl _) _ _⟩
                exact ret_fault (Hhit.out 6 (by decide) (by rw [Herr2.out]; rfl))
          · have hm1 : k - 1 < l.length := by omega
            have hx3 := hx2
            obtain ⟨b', off', hbe, _, _, q1, _⟩ := hx3.strAt hm1
            obtain ⟨pr, hpr⟩ : ∃ x, x = l[k - 1] := ⟨_, rfl⟩
            rw [← hpr] at q1
            injection hbe with hbe
            injection hbe with hbe1 hbe2
            subst hbe1 hbe2
            have hkpos : (0 : Int) < (k : Int) := by omega
            have hna0 : notAfter l k s = !ltS pr s := by
              unfold notAfter
              rw [List.getElem?_eq_getElem hm1, ← hpr]
              simp; omega
            have hle : (Op.bytesLess s pr || s == pr) = !ltS pr s := by
              rcases ltS_total s pr with h | h | h
              · have h2 := ltS_asymm h
                have h1 : Op.bytesLess s pr = true := h
                rw [h1, h2]; rfl
              · rw [h]; simp [ltS_irrefl]
              · have h1 : Op.bytesLess s pr = false := ltS_asymm h
                have h3 : (s == pr) = false := by simpa using (ltS_ne h).symm
                rw [h1, h3, h]; rfl
            rw [← hle] at hna0
            obtain ⟨t5, ht5⟩ : ∃ t, Op.bytesLess s pr = t := ⟨_, rfl⟩
            obtain ⟨t6, ht6⟩ : ∃ t, (s == pr) = t := ⟨_, rfl⟩
            rw [ht5, ht6] at hna0
            have Hna := Lib.hid hna0
            obtain ⟨m, rfl⟩ : ∃ m, k = m + 1 := ⟨k - 1, by omega⟩
            rw [Nat.add_sub_cancel] at q1
            clear hna0 hle hpr hk0 hkpos
            have hi2 : (m : Int) < (l.length : Int) := by omega
            cases t5 with
            | true =>
              go_wp2_with fail
              refine (fault_ok _ _ _).mono ?_
              rintro e w9 ⟨rfl, hb9⟩
              have k9 := kb1.ext hb9
              obtain ⟨c0, c1, z0, z1, s1⟩ := k9.two
              obtain ⟨e0, e1⟩ := k9.put2 (.int .i64 19) (.int .i64 ((m : Int) + 1))
              have hbw9 := hb1w.trans (hb9.mono hb1w.size)
              go_wp2
              refine bodyPost_ret (v := .agg #[.int .i64 19, .int .i64 ((m : Int) + 1)]) (by simp [results, Tryd.results25, go_sem, e0, e1]) rfl ⟨?_, below_set2 hbw9 (Nat.le_refl _) _ _⟩
              exact ret_fault (Hhit.out 19 (by decide) (by rw [Herr.out, Hna.out]; rfl))
            | false =>
              cases t6 with
              | true =>
                go_wp2_with fail
                refine (fault_ok _ _ _).mono ?_
                rintro e w9 ⟨rfl, hb9⟩
                have k9 := kb1.ext hb9
                obtain ⟨c0, c1, z0, z1, s1⟩ := k9.two
                obtain ⟨e0, e1⟩ := k9.put2 (.int .i64 19) (.int .i64 ((m : Int) + 1))
                have hbw9 := hb1w.trans (hb9.mono hb1w.size)
                go_wp2
                refine bodyPost_ret (v := .agg #[.int .i64 19, .int .i64 ((m : Int) + 1)]) (by simp [results, Tryd.results25, go_sem, e0, e1]) rfl ⟨?_, below_set2 hbw9 (Nat.le_refl _) _ _⟩
                exact ret_fault (Hhit.out 19 (by decide) (by rw [Herr.out, Hna.out]; rfl))
              | false =>
                have hxt := hx2.firsts (z := (m + 1)) hk
                have hnat : notAfter l (m + 1) s = false := Hna.out
                by_cases ha0 : aboveF s = []
                · have herr2 : foErr l (m + 1) = none := by rw [Herr.out, hnat, if_neg (by simp), if_neg (by simp), if_neg (fun h => h.1 ha0)]
                  have hal := fun W => (above_ok s hmaxl W).mono fun e w' hh => (⟨hh.1, hh.2.symm⟩ : e = .returned (.string (bs (aboveF s))) ∧ w' = W)
                  rw [ha0] at hal
                  have Herr2 := Lib.hid herr2; have Hal := Lib.hid hal
                  clear herr2 hal ha0 hnat hxt
                  go_wp2
                  go_quiet ((go_at_call 54; exact Calls.quiet_of_same (Hal.out _)))
                  go_wp2
                  go_roundw
                  case rel => exact ⟨(m + 1) + 1, by omega, by first | go_num | rfl, Lib.hid fun j hj => by
                    by_cases e : j = (m + 1)
                    · subst e; exact Herr2.out
                    · exact hpre.out j (by omega), kb1.drewN _, hb1w.trans (below_drewN' _ _ _)⟩
                  case measure => simp [intOf]; omega
                · have hab : (aboveF s == ([] : List UInt8)) = false := by simpa using ha0
                  have hal := fun W => (above_ok s hmaxl W).mono fun e w' hh => (⟨hh.1, hh.2.symm⟩ : e = .returned (.string (bs (aboveF s))) ∧ w' = W)
                  obtain ⟨a, hae⟩ : ∃ a, aboveF s = a := ⟨_, rfl⟩
                  rw [hae] at hal hab ha0
                  have hct := fun n => (containsS_ok M0 _ (l.take (m + 1)) a (w1.drewN n) (hxt.drewN n)).mono fun e w' hh => (⟨by rw [hh.1, any_mem], hh.2.symm⟩ : e = .returned (.bool (decide (a ∈ l.take (m + 1)))) ∧ w' = w1.drewN n)
                  obtain ⟨t3, ht3⟩ : ∃ t, decide (a ∈ l.take (m + 1)) = t := ⟨_, rfl⟩
                  rw [ht3] at hct
                  have herr2 : foErr l (m + 1) = if t3 = false then some 6 else none := by
                    rw [Herr.out, hnat, hae, if_neg (by simp), if_neg (by simp)]
                    cases t3 with
                    | true => rw [if_neg (fun h => h.2 (of_decide_eq_true ht3)), if_neg (by simp)]
                    | false => rw [if_pos ⟨ha0, of_decide_eq_false ht3⟩, if_pos rfl]
                  have Herr2 := Lib.hid herr2; have Hal := Lib.hid hal; have Hct := Lib.hid hct
                  clear herr2 hal hct ha0 hnat hxt hae ht3
                  go_wp2
                  go_quiet ((first
                    | (go_at_call 54; exact Calls.quiet_of_same (Hal.out _))
                    | (go_at_call 55; exact Calls.quiet_of_same (Hct.out _))))
                  cases t3 with
                  | true =>
                    go_wp2
                    go_roundw
                    case rel => exact ⟨(m + 1) + 1, by omega, by first | go_num | rfl, Lib.hid fun j hj => by
                      by_cases e : j = (m + 1)
                      · subst e; rw [Herr2.out]; rfl
                      · exact hpre.out j (by omega), kb1.drewN _, hb1w.trans (below_drewN' _ _ _)⟩
                    case measure => simp [intOf]; omega
                  | false =>
                    have kb2 := kb1.drewN nq
                    have hb2w := hb1w.trans (below_drewN' w.heap.size w1 nq)
                    go_wp2_with fail
                    refine (fault_ok _ _ _).mono ?_
                    rintro e w9 ⟨rfl, hb9⟩
                    have k9 := kb2.ext hb9
                    obtain ⟨c0, c1, z0, z1, s1⟩ := k9.two
                    obtain ⟨e0, e1⟩ := k9.put2 (.int .i64 6) (.int .i64 ((m : Int) + 1))
                    have hbw9 := hb2w.trans (hb9.mono hb2w.size)
                    go_wp2
                    refine bodyPost_ret (v := .agg #[.int .i64 6, .int .i64 ((m : Int) + 1)]) (by simp [results, Tryd.results25, go_sem, e0, e1]) rfl ⟨?_, below_set2 hbw9 (Nat.le_refl _) _ _⟩
                    exact ret_fault (Hhit.out 6 (by decide) (by rw [Herr2.out]; rfl))
      · have hnoneS : S = (0, 0) := by rw [← HS.out, scan_none fun j hj => hpre.out j (by omega)]
        have hg2 : foldersF l = if inboxF ∈ l then (0, 0) else (6, -2) := by rw [Hg.out, hnoneS, if_neg (by simp)]
        have hx1 := Hh.out.ext hb
        have hct := containsS_ok M0 _ l inboxF wr hx1
        rw [any_mem] at hct
        obtain ⟨t3, ht3⟩ : ∃ t, decide (inboxF ∈ l) = t := ⟨_, rfl⟩
        rw [ht3] at hct
        have Hg2 := Lib.hid hg2; have Ht3 := Lib.hid ht3
        clear hg2 hnoneS ht3
        go_wp2_with fail
        refine hct.mono ?_
        rintro e w1 ⟨rfl, rfl⟩
        cases t3 with
        | true =>
        go_wp2_with fail
        refine (none_ok _).mono ?_
        rintro e w9 ⟨rfl, hb9⟩
        have k9 := kb.ext hb9
        obtain ⟨c0, c1, z0, z1, s1⟩ := k9.two
        obtain ⟨e0, e1⟩ := k9.put2 (.int .i64 0) (.int .i64 0)
        have hbw9 := hb.trans (hb9.mono hb.size)
        go_wp2
        refine bodyPost_ret (v := .agg #[.int .i64 0, .int .i64 0]) (by simp [results, Tryd.results25, go_sem, e0, e1]) rfl ⟨?_, below_set2 hbw9 (Nat.le_refl _) _ _⟩
        exact ret_fault (by rw [Hg2.out, if_pos (by simpa using Ht3.out)])
        | false =>
        go_wp2_with fail
        refine (fault_ok _ _ _).mono ?_
        rintro e w9 ⟨rfl, hb9⟩
        have k9 := kb.ext hb9
        obtain ⟨c0, c1, z0, z1, s1⟩ := k9.two
        obtain ⟨e0, e1⟩ := k9.put2 (.int .i64 6) (.int .i64 (-2))
        have hbw9 := hb.trans (hb9.mono hb.size)
        go_wp2
        refine bodyPost_ret (v := .agg #[.int .i64 6, .int .i64 (-2)]) (by simp [results, Tryd.results25, go_sem, e0, e1]) rfl ⟨?_, below_set2 hbw9 (Nat.le_refl _) _ _⟩
        exact ret_fault (by rw [Hg2.out, if_neg (by simpa using Ht3.out)])
end Go.Proofs.YtinmpjhmbciapaaDoor

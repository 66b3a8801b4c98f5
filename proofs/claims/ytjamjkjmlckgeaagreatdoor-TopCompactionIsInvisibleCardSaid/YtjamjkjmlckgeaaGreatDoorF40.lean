/-
  The check of a change.
-/
import Derived.Test.YtjamjkjmlckgeaaGreatDoorF14
namespace Go.Proofs.YtjamjkjmlckgeaaGreatDoor
open Go.RowKit
set_option linter.unusedVariables false

theorem box3 (w : World) (cs : Array Value) (t : TypeId) (ds : Array Value) (t' : TypeId) (es : Array Value) (t'' : TypeId) : ∃ W g h i, ((w.alloc (.cells cs t)).alloc (.cells ds t')).alloc (.cells es t'') = W ∧ w.heap.size = g ∧ g + 1 = h ∧ h + 1 = i ∧ W.heap.size = i + 1 ∧ Blk W g t cs ∧ Blk W h t' ds ∧ Blk W i t'' es ∧ Below w.heap.size w W := by
  refine ⟨_, _, _, _, rfl, rfl, rfl, rfl, by simp, ((Blk.new w t cs).alloc _).alloc _, ?_, ?_, (((Below.refl _ _).alloc (Nat.le_refl _) _).alloc (by simp) _).alloc (by simp; omega) _⟩
  · have := (Blk.new (w.alloc (.cells cs t)) t' ds).alloc (.cells es t'')
    rw [World.size_alloc] at this
    exact this
  · have := Blk.new ((w.alloc (.cells cs t)).alloc (.cells ds t')) t'' es
    rw [World.size_alloc, World.size_alloc] at this
    exact this
theorem run_neq_flags (a b a' b' : Int) (w : World) : (binOp .neq 129 (.agg #[.int .i64 a, .int .i64 b]) (.agg #[.int .i64 a', .int .i64 b'])).run Tryz.prog w = .ok (.bool (!((a, b) == (a', b')))) w := by
  have h1 : ((a, b) == (a', b')) = ((a == a') && (b == b')) := rfl
  rw [h1]
  cases e1 : (a == a') <;> cases e2 : (b == b') <;> simp [go_sem, e1, e2]
def chgV (c : Mb.Chg) (f b : Value) : Value := .agg #[.int .i64 c.1, .int .i64 c.2.1, .int .i64 c.2.2.1, .int .i64 c.2.2.2.1, .int .i64 c.2.2.2.2.1, f, b]
theorem chgF_all (kd ud st cl tm : Int) (fl : List Mb.Fld) (bd : List UInt8) : Mb.chgF (kd, ud, st, cl, tm, fl, bd) = (
    if kd = 1 then (if (ud != 0 || cl != 0) = true then (5, -5) else if (!(decide (0 ≤ st) && decide (st ≤ 63)) || !(decide (0 ≤ cl) && decide (cl ≤ 63)) || !(decide (-68719476736 ≤ tm) && decide (tm ≤ 68719476736))) = true then (3, -5) else if (Mb.msgF (fl, bd)).1 ≠ 0 then ((Mb.msgF (fl, bd)).1, -6) else (0, 0))
    else if kd = 2 then (if (tm != 0 || decide ((0 : Int) < (fl.length : Int) + (bd.length : Int))) = true then (5, -5) else if (!(decide (0 ≤ st) && decide (st ≤ 63)) || !(decide (0 ≤ cl) && decide (cl ≤ 63)) || !(decide (-68719476736 ≤ tm) && decide (tm ≤ 68719476736))) = true then (3, -5) else (0, 0))
    else if kd = 3 then (if (tm != 0 || decide ((0 : Int) < (fl.length : Int) + (bd.length : Int)) || (st != 0 || cl != 0)) = true then (5, -5) else if (!(decide (0 ≤ st) && decide (st ≤ 63)) || !(decide (0 ≤ cl) && decide (cl ≤ 63)) || !(decide (-68719476736 ≤ tm) && decide (tm ≤ 68719476736))) = true then (3, -5) else (0, 0))
    else (4, -5)) := by
  have hc : decide ((0 : Int) < (fl.length : Int) + (bd.length : Int)) = decide (0 < fl.length + bd.length) := by
    rw [Bool.eq_iff_iff]
    simp only [decide_eq_true_eq]
    omega
  have hr : ((¬ (0 ≤ st ∧ st ≤ 63) ∨ ¬ (0 ≤ cl ∧ cl ≤ 63) ∨ ¬ (-68719476736 ≤ tm ∧ tm ≤ 68719476736)) ↔ (!(decide (0 ≤ st) && decide (st ≤ 63)) || !(decide (0 ≤ cl) && decide (cl ≤ 63)) || !(decide (-68719476736 ≤ tm) && decide (tm ≤ 68719476736))) = true) := by
    simp only [Bool.or_eq_true, Bool.not_eq_true', Bool.and_eq_false_iff, decide_eq_false_iff_not, Decidable.not_and_iff_or_not, or_assoc]
  rw [hc]
  unfold Mb.chgF
  dsimp only
  by_cases h1 : kd = 1
  · subst h1
    simp only [hr, if_true, true_or, not_true_eq_false, if_false, true_and]
  · by_cases h2 : kd = 2
    · subst h2
      simp only [hr, if_true, true_or, or_true, not_true_eq_false, if_false, h1, false_and]
    · by_cases h3 : kd = 3
      · subst h3
        simp only [hr, if_true, or_true, not_true_eq_false, if_false, h1, h2, false_and]
      · simp only [h1, h2, h3, or_self, not_false_eq_true, if_true, if_false]
set_option maxRecDepth 100000 in
set_option maxHeartbeats 8000000 in
theorem change_ok (c : Mb.Chg) (f b : Value) (w : World) (hf : SlR fldC M0 w f c.2.2.2.2.2.1) (hb : SlR byteC M0 w b c.2.2.2.2.2.2) (hfl : c.2.2.2.2.2.1.length ≤ 4398046511104) (hlen : c.2.2.2.2.2.2.length ≤ 140737488355328) :
    Calls Tryz.prog 30 #[chgV c f b] w fun e w' => e = .returned (.agg #[.int .i64 (Mb.chgF c).1, .int .i64 (Mb.chgF c).2]) ∧ Below w.heap.size w w' := by
  unfold chgV
  obtain ⟨kd, ud, st, cl, tm, fl, bd⟩ := c
  dsimp only at hf hb hfl hlen ⊢
  have hmv := fun W (h1 : SlR fldC M0 W f fl) (h2 : SlR byteC M0 W b bd) => mvalidate_ok f b (fl, bd) W h1 h2 hlen
  obtain ⟨Af, cf, rfl, hfc, hfm⟩ := hf.form
  obtain ⟨Ab, cb, rfl, hbc, hbm⟩ := hb.form
  have HE := chgF_all kd ud st cl tm fl bd
  obtain ⟨⟨v1, v2⟩, hv⟩ : ∃ v, v = Mb.chgF (kd, ud, st, cl, tm, fl, bd) := ⟨_, rfl⟩
  rw [← hv] at HE ⊢
  clear hv
  obtain ⟨m1, hm1⟩ : ∃ m, m = (Mb.msgF (fl, bd)).1 := ⟨_, rfl⟩
  obtain ⟨m2, hm2⟩ : ∃ m, m = (Mb.msgF (fl, bd)).2 := ⟨_, rfl⟩
  rw [← hm1] at hmv HE
  rw [← hm2] at hmv
  have Hmv := Lib.hid hmv
  clear hmv hm1 hm2
  obtain ⟨wa, g, g2, hwa, hg, hg2, hsza, ka, ka2, hba⟩ := box2 w #[.int .i64 kd, .int .i64 ud, .int .i64 st, .int .i64 cl, .int .i64 tm, .slice Af fl.length cf, .slice Ab bd.length cb] 47 #[.int .i64 0, .int .i64 0] 31
  obtain ⟨w0, g3, hw0, hg3, hsz0, k3, hbx⟩ := box1 wa #[.int .i64 st, .int .i64 cl] 129
  have k0 := ka.ext hbx; have k2 := ka2.ext hbx; have hb0 := below2 hba hbx; have x2 := ka.cell 2; have x3 := ka.cell 3; have xl := ka.lt
  have hgl : w.heap.size ≤ g2 := by omega
  have hf0 := hf.ext hb0; have hb0' := hb.ext hb0
  have hsum : ((fl.length : Int) + (bd.length : Int)) ≤ 9223372036854775807 := by omega
  obtain ⟨ct, hct⟩ : ∃ t, decide ((0 : Int) < (fl.length : Int) + (bd.length : Int)) = t := ⟨_, rfl⟩
  rw [hct] at HE
  obtain ⟨r1, e1⟩ : ∃ t, (decide (0 ≤ st) && decide (st ≤ 63)) = t := ⟨_, rfl⟩
  obtain ⟨r2, e2⟩ : ∃ t, (decide (0 ≤ cl) && decide (cl ≤ 63)) = t := ⟨_, rfl⟩
  obtain ⟨r3, e3⟩ : ∃ t, (decide (-68719476736 ≤ tm) && decide (tm ≤ 68719476736)) = t := ⟨_, rfl⟩
  rw [e1, e2, e3] at HE
  have E1 := Lib.hid e1; have E2 := Lib.hid e2; have E3 := Lib.hid e3
  have c0 := k0.cell 0; have c1 := k0.cell 1; have c2 := k0.cell 2; have c3 := k0.cell 3; have c4 := k0.cell 4; have c5 := k0.cell 5; have c6 := k0.cell 6
  obtain ⟨d0, d1, _, _, _⟩ := k3.two
  have hrun := fun (w : World) => run_neq_flags st cl 0 0 w
  clear hsz0 hsza e1 e2 e3 hf hb hfc hfm hbc hbm
  by_cases h1 : kd = 1
  · subst h1
    replace HE := HE.trans (if_pos rfl)
    clear hrun hct
    have zu : ∀ x : Int, x = 0 → (x != 0) = false := fun x h => by simpa using h
    by_cases hz : ud = 0
    · subst hz
      obtain ⟨zc, hcl⟩ : ∃ t, (cl != 0) = t := ⟨_, rfl⟩
      rw [hcl] at HE
      cases zc with
      | true =>
        have HE2 := Lib.hid (show (v1, v2) = (5, (-5)) from HE)
        obtain ⟨rfl, rfl⟩ : v1 = 5 ∧ v2 = (-5) := by have := HE2.out; injection this with a b; exact ⟨a, b⟩
        clear HE
        go_enter Tryz.func30, Tryz.ntmps30
        go_wp2_with (first | (go_at_call 27; refine (fault_ok _ _ _).mono ?_; rintro e w9 ⟨rfl, hb9⟩; have k9 := k2.ext hb9; obtain ⟨p0, p1, p2, p3, p4⟩ := k9.two; obtain ⟨e0, e1⟩ := k9.put2 (.int .i64 5) (.int .i64 (-5))))
        refine bodyPost_ret (v := .agg #[.int .i64 5, .int .i64 (-5)]) (by simp [results, Tryz.results30, go_sem, e0, e1]) rfl ⟨rfl, ?_⟩
        exact below_set2 (below2 hb0 hb9) hgl _ _
      | false =>
        cases r1 with
        | false =>
          have HE2 := Lib.hid (show (v1, v2) = (3, (-5)) from HE)
          obtain ⟨rfl, rfl⟩ : v1 = 3 ∧ v2 = (-5) := by have := HE2.out; injection this with a b; exact ⟨a, b⟩
          clear HE
          go_enter Tryz.func30, Tryz.ntmps30
          go_wp2_with (first | (go_at_call 40; refine (between_ok _ _ _ _).mono ?_; rintro e w3 ⟨rfl, rfl⟩; first | rw [E1.out] | rw [E2.out]) | (go_at_call 41; refine (timeM_ok _ _).mono ?_; rintro e w3 ⟨rfl, rfl⟩; rw [E3.out]) | (go_at_call 27; refine (fault_ok _ _ _).mono ?_; rintro e w9 ⟨rfl, hb9⟩; have k9 := k2.ext hb9; obtain ⟨p0, p1, p2, p3, p4⟩ := k9.two; obtain ⟨e0, e1⟩ := k9.put2 (.int .i64 3) (.int .i64 (-5))))
          refine bodyPost_ret (v := .agg #[.int .i64 3, .int .i64 (-5)]) (by simp [results, Tryz.results30, go_sem, e0, e1]) rfl ⟨rfl, ?_⟩
          exact below_set2 (below2 hb0 hb9) hgl _ _
        | true =>
          cases r2 with
          | false =>
            have HE2 := Lib.hid (show (v1, v2) = (3, (-5)) from HE)
            obtain ⟨rfl, rfl⟩ : v1 = 3 ∧ v2 = (-5) := by have := HE2.out; injection this with a b; exact ⟨a, b⟩
            clear HE
            go_enter Tryz.func30, Tryz.ntmps30
            go_wp2_with (first | (go_at_call 40; refine (between_ok _ _ _ _).mono ?_; rintro e w3 ⟨rfl, rfl⟩; first | rw [E1.out] | rw [E2.out]) | (go_at_call 41; refine (timeM_ok _ _).mono ?_; rintro e w3 ⟨rfl, rfl⟩; rw [E3.out]) | (go_at_call 27; refine (fault_ok _ _ _).mono ?_; rintro e w9 ⟨rfl, hb9⟩; have k9 := k2.ext hb9; obtain ⟨p0, p1, p2, p3, p4⟩ := k9.two; obtain ⟨e0, e1⟩ := k9.put2 (.int .i64 3) (.int .i64 (-5))))
            refine bodyPost_ret (v := .agg #[.int .i64 3, .int .i64 (-5)]) (by simp [results, Tryz.results30, go_sem, e0, e1]) rfl ⟨rfl, ?_⟩
            exact below_set2 (below2 hb0 hb9) hgl _ _
          | true =>
            cases r3 with
            | false =>
              have HE2 := Lib.hid (show (v1, v2) = (3, (-5)) from HE)
              obtain ⟨rfl, rfl⟩ : v1 = 3 ∧ v2 = (-5) := by have := HE2.out; injection this with a b; exact ⟨a, b⟩
              clear HE
              go_enter Tryz.func30, Tryz.ntmps30
              go_wp2_with (first | (go_at_call 40; refine (between_ok _ _ _ _).mono ?_; rintro e w3 ⟨rfl, rfl⟩; first | rw [E1.out] | rw [E2.out]) | (go_at_call 41; refine (timeM_ok _ _).mono ?_; rintro e w3 ⟨rfl, rfl⟩; rw [E3.out]) | (go_at_call 27; refine (fault_ok _ _ _).mono ?_; rintro e w9 ⟨rfl, hb9⟩; have k9 := k2.ext hb9; obtain ⟨p0, p1, p2, p3, p4⟩ := k9.two; obtain ⟨e0, e1⟩ := k9.put2 (.int .i64 3) (.int .i64 (-5))))
              refine bodyPost_ret (v := .agg #[.int .i64 3, .int .i64 (-5)]) (by simp [results, Tryz.results30, go_sem, e0, e1]) rfl ⟨rfl, ?_⟩
              exact below_set2 (below2 hb0 hb9) hgl _ _
            | true =>
              by_cases hm : m1 = 0
              · subst hm
                have z00 : ((0 : Int) != 0) = false := rfl
                have HE2 := Lib.hid (show (v1, v2) = (0, 0) from HE)
                obtain ⟨rfl, rfl⟩ : v1 = 0 ∧ v2 = 0 := by have := HE2.out; injection this with a b; exact ⟨a, b⟩
                clear HE
                go_enter Tryz.func30, Tryz.ntmps30
                go_wp2_with (first | (go_at_call 40; refine (between_ok _ _ _ _).mono ?_; rintro e w3 ⟨rfl, rfl⟩; first | rw [E1.out] | rw [E2.out]) | (go_at_call 41; refine (timeM_ok _ _).mono ?_; rintro e w3 ⟨rfl, rfl⟩; rw [E3.out]) | (go_at_call 42; refine (Hmv.out _ hf0 hb0').mono ?_; rintro e w1 ⟨rfl, hb1⟩) | (go_at_call 21; refine (failed_ok _ _ _).mono ?_; rintro e w2 ⟨rfl, hb2⟩; have hb2' := below2 hb1 (below_alloc hb2); have k5 := (Blk.new w1 31 #[.int .i64 0, .int .i64 m2]).ext hb2; have k6 := k2.ext hb2'; obtain ⟨a0, a1, a2, a3, a4⟩ := k5.two) | (go_at_call 24; refine (none_ok _).mono ?_; rintro e w9 ⟨rfl, hb9⟩; have k9 := k6.ext hb9; obtain ⟨p0, p1, p2, p3, p4⟩ := k9.two; obtain ⟨e0, e1⟩ := k9.put2 (.int .i64 0) (.int .i64 0)))
                refine bodyPost_ret (v := .agg #[.int .i64 0, .int .i64 0]) (by simp [results, Tryz.results30, go_sem, e0, e1]) rfl ⟨rfl, ?_⟩
                exact below_set2 (below2 (below2 hb0 hb2') hb9) hgl _ _
              · have hz : (m1 != 0) = true := by simpa using hm
                replace HE := HE.trans (if_pos hm)
                clear hm
                have HE2 := Lib.hid (show (v1, v2) = (m1, (-6)) from HE)
                obtain ⟨rfl, rfl⟩ : v1 = m1 ∧ v2 = (-6) := by have := HE2.out; injection this with a b; exact ⟨a, b⟩
                clear HE
                go_enter Tryz.func30, Tryz.ntmps30
                go_wp2_with (first | (go_at_call 40; refine (between_ok _ _ _ _).mono ?_; rintro e w3 ⟨rfl, rfl⟩; first | rw [E1.out] | rw [E2.out]) | (go_at_call 41; refine (timeM_ok _ _).mono ?_; rintro e w3 ⟨rfl, rfl⟩; rw [E3.out]) | (go_at_call 42; refine (Hmv.out _ hf0 hb0').mono ?_; rintro e w1 ⟨rfl, hb1⟩) | (go_at_call 21; refine (failed_ok _ _ _).mono ?_; rintro e w2 ⟨rfl, hb2⟩; have hb2' := below2 hb1 (below_alloc hb2); have k5 := (Blk.new w1 31 #[.int .i64 v1, .int .i64 m2]).ext hb2; have k6 := k2.ext hb2'; obtain ⟨a0, a1, a2, a3, a4⟩ := k5.two) | (go_at_call 27; refine (fault_ok _ _ _).mono ?_; rintro e w9 ⟨rfl, hb9⟩; have k9 := k6.ext hb9; obtain ⟨p0, p1, p2, p3, p4⟩ := k9.two; obtain ⟨e0, e1⟩ := k9.put2 (.int .i64 v1) (.int .i64 (-6))))
                refine bodyPost_ret (v := .agg #[.int .i64 v1, .int .i64 (-6)]) (by simp [results, Tryz.results30, go_sem, e0, e1]) rfl ⟨rfl, ?_⟩
                exact below_set2 (below2 (below2 hb0 hb2') hb9) hgl _ _
    · have hud : (ud != 0) = true := by simpa using hz
      rw [hud] at HE
      clear hz
      have HE2 := Lib.hid (show (v1, v2) = (5, (-5)) from HE)
      obtain ⟨rfl, rfl⟩ : v1 = 5 ∧ v2 = (-5) := by have := HE2.out; injection this with a b; exact ⟨a, b⟩
      clear HE
      go_enter Tryz.func30, Tryz.ntmps30
      go_wp2_with (first | (go_at_call 27; refine (fault_ok _ _ _).mono ?_; rintro e w9 ⟨rfl, hb9⟩; have k9 := k2.ext hb9; obtain ⟨p0, p1, p2, p3, p4⟩ := k9.two; obtain ⟨e0, e1⟩ := k9.put2 (.int .i64 5) (.int .i64 (-5))))
      refine bodyPost_ret (v := .agg #[.int .i64 5, .int .i64 (-5)]) (by simp [results, Tryz.results30, go_sem, e0, e1]) rfl ⟨rfl, ?_⟩
      exact below_set2 (below2 hb0 hb9) hgl _ _
  · replace HE := HE.trans (if_neg h1)
    have h1b : (kd == 1) = false := by simpa using h1
    clear h1
    by_cases h2 : kd = 2
    · subst h2
      replace HE := HE.trans (if_pos rfl)
      clear hrun
      by_cases hz : tm = 0
      · subst hz
        cases ct with
        | true =>
          have HE2 := Lib.hid (show (v1, v2) = (5, (-5)) from HE)
          obtain ⟨rfl, rfl⟩ : v1 = 5 ∧ v2 = (-5) := by have := HE2.out; injection this with a b; exact ⟨a, b⟩
          clear HE
          go_enter Tryz.func30, Tryz.ntmps30
          go_wp2_with (first | (go_at_call 27; refine (fault_ok _ _ _).mono ?_; rintro e w9 ⟨rfl, hb9⟩; have k9 := k2.ext hb9; obtain ⟨p0, p1, p2, p3, p4⟩ := k9.two; obtain ⟨e0, e1⟩ := k9.put2 (.int .i64 5) (.int .i64 (-5))))
          refine bodyPost_ret (v := .agg #[.int .i64 5, .int .i64 (-5)]) (by simp [results, Tryz.results30, go_sem, e0, e1]) rfl ⟨rfl, ?_⟩
          exact below_set2 (below2 hb0 hb9) hgl _ _
        | false =>
          cases r1 with
          | false =>
            have HE2 := Lib.hid (show (v1, v2) = (3, (-5)) from HE)
            obtain ⟨rfl, rfl⟩ : v1 = 3 ∧ v2 = (-5) := by have := HE2.out; injection this with a b; exact ⟨a, b⟩
            clear HE
            go_enter Tryz.func30, Tryz.ntmps30
            go_wp2_with (first | (go_at_call 40; refine (between_ok _ _ _ _).mono ?_; rintro e w3 ⟨rfl, rfl⟩; first | rw [E1.out] | rw [E2.out]) | (go_at_call 41; refine (timeM_ok _ _).mono ?_; rintro e w3 ⟨rfl, rfl⟩; rw [E3.out]) | (go_at_call 27; refine (fault_ok _ _ _).mono ?_; rintro e w9 ⟨rfl, hb9⟩; have k9 := k2.ext hb9; obtain ⟨p0, p1, p2, p3, p4⟩ := k9.two; obtain ⟨e0, e1⟩ := k9.put2 (.int .i64 3) (.int .i64 (-5))))
            refine bodyPost_ret (v := .agg #[.int .i64 3, .int .i64 (-5)]) (by simp [results, Tryz.results30, go_sem, e0, e1]) rfl ⟨rfl, ?_⟩
            exact below_set2 (below2 hb0 hb9) hgl _ _
          | true =>
            cases r2 with
            | false =>
              have HE2 := Lib.hid (show (v1, v2) = (3, (-5)) from HE)
              obtain ⟨rfl, rfl⟩ : v1 = 3 ∧ v2 = (-5) := by have := HE2.out; injection this with a b; exact ⟨a, b⟩
              clear HE
              go_enter Tryz.func30, Tryz.ntmps30
              go_wp2_with (first | (go_at_call 40; refine (between_ok _ _ _ _).mono ?_; rintro e w3 ⟨rfl, rfl⟩; first | rw [E1.out] | rw [E2.out]) | (go_at_call 41; refine (timeM_ok _ _).mono ?_; rintro e w3 ⟨rfl, rfl⟩; rw [E3.out]) | (go_at_call 27; refine (fault_ok _ _ _).mono ?_; rintro e w9 ⟨rfl, hb9⟩; have k9 := k2.ext hb9; obtain ⟨p0, p1, p2, p3, p4⟩ := k9.two; obtain ⟨e0, e1⟩ := k9.put2 (.int .i64 3) (.int .i64 (-5))))
              refine bodyPost_ret (v := .agg #[.int .i64 3, .int .i64 (-5)]) (by simp [results, Tryz.results30, go_sem, e0, e1]) rfl ⟨rfl, ?_⟩
              exact below_set2 (below2 hb0 hb9) hgl _ _
            | true =>
              cases r3 with
              | false =>
                have HE2 := Lib.hid (show (v1, v2) = (3, (-5)) from HE)
                obtain ⟨rfl, rfl⟩ : v1 = 3 ∧ v2 = (-5) := by have := HE2.out; injection this with a b; exact ⟨a, b⟩
                clear HE
                go_enter Tryz.func30, Tryz.ntmps30
                go_wp2_with (first | (go_at_call 40; refine (between_ok _ _ _ _).mono ?_; rintro e w3 ⟨rfl, rfl⟩; first | rw [E1.out] | rw [E2.out]) | (go_at_call 41; refine (timeM_ok _ _).mono ?_; rintro e w3 ⟨rfl, rfl⟩; rw [E3.out]) | (go_at_call 27; refine (fault_ok _ _ _).mono ?_; rintro e w9 ⟨rfl, hb9⟩; have k9 := k2.ext hb9; obtain ⟨p0, p1, p2, p3, p4⟩ := k9.two; obtain ⟨e0, e1⟩ := k9.put2 (.int .i64 3) (.int .i64 (-5))))
                refine bodyPost_ret (v := .agg #[.int .i64 3, .int .i64 (-5)]) (by simp [results, Tryz.results30, go_sem, e0, e1]) rfl ⟨rfl, ?_⟩
                exact below_set2 (below2 hb0 hb9) hgl _ _
              | true =>
                have HE2 := Lib.hid (show (v1, v2) = (0, 0) from HE)
                obtain ⟨rfl, rfl⟩ : v1 = 0 ∧ v2 = 0 := by have := HE2.out; injection this with a b; exact ⟨a, b⟩
                clear HE
                go_enter Tryz.func30, Tryz.ntmps30
                go_wp2_with (first | (go_at_call 40; refine (between_ok _ _ _ _).mono ?_; rintro e w3 ⟨rfl, rfl⟩; first | rw [E1.out] | rw [E2.out]) | (go_at_call 41; refine (timeM_ok _ _).mono ?_; rintro e w3 ⟨rfl, rfl⟩; rw [E3.out]) | (go_at_call 24; refine (none_ok _).mono ?_; rintro e w9 ⟨rfl, hb9⟩; have k9 := k2.ext hb9; obtain ⟨p0, p1, p2, p3, p4⟩ := k9.two; obtain ⟨e0, e1⟩ := k9.put2 (.int .i64 0) (.int .i64 0)))
                refine bodyPost_ret (v := .agg #[.int .i64 0, .int .i64 0]) (by simp [results, Tryz.results30, go_sem, e0, e1]) rfl ⟨rfl, ?_⟩
                exact below_set2 (below2 hb0 hb9) hgl _ _
      · have htm : (tm != 0) = true := by simpa using hz
        rw [htm] at HE
        clear hz
        have HE2 := Lib.hid (show (v1, v2) = (5, (-5)) from HE)
        obtain ⟨rfl, rfl⟩ : v1 = 5 ∧ v2 = (-5) := by have := HE2.out; injection this with a b; exact ⟨a, b⟩
        clear HE
        go_enter Tryz.func30, Tryz.ntmps30
        go_wp2_with (first | (go_at_call 27; refine (fault_ok _ _ _).mono ?_; rintro e w9 ⟨rfl, hb9⟩; have k9 := k2.ext hb9; obtain ⟨p0, p1, p2, p3, p4⟩ := k9.two; obtain ⟨e0, e1⟩ := k9.put2 (.int .i64 5) (.int .i64 (-5))))
        refine bodyPost_ret (v := .agg #[.int .i64 5, .int .i64 (-5)]) (by simp [results, Tryz.results30, go_sem, e0, e1]) rfl ⟨rfl, ?_⟩
        exact below_set2 (below2 hb0 hb9) hgl _ _
    · replace HE := HE.trans (if_neg h2)
      have h2b : (kd == 2) = false := by simpa using h2
      clear h2
      by_cases h3 : kd = 3
      · subst h3
        replace HE := HE.trans (if_pos rfl)
        by_cases hz : tm = 0
        · subst hz
          cases ct with
          | true =>
            have HE2 := Lib.hid (show (v1, v2) = (5, (-5)) from HE)
            obtain ⟨rfl, rfl⟩ : v1 = 5 ∧ v2 = (-5) := by have := HE2.out; injection this with a b; exact ⟨a, b⟩
            clear HE
            go_enter Tryz.func30, Tryz.ntmps30
            go_wp2_with (first | (go_at_call 27; refine (fault_ok _ _ _).mono ?_; rintro e w9 ⟨rfl, hb9⟩; have k9 := k2.ext hb9; obtain ⟨p0, p1, p2, p3, p4⟩ := k9.two; obtain ⟨e0, e1⟩ := k9.put2 (.int .i64 5) (.int .i64 (-5))))
            refine bodyPost_ret (v := .agg #[.int .i64 5, .int .i64 (-5)]) (by simp [results, Tryz.results30, go_sem, e0, e1]) rfl ⟨rfl, ?_⟩
            exact below_set2 (below2 hb0 hb9) hgl _ _
          | false =>
            obtain ⟨zf, hzf⟩ : ∃ t, (!((st, cl) == ((0 : Int), (0 : Int)))) = t := ⟨_, rfl⟩
            have hfz : (st != 0 || cl != 0) = zf := by rw [← hzf, show ((st, cl) == ((0 : Int), (0 : Int))) = ((st == 0) && (cl == 0)) from rfl]; cases h8 : (st == 0) <;> cases h9 : (cl == 0) <;> simp [bne, h8, h9]
            rw [hfz] at HE
            clear hfz
            cases zf with
            | true =>
              have HE2 := Lib.hid (show (v1, v2) = (5, (-5)) from HE)
              obtain ⟨rfl, rfl⟩ : v1 = 5 ∧ v2 = (-5) := by have := HE2.out; injection this with a b; exact ⟨a, b⟩
              clear HE
              go_enter Tryz.func30, Tryz.ntmps30
              go_wp2_with (first | (go_at_call 27; refine (fault_ok _ _ _).mono ?_; rintro e w9 ⟨rfl, hb9⟩; have k9 := k2.ext hb9; obtain ⟨p0, p1, p2, p3, p4⟩ := k9.two; obtain ⟨e0, e1⟩ := k9.put2 (.int .i64 5) (.int .i64 (-5))))
              refine bodyPost_ret (v := .agg #[.int .i64 5, .int .i64 (-5)]) (by simp [results, Tryz.results30, go_sem, e0, e1]) rfl ⟨rfl, ?_⟩
              exact below_set2 (below2 hb0 hb9) hgl _ _
            | false =>
              cases r1 with
              | false =>
                have HE2 := Lib.hid (show (v1, v2) = (3, (-5)) from HE)
                obtain ⟨rfl, rfl⟩ : v1 = 3 ∧ v2 = (-5) := by have := HE2.out; injection this with a b; exact ⟨a, b⟩
                clear HE
                go_enter Tryz.func30, Tryz.ntmps30
                go_wp2_with (first | (go_at_call 40; refine (between_ok _ _ _ _).mono ?_; rintro e w3 ⟨rfl, rfl⟩; first | rw [E1.out] | rw [E2.out]) | (go_at_call 41; refine (timeM_ok _ _).mono ?_; rintro e w3 ⟨rfl, rfl⟩; rw [E3.out]) | (go_at_call 27; refine (fault_ok _ _ _).mono ?_; rintro e w9 ⟨rfl, hb9⟩; have k9 := k2.ext hb9; obtain ⟨p0, p1, p2, p3, p4⟩ := k9.two; obtain ⟨e0, e1⟩ := k9.put2 (.int .i64 3) (.int .i64 (-5))))
                refine bodyPost_ret (v := .agg #[.int .i64 3, .int .i64 (-5)]) (by simp [results, Tryz.results30, go_sem, e0, e1]) rfl ⟨rfl, ?_⟩
                exact below_set2 (below2 hb0 hb9) hgl _ _
              | true =>
                cases r2 with
                | false =>
                  have HE2 := Lib.hid (show (v1, v2) = (3, (-5)) from HE)
                  obtain ⟨rfl, rfl⟩ : v1 = 3 ∧ v2 = (-5) := by have := HE2.out; injection this with a b; exact ⟨a, b⟩
                  clear HE
                  go_enter Tryz.func30, Tryz.ntmps30
                  go_wp2_with (first | (go_at_call 40; refine (between_ok _ _ _ _).mono ?_; rintro e w3 ⟨rfl, rfl⟩; first | rw [E1.out] | rw [E2.out]) | (go_at_call 41; refine (timeM_ok _ _).mono ?_; rintro e w3 ⟨rfl, rfl⟩; rw [E3.out]) | (go_at_call 27; refine (fault_ok _ _ _).mono ?_; rintro e w9 ⟨rfl, hb9⟩; have k9 := k2.ext hb9; obtain ⟨p0, p1, p2, p3, p4⟩ := k9.two; obtain ⟨e0, e1⟩ := k9.put2 (.int .i64 3) (.int .i64 (-5))))
                  refine bodyPost_ret (v := .agg #[.int .i64 3, .int .i64 (-5)]) (by simp [results, Tryz.results30, go_sem, e0, e1]) rfl ⟨rfl, ?_⟩
                  exact below_set2 (below2 hb0 hb9) hgl _ _
                | true =>
                  cases r3 with
                  | false =>
                    have HE2 := Lib.hid (show (v1, v2) = (3, (-5)) from HE)
                    obtain ⟨rfl, rfl⟩ : v1 = 3 ∧ v2 = (-5) := by have := HE2.out; injection this with a b; exact ⟨a, b⟩
                    clear HE
                    go_enter Tryz.func30, Tryz.ntmps30
                    go_wp2_with (first | (go_at_call 40; refine (between_ok _ _ _ _).mono ?_; rintro e w3 ⟨rfl, rfl⟩; first | rw [E1.out] | rw [E2.out]) | (go_at_call 41; refine (timeM_ok _ _).mono ?_; rintro e w3 ⟨rfl, rfl⟩; rw [E3.out]) | (go_at_call 27; refine (fault_ok _ _ _).mono ?_; rintro e w9 ⟨rfl, hb9⟩; have k9 := k2.ext hb9; obtain ⟨p0, p1, p2, p3, p4⟩ := k9.two; obtain ⟨e0, e1⟩ := k9.put2 (.int .i64 3) (.int .i64 (-5))))
                    refine bodyPost_ret (v := .agg #[.int .i64 3, .int .i64 (-5)]) (by simp [results, Tryz.results30, go_sem, e0, e1]) rfl ⟨rfl, ?_⟩
                    exact below_set2 (below2 hb0 hb9) hgl _ _
                  | true =>
                    have HE2 := Lib.hid (show (v1, v2) = (0, 0) from HE)
                    obtain ⟨rfl, rfl⟩ : v1 = 0 ∧ v2 = 0 := by have := HE2.out; injection this with a b; exact ⟨a, b⟩
                    clear HE
                    go_enter Tryz.func30, Tryz.ntmps30
                    go_wp2_with (first | (go_at_call 40; refine (between_ok _ _ _ _).mono ?_; rintro e w3 ⟨rfl, rfl⟩; first | rw [E1.out] | rw [E2.out]) | (go_at_call 41; refine (timeM_ok _ _).mono ?_; rintro e w3 ⟨rfl, rfl⟩; rw [E3.out]) | (go_at_call 24; refine (none_ok _).mono ?_; rintro e w9 ⟨rfl, hb9⟩; have k9 := k2.ext hb9; obtain ⟨p0, p1, p2, p3, p4⟩ := k9.two; obtain ⟨e0, e1⟩ := k9.put2 (.int .i64 0) (.int .i64 0)))
                    refine bodyPost_ret (v := .agg #[.int .i64 0, .int .i64 0]) (by simp [results, Tryz.results30, go_sem, e0, e1]) rfl ⟨rfl, ?_⟩
                    exact below_set2 (below2 hb0 hb9) hgl _ _
        · have htm : (tm != 0) = true := by simpa using hz
          rw [htm] at HE
          clear hz
          have HE2 := Lib.hid (show (v1, v2) = (5, (-5)) from HE)
          obtain ⟨rfl, rfl⟩ : v1 = 5 ∧ v2 = (-5) := by have := HE2.out; injection this with a b; exact ⟨a, b⟩
          clear HE
          go_enter Tryz.func30, Tryz.ntmps30
          go_wp2_with (first | (go_at_call 27; refine (fault_ok _ _ _).mono ?_; rintro e w9 ⟨rfl, hb9⟩; have k9 := k2.ext hb9; obtain ⟨p0, p1, p2, p3, p4⟩ := k9.two; obtain ⟨e0, e1⟩ := k9.put2 (.int .i64 5) (.int .i64 (-5))))
          refine bodyPost_ret (v := .agg #[.int .i64 5, .int .i64 (-5)]) (by simp [results, Tryz.results30, go_sem, e0, e1]) rfl ⟨rfl, ?_⟩
          exact below_set2 (below2 hb0 hb9) hgl _ _
      · replace HE := HE.trans (if_neg h3)
        have h3b : (kd == 3) = false := by simpa using h3
        clear h3
        have HE2 := Lib.hid (show (v1, v2) = (4, (-5)) from HE)
        obtain ⟨rfl, rfl⟩ : v1 = 4 ∧ v2 = (-5) := by have := HE2.out; injection this with a b; exact ⟨a, b⟩
        clear HE
        go_enter Tryz.func30, Tryz.ntmps30
        go_wp2_with (first | (go_at_call 27; refine (fault_ok _ _ _).mono ?_; rintro e w9 ⟨rfl, hb9⟩; have k9 := k2.ext hb9; obtain ⟨p0, p1, p2, p3, p4⟩ := k9.two; obtain ⟨e0, e1⟩ := k9.put2 (.int .i64 4) (.int .i64 (-5))))
        refine bodyPost_ret (v := .agg #[.int .i64 4, .int .i64 (-5)]) (by simp [results, Tryz.results30, go_sem, e0, e1]) rfl ⟨rfl, ?_⟩
        exact below_set2 (below2 hb0 hb9) hgl _ _
end Go.Proofs.YtjamjkjmlckgeaaGreatDoor

/-
  The check of a mailbox.
-/
import Derived.Test.YtjamjkjmlckgeaaGreatDoorF13
namespace Go.Proofs.YtjamjkjmlckgeaaGreatDoor
open Go.RowKit

theorem boxF_eq (b : Mb.Box) : Mb.boxF b = (if 200 < b.es.length then (2, -1) else if 400 < b.gs.length then (2, -2) else if (!(decide (1 ≤ b.nu) && decide (b.nu ≤ 1000000)) || !(decide (1 ≤ b.ns) && decide (b.ns ≤ 1000000)) || !(decide (0 ≤ b.hz) && decide (b.hz ≤ b.ns - 1))) = true then (3, -3)
    else if (Mb.errGo (Mb.entErr b) 0 b.es.length 0).1 ≠ 0 then Mb.errGo (Mb.entErr b) 0 b.es.length 0 else Mb.errGo (Mb.goneErr b) 1000 b.gs.length 0) := by
  unfold Mb.boxF
  simp only [Bool.or_eq_true, Bool.not_eq_true', Bool.and_eq_false_iff, decide_eq_false_iff_not, Decidable.not_and_iff_or_not, or_assoc]
theorem entErr_eq {b : Mb.Box} {i : Nat} (hi : i < b.es.length) : Mb.entErr b i = (if (!(decide (1 ≤ b.es[i].1) && decide (b.es[i].1 ≤ b.nu - 1)) || !(decide (1 ≤ b.es[i].2.1) && decide (b.es[i].2.1 ≤ b.ns - 1)) || !(decide (0 ≤ b.es[i].2.2.1) && decide (b.es[i].2.2.1 ≤ 63)) || !(decide (-68719476736 ≤ b.es[i].2.2.2.1) && decide (b.es[i].2.2.2.1 ≤ 68719476736))) = true then 3
    else if (decide (0 < i) && decide (b.es[i].1 ≤ (b.es.getD (i - 1) (0, 0, 0, 0, [], [])).1)) = true then 19 else (Mb.msgF b.es[i].2.2.2.2).1) := by
  unfold Mb.entErr
  rw [Mb.gD _ hi]
  dsimp only
  simp only [Bool.or_eq_true, Bool.not_eq_true', Bool.and_eq_true, decide_eq_true_eq, Bool.and_eq_false_iff, decide_eq_false_iff_not, Decidable.not_and_iff_or_not, or_assoc]
theorem errGo_at (p : Nat → Int) (off : Int) : ∀ (f k i : Nat), k ≤ i → i < k + f → p i ≠ 0 → (∀ j, k ≤ j → j < i → p j = 0) → Mb.errGo p off f k = (p i, off + (i : Int))
  | 0, k, i, h1, h2, _, _ => absurd h2 (by omega)
  | f + 1, k, i, h1, h2, h3, h4 => by
    unfold Mb.errGo
    by_cases h : k = i
    · subst h
      rw [if_pos h3]
    · rw [if_neg (fun hh => hh (h4 k (Nat.le_refl _) (by omega)))]
      exact errGo_at p off f (k + 1) i (by omega) (by omega) h3 fun j hj => h4 j (by omega)
theorem errGo_no (p : Nat → Int) (off : Int) : ∀ (f k : Nat), (∀ j, k ≤ j → j < k + f → p j = 0) → Mb.errGo p off f k = (0, 0)
  | 0, k, _ => rfl
  | f + 1, k, h => by
    unfold Mb.errGo
    rw [if_neg (fun hh => hh (h k (Nat.le_refl _) (by omega)))]
    exact errGo_no p off f (k + 1) fun j hj hj2 => h j (by omega) (by omega)
def errGo0 (b : Mb.Box) : Bool := (Mb.errGo (Mb.entErr b) 0 b.es.length 0).1 == 0
theorem errGo0_ok {b : Mb.Box} (h : ∀ j, j < b.es.length → Mb.entErr b j = 0) : errGo0 b = true := by
  unfold errGo0
  rw [errGo_no _ _ _ _ fun j _ hj => h j (by omega)]
  rfl
theorem errGo0_zero {b : Mb.Box} (h : errGo0 b = true) : (Mb.errGo (Mb.entErr b) 0 b.es.length 0).1 = 0 := by simpa [errGo0] using h
set_option maxRecDepth 100000 in
set_option maxHeartbeats 8000000 in
theorem validate_ok (b : Mb.Box) (es gs : Value) (w : World) (he : SlR entC M0 w es b.es) (hg : SlR gnC M0 w gs b.gs) (hsz : ∀ e ∈ b.es, e.2.2.2.2.2.length ≤ 140737488355328) :
    Calls Tryz.prog 18 #[boxV b es gs] w fun e w' => e = .returned (.agg #[.int .i64 (Mb.boxF b).1, .int .i64 (Mb.boxF b).2]) ∧ Below w.heap.size w w' := by
  have hfi := fun W k (hk : k < b.gs.length) (h1 : SlR entC M0 W es b.es) (h2 : SlR gnC M0 W gs b.gs) hnu hns hhz hgl => removed_ok b es gs k hk W h1 h2 hnu hns hhz hgl
  obtain ⟨Ae, ce, rfl, hec, hem⟩ := he.form
  obtain ⟨Ag, cg, rfl, hgc, hgm⟩ := hg.form
  unfold boxV at hfi ⊢
  obtain ⟨⟨v1, v2⟩, hv⟩ : ∃ v, v = Mb.boxF b := ⟨_, rfl⟩
  rw [← hv]
  have HE := hv.trans (boxF_eq b)
  clear hv
  obtain ⟨w0, g, g2, hw0, hg0, hg2, hsz0, k0, k2, hb0⟩ := box2 w #[.int .i64 b.nu, .int .i64 b.ns, .int .i64 b.hz, .slice Ae b.es.length ce, .slice Ag b.gs.length cg] 26 #[.int .i64 0, .int .i64 0] 31
  have hgl : w.heap.size ≤ g2 := by omega
  have hgl0 : g2 < w0.heap.size := k2.lt
  have he0 := he.ext hb0; have hg0' := hg.ext hb0
  have c0 := k0.cell 0; have c1 := k0.cell 1; have c2 := k0.cell 2; have c3 := k0.cell 3; have c4 := k0.cell 4
  have HB0 := Lib.hid hb0
  clear hsz0
  by_cases h1 : 200 < b.es.length
  · rw [if_pos h1] at HE
    have HE2 := Lib.hid HE; clear HE
    have h1i : (200 : Int) < (b.es.length : Int) := by omega
    obtain ⟨rfl, rfl⟩ : v1 = 2 ∧ v2 = -1 := by have := HE2.out; injection this with a b; exact ⟨a, b⟩
    go_enter Tryz.func18, Tryz.ntmps18
    go_wp2_with (go_at_call 27; refine (fault_ok _ _ _).mono ?_; rintro e w9 ⟨rfl, hb9⟩; have k9 := k2.ext hb9; obtain ⟨p0, p1, p2, p3, p4⟩ := k9.two; obtain ⟨e0, e1⟩ := k9.put2 (.int .i64 2) (.int .i64 (-1)))
    refine bodyPost_ret (v := .agg #[.int .i64 2, .int .i64 (-1)]) (by simp [results, Tryz.results18, go_sem, e0, e1]) rfl ⟨rfl, ?_⟩
    exact below_set2 (below2 hb0 hb9) hgl _ _
  rw [if_neg h1] at HE
  have h1i : ¬ (200 : Int) < (b.es.length : Int) := by omega
  by_cases h2 : 400 < b.gs.length
  · rw [if_pos h2] at HE
    have HE2 := Lib.hid HE; clear HE
    have h2i : (400 : Int) < (b.gs.length : Int) := by omega
    obtain ⟨rfl, rfl⟩ : v1 = 2 ∧ v2 = -2 := by have := HE2.out; injection this with a b; exact ⟨a, b⟩
    go_enter Tryz.func18, Tryz.ntmps18
    go_wp2_with (go_at_call 27; refine (fault_ok _ _ _).mono ?_; rintro e w9 ⟨rfl, hb9⟩; have k9 := k2.ext hb9; obtain ⟨p0, p1, p2, p3, p4⟩ := k9.two; obtain ⟨e0, e1⟩ := k9.put2 (.int .i64 2) (.int .i64 (-2)))
    refine bodyPost_ret (v := .agg #[.int .i64 2, .int .i64 (-2)]) (by simp [results, Tryz.results18, go_sem, e0, e1]) rfl ⟨rfl, ?_⟩
    exact below_set2 (below2 hb0 hb9) hgl _ _
  rw [if_neg h2] at HE
  have h2i : ¬ (400 : Int) < (b.gs.length : Int) := by omega
  obtain ⟨t1, e1⟩ : ∃ t, (decide (1 ≤ b.nu) && decide (b.nu ≤ 1000000)) = t := ⟨_, rfl⟩
  obtain ⟨t2, e2⟩ : ∃ t, (decide (1 ≤ b.ns) && decide (b.ns ≤ 1000000)) = t := ⟨_, rfl⟩
  obtain ⟨t3, e3⟩ : ∃ t, (decide (0 ≤ b.hz) && decide (b.hz ≤ b.ns - 1)) = t := ⟨_, rfl⟩
  rw [e1, e2, e3] at HE
  have E1 := Lib.hid e1; have E2 := Lib.hid e2; have E3 := Lib.hid e3
  have hnu : t1 = true → 1 ≤ b.nu ∧ b.nu ≤ 1000000 := fun h => by rw [← e1] at h; simpa using h
  have hns : t2 = true → 1 ≤ b.ns ∧ b.ns ≤ 1000000 := fun h => by rw [← e2] at h; simpa using h
  have hhz : t3 = true → 0 ≤ b.hz ∧ b.hz ≤ b.ns - 1 := fun h => by rw [← e3] at h; simpa using h
  clear e1 e2 e3
  cases t1 with
  | false =>
    clear hns
    have HE2 := Lib.hid (show (v1, v2) = (3, -3) from HE); clear HE hnu hhz
    obtain ⟨rfl, rfl⟩ : v1 = 3 ∧ v2 = -3 := by have := HE2.out; injection this with a b; exact ⟨a, b⟩
    go_enter Tryz.func18, Tryz.ntmps18
    go_wp2_with (first | (go_at_call 40; refine (between_ok _ _ _ _).mono ?_; rintro e w3 ⟨rfl, rfl⟩; first | rw [E1.out] | rw [E2.out] | rw [E3.out]) | (go_at_call 27; refine (fault_ok _ _ _).mono ?_; rintro e w9 ⟨rfl, hb9⟩; have k9 := k2.ext hb9; obtain ⟨p0, p1, p2, p3, p4⟩ := k9.two; obtain ⟨e0, e1⟩ := k9.put2 (.int .i64 3) (.int .i64 (-3))))
    refine bodyPost_ret (v := .agg #[.int .i64 3, .int .i64 (-3)]) (by simp [results, Tryz.results18, go_sem, e0, e1]) rfl ⟨rfl, ?_⟩
    exact below_set2 (below2 hb0 hb9) hgl _ _
  | true =>
    cases t2 with
    | false =>
      clear hns
      have HE2 := Lib.hid (show (v1, v2) = (3, -3) from HE); clear HE hnu hhz
      obtain ⟨rfl, rfl⟩ : v1 = 3 ∧ v2 = -3 := by have := HE2.out; injection this with a b; exact ⟨a, b⟩
      go_enter Tryz.func18, Tryz.ntmps18
      go_wp2_with (first | (go_at_call 40; refine (between_ok _ _ _ _).mono ?_; rintro e w3 ⟨rfl, rfl⟩; first | rw [E1.out] | rw [E2.out] | rw [E3.out]) | (go_at_call 27; refine (fault_ok _ _ _).mono ?_; rintro e w9 ⟨rfl, hb9⟩; have k9 := k2.ext hb9; obtain ⟨p0, p1, p2, p3, p4⟩ := k9.two; obtain ⟨e0, e1⟩ := k9.put2 (.int .i64 3) (.int .i64 (-3))))
      refine bodyPost_ret (v := .agg #[.int .i64 3, .int .i64 (-3)]) (by simp [results, Tryz.results18, go_sem, e0, e1]) rfl ⟨rfl, ?_⟩
      exact below_set2 (below2 hb0 hb9) hgl _ _
    | true =>
      replace hns := hns rfl
      cases t3 with
      | false =>
        have HE2 := Lib.hid (show (v1, v2) = (3, -3) from HE); clear HE hnu hhz
        obtain ⟨rfl, rfl⟩ : v1 = 3 ∧ v2 = -3 := by have := HE2.out; injection this with a b; exact ⟨a, b⟩
        go_enter Tryz.func18, Tryz.ntmps18
        go_wp2_with (first | (go_at_call 40; refine (between_ok _ _ _ _).mono ?_; rintro e w3 ⟨rfl, rfl⟩; first | rw [E1.out] | rw [E2.out] | rw [E3.out]) | (go_at_call 27; refine (fault_ok _ _ _).mono ?_; rintro e w9 ⟨rfl, hb9⟩; have k9 := k2.ext hb9; obtain ⟨p0, p1, p2, p3, p4⟩ := k9.two; obtain ⟨e0, e1⟩ := k9.put2 (.int .i64 3) (.int .i64 (-3))))
        refine bodyPost_ret (v := .agg #[.int .i64 3, .int .i64 (-3)]) (by simp [results, Tryz.results18, go_sem, e0, e1]) rfl ⟨rfl, ?_⟩
        exact below_set2 (below2 hb0 hb9) hgl _ _
      | true =>
        replace hnu := hnu rfl; replace hhz := hhz rfl
        rw [show (!true || !true || !true) = false from rfl, if_neg (by decide)] at HE
        have HE0 := Lib.hid HE; clear HE h1 h2
        go_enter Tryz.func18, Tryz.ntmps18
        go_wp2_with (go_at_call 40; refine (between_ok _ _ _ _).mono ?_; rintro e w3 ⟨rfl, rfl⟩; first | rw [E1.out] | rw [E2.out] | rw [E3.out])
        go_loopw [44] (fun i wr => ∃ k : Nat, k ≤ b.es.length ∧ i = .int .i64 (k : Int) ∧ Below w0.heap.size w0 wr ∧ Hid (∀ j, j < k → Mb.entErr b j = 0)) (fun i _ => b.es.length - (intOf i).toNat)
        case atStart => exact ⟨0, Nat.zero_le _, rfl, Below.refl _ _, Lib.hid fun j hj => absurd hj (by omega)⟩
        case round =>
          obtain ⟨k, hk, rfl, hb, hpre⟩ := hrel
          have hbw := hb0.trans (hb.mono hb0.size)
          have kr0 := k0.ext hb; have kr2 := k2.ext hb
          have c0 := kr0.cell 0; have c1 := kr0.cell 1; have c2 := kr0.cell 2; have c3 := kr0.cell 3; have c4 := kr0.cell 4
          by_cases hlt : k < b.es.length
          · obtain ⟨be, off, Af, cf, Ab, cb, rfl, _, hbe, q0, q1, q2, q3, q4, q5, qf, qb⟩ := (he0.ext hb).entAt hlt
            have HEE := entErr_eq hlt
            obtain ⟨⟨x1, x2, x3, x4, f, bd⟩, hx⟩ : ∃ x, x = b.es[k] := ⟨_, rfl⟩
            rw [← hx] at q0 q1 q2 q3 q4 q5 qf qb HEE
            have hml : bd.length ≤ 140737488355328 := by have := hsz _ (List.getElem_mem hlt); rw [← hx] at this; exact this
            dsimp only at q0 q1 q2 q3 q4 q5 qf qb HEE
            obtain ⟨pv, hpv⟩ : ∃ p, p = (b.es.getD (k - 1) (0, 0, 0, 0, [], [])).1 := ⟨_, rfl⟩
            rw [← hpv] at HEE
            obtain ⟨wa, ga, hwa, hga, hsza, ka, hba⟩ := box1 wr #[.int .i64 x1, .int .i64 x2, .int .i64 x3, .int .i64 x4, .slice Af f.length cf, .slice Ab bd.length cb] 65
            have hprev : 0 < k → ∃ j, k = j + 1 ∧ wa.cell? ⟨be, off + j * 6, none⟩ = some (.int .i64 pv) := fun h0 => by
              obtain ⟨j, rfl⟩ : ∃ j, k = j + 1 := ⟨k - 1, by omega⟩
              obtain ⟨b3, off3, Af3, cf3, Ab3, cb3, hA, _, _, y1, _⟩ := ((he0.ext hb).ext hba).entAt (show j < b.es.length by omega)
              cases hA
              rw [Nat.add_sub_cancel, Mb.gD _ (by omega)] at hpv
              rw [← hpv] at y1
              exact ⟨j, rfl, y1⟩
            have HP := Lib.hid hprev
            have hmv := fun W (h1 : SlR fldC M0 W (.slice Af f.length cf) f) (h2 : SlR byteC M0 W (.slice Ab bd.length cb) bd) => mvalidate_ok _ _ (f, bd) W h1 h2 hml
            obtain ⟨m1, hm1⟩ : ∃ m, m = (Mb.msgF (f, bd)).1 := ⟨_, rfl⟩
            obtain ⟨m2, hm2⟩ : ∃ m, m = (Mb.msgF (f, bd)).2 := ⟨_, rfl⟩
            rw [← hm1] at hmv HEE
            rw [← hm2] at hmv
            have Hmv := Lib.hid hmv
            obtain ⟨t1, e1⟩ : ∃ t, (decide (1 ≤ x1) && decide (x1 ≤ b.nu - 1)) = t := ⟨_, rfl⟩
            obtain ⟨t2, e2⟩ : ∃ t, (decide (1 ≤ x2) && decide (x2 ≤ b.ns - 1)) = t := ⟨_, rfl⟩
            obtain ⟨t3, e3⟩ : ∃ t, (decide (0 ≤ x3) && decide (x3 ≤ 63)) = t := ⟨_, rfl⟩
            obtain ⟨t4, e4⟩ : ∃ t, (decide (-68719476736 ≤ x4) && decide (x4 ≤ 68719476736)) = t := ⟨_, rfl⟩
            rw [e1, e2, e3, e4] at HEE
            clear E1 E2 E3
            have E1 := Lib.hid e1; have E2 := Lib.hid e2; have E3 := Lib.hid e3; have E4 := Lib.hid e4
            have hat : Mb.entErr b k ≠ 0 → (v1, v2) = (Mb.entErr b k, (k : Int)) := fun hne => by
              have h9 := errGo_at (Mb.entErr b) 0 b.es.length 0 k (by omega) (by omega) hne fun j _ hj => hpre.out j hj
              rw [HE0.out, h9, if_pos hne, Int.zero_add]
            have HAT := Lib.hid hat
            have a0 := ka.cell 0; have a1 := ka.cell 1; have a2 := ka.cell 2; have a3 := ka.cell 3; have a4 := ka.cell 4; have a5 := ka.cell 5
            have c0 := (kr0.ext hba).cell 0; have c1 := (kr0.ext hba).cell 1; have c2 := (kr0.ext hba).cell 2; have c3 := (kr0.ext hba).cell 3; have c4 := (kr0.ext hba).cell 4
            have hbwa := below2 hbw hba
            have k2a := kr2.ext hba
            have Hka := Lib.hid ka; have Hk0a := Lib.hid (kr0.ext hba)
            have qfa := qf.ext hba; have qba := qb.ext hba
            have hsp := Lib.hid hpre.out
            clear hmv hm1 hm2 e1 e2 e3 e4 hpv hprev hat hsza hml hx ka
            cases t1 with
            | false =>
              have HEE : Mb.entErr b k = 3 := HEE
              have HE2 := Lib.hid ((HAT.out (by rw [HEE]; decide)).trans (by rw [HEE] : (Mb.entErr b k, (k : Int)) = (3, (k : Int))))
              obtain ⟨rfl, rfl⟩ : v1 = 3 ∧ v2 = (k : Int) := by have := HE2.out; injection this with a b; exact ⟨a, b⟩
              clear HEE
              go_wp2_with (first | (go_at_call 40; refine (between_ok _ _ _ _).mono ?_; rintro e w3 ⟨rfl, rfl⟩; first | rw [E1.out] | rw [E2.out] | rw [E3.out]) | (go_at_call 41; refine (timeM_ok _ _).mono ?_; rintro e w3 ⟨rfl, rfl⟩; rw [E4.out]) | (go_at_call 27; refine (fault_ok _ _ _).mono ?_; rintro e w9 ⟨rfl, hb9⟩; have k9 := k2a.ext hb9; obtain ⟨p0, p1, p2, p3, p4⟩ := k9.two; obtain ⟨e0, e1⟩ := k9.put2 (.int .i64 3) (.int .i64 (k : Int))))
              refine bodyPost_ret (v := .agg #[.int .i64 3, .int .i64 (k : Int)]) (by simp [results, Tryz.results18, go_sem, e0, e1]) rfl ⟨rfl, ?_⟩
              exact below_set2 (below2 hbwa hb9) hgl _ _
            | true =>
              cases t2 with
              | false =>
                have HEE : Mb.entErr b k = 3 := HEE
                have HE2 := Lib.hid ((HAT.out (by rw [HEE]; decide)).trans (by rw [HEE] : (Mb.entErr b k, (k : Int)) = (3, (k : Int))))
                obtain ⟨rfl, rfl⟩ : v1 = 3 ∧ v2 = (k : Int) := by have := HE2.out; injection this with a b; exact ⟨a, b⟩
                clear HEE
                go_wp2_with (first | (go_at_call 40; refine (between_ok _ _ _ _).mono ?_; rintro e w3 ⟨rfl, rfl⟩; first | rw [E1.out] | rw [E2.out] | rw [E3.out]) | (go_at_call 41; refine (timeM_ok _ _).mono ?_; rintro e w3 ⟨rfl, rfl⟩; rw [E4.out]) | (go_at_call 27; refine (fault_ok _ _ _).mono ?_; rintro e w9 ⟨rfl, hb9⟩; have k9 := k2a.ext hb9; obtain ⟨p0, p1, p2, p3, p4⟩ := k9.two; obtain ⟨e0, e1⟩ := k9.put2 (.int .i64 3) (.int .i64 (k : Int))))
                refine bodyPost_ret (v := .agg #[.int .i64 3, .int .i64 (k : Int)]) (by simp [results, Tryz.results18, go_sem, e0, e1]) rfl ⟨rfl, ?_⟩
                exact below_set2 (below2 hbwa hb9) hgl _ _
              | true =>
                cases t3 with
                | false =>
                  have HEE : Mb.entErr b k = 3 := HEE
                  have HE2 := Lib.hid ((HAT.out (by rw [HEE]; decide)).trans (by rw [HEE] : (Mb.entErr b k, (k : Int)) = (3, (k : Int))))
                  obtain ⟨rfl, rfl⟩ : v1 = 3 ∧ v2 = (k : Int) := by have := HE2.out; injection this with a b; exact ⟨a, b⟩
                  clear HEE
                  go_wp2_with (first | (go_at_call 40; refine (between_ok _ _ _ _).mono ?_; rintro e w3 ⟨rfl, rfl⟩; first | rw [E1.out] | rw [E2.out] | rw [E3.out]) | (go_at_call 41; refine (timeM_ok _ _).mono ?_; rintro e w3 ⟨rfl, rfl⟩; rw [E4.out]) | (go_at_call 27; refine (fault_ok _ _ _).mono ?_; rintro e w9 ⟨rfl, hb9⟩; have k9 := k2a.ext hb9; obtain ⟨p0, p1, p2, p3, p4⟩ := k9.two; obtain ⟨e0, e1⟩ := k9.put2 (.int .i64 3) (.int .i64 (k : Int))))
                  refine bodyPost_ret (v := .agg #[.int .i64 3, .int .i64 (k : Int)]) (by simp [results, Tryz.results18, go_sem, e0, e1]) rfl ⟨rfl, ?_⟩
                  exact below_set2 (below2 hbwa hb9) hgl _ _
                | true =>
                  cases t4 with
                  | false =>
                    have HEE : Mb.entErr b k = 3 := HEE
                    have HE2 := Lib.hid ((HAT.out (by rw [HEE]; decide)).trans (by rw [HEE] : (Mb.entErr b k, (k : Int)) = (3, (k : Int))))
                    obtain ⟨rfl, rfl⟩ : v1 = 3 ∧ v2 = (k : Int) := by have := HE2.out; injection this with a b; exact ⟨a, b⟩
                    clear HEE
                    go_wp2_with (first | (go_at_call 40; refine (between_ok _ _ _ _).mono ?_; rintro e w3 ⟨rfl, rfl⟩; first | rw [E1.out] | rw [E2.out] | rw [E3.out]) | (go_at_call 41; refine (timeM_ok _ _).mono ?_; rintro e w3 ⟨rfl, rfl⟩; rw [E4.out]) | (go_at_call 27; refine (fault_ok _ _ _).mono ?_; rintro e w9 ⟨rfl, hb9⟩; have k9 := k2a.ext hb9; obtain ⟨p0, p1, p2, p3, p4⟩ := k9.two; obtain ⟨e0, e1⟩ := k9.put2 (.int .i64 3) (.int .i64 (k : Int))))
                    refine bodyPost_ret (v := .agg #[.int .i64 3, .int .i64 (k : Int)]) (by simp [results, Tryz.results18, go_sem, e0, e1]) rfl ⟨rfl, ?_⟩
                    exact below_set2 (below2 hbwa hb9) hgl _ _
                  | true =>
                    rw [show (!true || !true || !true || !true) = false from rfl, if_neg (by decide)] at HEE
                    by_cases h0 : 0 < k
                    · obtain ⟨j, rfl, y1⟩ := HP.out h0
                      have hd0 : decide ((0 : Int) < ((j + 1 : Nat) : Int)) = true := decide_eq_true (by omega)
                      have hsub : (((j + 1 : Nat) : Int) - 1) = (j : Int) := by omega
                      rw [show decide (0 < j + 1) = true from by simp, Bool.true_and] at HEE
                      clear HP h0
                      obtain ⟨t5, e5⟩ : ∃ t, decide (x1 ≤ pv) = t := ⟨_, rfl⟩
                      rw [e5] at HEE
                      cases t5 with
                      | true =>
                        have HEE : Mb.entErr b (j + 1) = 19 := HEE
                        have HE2 := Lib.hid ((HAT.out (by rw [HEE]; decide)).trans (by rw [HEE] : (Mb.entErr b (j + 1), ((j + 1 : Nat) : Int)) = (19, ((j + 1 : Nat) : Int))))
                        obtain ⟨rfl, rfl⟩ : v1 = 19 ∧ v2 = ((j + 1 : Nat) : Int) := by have := HE2.out; injection this with a b; exact ⟨a, b⟩
                        clear HEE
                        go_wp2_with (first | (go_at_call 40; refine (between_ok _ _ _ _).mono ?_; rintro e w3 ⟨rfl, rfl⟩; first | rw [E1.out] | rw [E2.out] | rw [E3.out]) | (go_at_call 41; refine (timeM_ok _ _).mono ?_; rintro e w3 ⟨rfl, rfl⟩; rw [E4.out]))
                        go_quiet (fail)
                        generalize hV : wa.drewN nq = V
                        have hbV : Below wa.heap.size wa V := by rw [← hV]; exact below_drewN' _ _ _
                        have hbwV := below2 hbwa hbV
                        have k2V := k2a.ext hbV
                        have a0 := (Hka.out.ext hbV).cell 0; have a1 := (Hka.out.ext hbV).cell 1; have a2 := (Hka.out.ext hbV).cell 2; have a3 := (Hka.out.ext hbV).cell 3; have a4 := (Hka.out.ext hbV).cell 4; have a5 := (Hka.out.ext hbV).cell 5
                        clear hV hwa
                        go_wp2_with (go_at_call 27; refine (fault_ok _ _ _).mono ?_; rintro e w9 ⟨rfl, hb9⟩; have k9 := k2V.ext hb9; obtain ⟨p0, p1, p2, p3, p4⟩ := k9.two; obtain ⟨e0, e1⟩ := k9.put2 (.int .i64 19) (.int .i64 ((j : Int) + 1)))
                        refine bodyPost_ret (v := .agg #[.int .i64 19, .int .i64 ((j : Int) + 1)]) (by simp [results, Tryz.results18, go_sem, e0, e1]) rfl ⟨by simp, ?_⟩
                        exact below_set2 (below2 hbwV hb9) hgl _ _
                      | false =>
                        rw [if_neg (by decide)] at HEE
                        have HEEh := Lib.hid HEE
                        clear HEE
                        go_wp2_with (first | (go_at_call 40; refine (between_ok _ _ _ _).mono ?_; rintro e w3 ⟨rfl, rfl⟩; first | rw [E1.out] | rw [E2.out] | rw [E3.out]) | (go_at_call 41; refine (timeM_ok _ _).mono ?_; rintro e w3 ⟨rfl, rfl⟩; rw [E4.out]))
                        go_quiet (fail)
                        generalize hV : wa.drewN nq = V
                        have hbV : Below wa.heap.size wa V := by rw [← hV]; exact below_drewN' _ _ _
                        have hbwV := below2 hbwa hbV
                        have k2V := k2a.ext hbV
                        have a0 := (Hka.out.ext hbV).cell 0; have a1 := (Hka.out.ext hbV).cell 1; have a2 := (Hka.out.ext hbV).cell 2; have a3 := (Hka.out.ext hbV).cell 3; have a4 := (Hka.out.ext hbV).cell 4; have a5 := (Hka.out.ext hbV).cell 5
                        clear hV hwa
                        have HEE := HEEh.out
                        go_wp2_with fail
                        refine (Hmv.out V (qfa.ext hbV) (qba.ext hbV)).mono ?_
                        rintro e w4 ⟨rfl, hb4⟩
                        obtain ⟨w5, g5, hw5, hg5, hsz5, k5, hb5⟩ := box1 w4 #[.int .i64 m1, .int .i64 m2] 31
                        have hbw5 := below2 hbwV (below2 hb4 hb5)
                        have k25 := (k2V.ext hb4).ext hb5
                        have hk5 := Lib.hid k5
                        obtain ⟨d0, d1, _, _, _⟩ := k5.two
                        clear hsz5 k5
                        by_cases hm : m1 = 0
                        · subst hm
                          have hz : ((0 : Int) != 0) = false := rfl
                          have H0 := Lib.hid HEE
                          go_wp2_with (go_at_call 21; refine (failed_ok _ _ _).mono ?_; rintro e w6 ⟨rfl, hb6⟩)
                          go_roundw
                          case rel => exact ⟨j + 1 + 1, by omega, by go_num, hb.trans ((below2 (below2 hba (below2 hbV (below2 hb4 hb5))) hb6).mono hb.size), Lib.hid fun i hj => by
                            by_cases e : i = j + 1
                            · subst e; exact H0.out
                            · exact hsp.out i (by omega)⟩
                          case measure => simp [intOf]; omega
                        · have hz : (m1 != 0) = true := by simpa using hm
                          have HE2 := Lib.hid ((HAT.out (by rw [HEE]; exact hm)).trans (by rw [HEE] : (Mb.entErr b (j + 1), ((j + 1 : Nat) : Int)) = (m1, ((j + 1 : Nat) : Int))))
                          obtain ⟨rfl, rfl⟩ : v1 = m1 ∧ v2 = ((j + 1 : Nat) : Int) := by have := HE2.out; injection this with a b; exact ⟨a, b⟩
                          clear HEE hm
                          go_wp2_with (first | (go_at_call 21; refine (failed_ok _ _ _).mono ?_; rintro e w6 ⟨rfl, hb6⟩; obtain ⟨d0, d1, _, _, _⟩ := (hk5.out.ext hb6).two; have k26 := k25.ext hb6) | (go_at_call 27; refine (fault_ok _ _ _).mono ?_; rintro e w9 ⟨rfl, hb9⟩; have k9 := k26.ext hb9; obtain ⟨p0, p1, p2, p3, p4⟩ := k9.two; obtain ⟨e0, e1⟩ := k9.put2 (.int .i64 v1) (.int .i64 ((j : Int) + 1))))
                          refine bodyPost_ret (v := .agg #[.int .i64 v1, .int .i64 ((j : Int) + 1)]) (by simp [results, Tryz.results18, go_sem, e0, e1]) rfl ⟨by simp, ?_⟩
                          exact below_set2 (below2 (below2 hbw5 hb6) hb9) hgl _ _
                    · have h0' : k = 0 := by omega
                      subst h0'
                      rw [Nat.zero_mul, Nat.add_zero] at q0 q1 q2 q3 q4 q5
                      rw [show decide (0 < 0) = false from rfl, Bool.false_and, if_neg (by decide)] at HEE
                      have HEEh := Lib.hid HEE
                      clear HP h0 HEE
                      go_wp2_with (first | (go_at_call 40; refine (between_ok _ _ _ _).mono ?_; rintro e w3 ⟨rfl, rfl⟩; first | rw [E1.out] | rw [E2.out] | rw [E3.out]) | (go_at_call 41; refine (timeM_ok _ _).mono ?_; rintro e w3 ⟨rfl, rfl⟩; rw [E4.out]))
                      go_quiet (fail)
                      generalize hV : wa.drewN nq = V
                      have hbV : Below wa.heap.size wa V := by rw [← hV]; exact below_drewN' _ _ _
                      have hbwV := below2 hbwa hbV
                      have k2V := k2a.ext hbV
                      have a0 := (Hka.out.ext hbV).cell 0; have a1 := (Hka.out.ext hbV).cell 1; have a2 := (Hka.out.ext hbV).cell 2; have a3 := (Hka.out.ext hbV).cell 3; have a4 := (Hka.out.ext hbV).cell 4; have a5 := (Hka.out.ext hbV).cell 5
                      clear hV hwa
                      have HEE := HEEh.out
                      go_wp2_with fail
                      refine (Hmv.out V (qfa.ext hbV) (qba.ext hbV)).mono ?_
                      rintro e w4 ⟨rfl, hb4⟩
                      obtain ⟨w5, g5, hw5, hg5, hsz5, k5, hb5⟩ := box1 w4 #[.int .i64 m1, .int .i64 m2] 31
                      have hbw5 := below2 hbwV (below2 hb4 hb5)
                      have k25 := (k2V.ext hb4).ext hb5
                      have hk5 := Lib.hid k5
                      obtain ⟨d0, d1, _, _, _⟩ := k5.two
                      clear hsz5 k5
                      by_cases hm : m1 = 0
                      · subst hm
                        have hz : ((0 : Int) != 0) = false := rfl
                        have H0 := Lib.hid HEE
                        go_wp2_with (go_at_call 21; refine (failed_ok _ _ _).mono ?_; rintro e w6 ⟨rfl, hb6⟩)
                        go_roundw
                        case rel => exact ⟨0 + 1, by omega, by go_num, hb.trans ((below2 (below2 hba (below2 hbV (below2 hb4 hb5))) hb6).mono hb.size), Lib.hid fun j hj => by
                          by_cases e : j = 0
                          · subst e; exact H0.out
                          · exact hsp.out j (by omega)⟩
                        case measure => simp [intOf]; omega
                      · have hz : (m1 != 0) = true := by simpa using hm
                        have HE2 := Lib.hid ((HAT.out (by rw [HEE]; exact hm)).trans (by rw [HEE] : (Mb.entErr b 0, ((0 : Nat) : Int)) = (m1, ((0 : Nat) : Int))))
                        obtain ⟨rfl, rfl⟩ : v1 = m1 ∧ v2 = ((0 : Nat) : Int) := by have := HE2.out; injection this with a b; exact ⟨a, b⟩
                        clear HEE hm
                        go_wp2_with (first | (go_at_call 21; refine (failed_ok _ _ _).mono ?_; rintro e w6 ⟨rfl, hb6⟩; obtain ⟨d0, d1, _, _, _⟩ := (hk5.out.ext hb6).two; have k26 := k25.ext hb6) | (go_at_call 27; refine (fault_ok _ _ _).mono ?_; rintro e w9 ⟨rfl, hb9⟩; have k9 := k26.ext hb9; obtain ⟨p0, p1, p2, p3, p4⟩ := k9.two; obtain ⟨e0, e1⟩ := k9.put2 (.int .i64 v1) (.int .i64 0)))
                        refine bodyPost_ret (v := .agg #[.int .i64 v1, .int .i64 0]) (by simp [results, Tryz.results18, go_sem, e0, e1]) rfl ⟨rfl, ?_⟩
                        exact below_set2 (below2 (below2 hbw5 hb6) hb9) hgl _ _
          · have hz : errGo0 b = true := errGo0_ok fun j hj => hpre.out j (by omega)
            have hE := HE0.out
            rw [errGo0_zero hz, if_neg (by decide)] at hE
            have HE1 := Lib.hid hE
            clear hz hE HE0
            obtain ⟨wo, rfl⟩ : ∃ W0, W0 = wr := ⟨_, rfl⟩
            have Hfi := Lib.hid hfi
            clear hfi E1 E2 E3
            go_wp2_with fail
            go_loopw [110] (fun i wr => ∃ k : Nat, k ≤ b.gs.length ∧ i = .int .i64 (k : Int) ∧ Below w0.heap.size w0 wr ∧ Hid (∀ j, j < k → Mb.goneErr b j = 0)) (fun i _ => b.gs.length - (intOf i).toNat)
            case atStart => exact ⟨0, Nat.zero_le _, rfl, hb, Lib.hid fun j hj => absurd hj (by omega)⟩
            case round =>
              obtain ⟨k2', hk2', rfl, hb2, hpre2⟩ := hrel
              have hbw := hb0.trans (hb2.mono hb0.size)
              have kr0 := k0.ext hb2; have kr2 := k2.ext hb2
              have c0 := kr0.cell 0; have c1 := kr0.cell 1; have c2 := kr0.cell 2; have c3 := kr0.cell 3; have c4 := kr0.cell 4
              by_cases hlt2 : k2' < b.gs.length
              · have hrm := Hfi.out wr k2' hlt2 (he0.ext hb2) (hg0'.ext hb2) hnu hns hhz (by omega)
                obtain ⟨ge, hge⟩ : ∃ x, x = Mb.goneErr b k2' := ⟨_, rfl⟩
                rw [← hge] at hrm
                have Hrm := Lib.hid hrm
                have hat : ge ≠ 0 → (v1, v2) = (ge, 1000 + (k2' : Int)) := fun hne => by
                  have h9 := errGo_at (Mb.goneErr b) 1000 b.gs.length 0 k2' (by omega) (by omega) (by rw [← hge]; exact hne) fun j _ hj => hpre2.out j hj
                  rw [HE1.out, h9, ← hge]
                have HAT := Lib.hid hat
                have Hge := Lib.hid hge
                clear hrm hat hge
                by_cases hz : ge = 0
                · subst hz
                  go_wp2_with (go_at_call 43; refine Hrm.out.mono ?_; rintro e w6 ⟨rfl, hb6⟩)
                  go_roundw
                  case rel => exact ⟨k2' + 1, by omega, by go_num, hb2.trans (hb6.mono hb2.size), Lib.hid fun j hj => by
                    by_cases e : j = k2'
                    · subst e; exact Hge.out.symm
                    · exact hpre2.out j (by omega)⟩
                  case measure => simp [intOf]; omega
                · obtain ⟨rfl, rfl⟩ : v1 = ge ∧ v2 = 1000 + (k2' : Int) := by have := HAT.out hz; injection this with a b; exact ⟨a, b⟩
                  have hz' : (v1 != 0) = true := by simpa using hz
                  clear hz
                  go_wp2_with (first | (go_at_call 43; refine Hrm.out.mono ?_; rintro e w6 ⟨rfl, hb6⟩; have k26 := kr2.ext hb6) | (go_at_call 27; refine (fault_ok _ _ _).mono ?_; rintro e w9 ⟨rfl, hb9⟩; have k9 := k26.ext hb9; obtain ⟨p0, p1, p2, p3, p4⟩ := k9.two; obtain ⟨e0, e1⟩ := k9.put2 (.int .i64 v1) (.int .i64 (1000 + (k2' : Int)))))
                  refine bodyPost_ret (v := .agg #[.int .i64 v1, .int .i64 (1000 + (k2' : Int))]) (by simp [results, Tryz.results18, go_sem, e0, e1]) rfl ⟨rfl, ?_⟩
                  exact below_set2 (below2 (below2 hbw hb6) hb9) hgl _ _
              · have hE := HE1.out
                rw [errGo_no (Mb.goneErr b) 1000 b.gs.length 0 fun j _ hj => hpre2.out j (by omega)] at hE
                obtain ⟨rfl, rfl⟩ : v1 = 0 ∧ v2 = 0 := by injection hE with a b; exact ⟨a, b⟩
                clear hE
                go_wp2_with (go_at_call 24; refine (none_ok _).mono ?_; rintro e w9 ⟨rfl, hb9⟩; have k9 := kr2.ext hb9; obtain ⟨p0, p1, p2, p3, p4⟩ := k9.two; obtain ⟨e0, e1⟩ := k9.put2 (.int .i64 0) (.int .i64 0))
                refine bodyPost_ret (v := .agg #[.int .i64 0, .int .i64 0]) (by simp [results, Tryz.results18, go_sem, e0, e1]) rfl ⟨rfl, ?_⟩
                exact below_set2 (below2 hbw hb9) hgl _ _
end Go.Proofs.YtjamjkjmlckgeaaGreatDoor

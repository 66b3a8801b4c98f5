/-
  RankMatchesSpec: the law's walk.
-/
import Derived.Test.YtnlhocbaighedaaGreatDoorRkH
import Derived.Test.YtnlhocbaighedaaGreatDoorRkLa
import Derived.Test.YtnlhocbaighedaaGreatDoorSrSf
import Derived.Test.YtnlhocbaighedaaGreatDoorR24
import Derived.Test.YtnlhocbaighedaaGreatDoorR23
import Derived.Test.YtnlhocbaighedaaGreatDoorR15
import Derived.Test.YtnlhocbaighedaaGreatDoorR1
import Derived.Test.YtnlhocbaighedaaGreatDoorNeF
namespace Go.Proofs.YtnlhocbaighedaaGreatDoor
open Go.RowKit
set_option linter.unusedVariables false
theorem run_eql_fault (a b a' b' : Int) (w : World) : (binOp .eql 30 (.agg #[.int .i64 a, .int .i64 b]) (.agg #[.int .i64 a', .int .i64 b'])).run Tryz.prog w = .ok (.bool ((a, b) == (a', b'))) w := by
 have h1 : ((a, b) == (a', b')) = ((a == a') && (b == b')) := rfl
 rw [h1]
 cases e1 : (a == a') <;> cases e2 : (b == b') <;> simp [go_sem, e1, e2]
theorem pre8' {q : Q} (h : (Q.fault q).1 = 0) {n : Nat} (hn : 9 ≤ n) : ∀ p ∈ Q.pre n q, Q.errOf p = 0 := by
 first | exact pre8 h hn | exact pre8 h (by omega)
set_option maxRecDepth 100000 in
set_option maxHeartbeats 8000000 in
theorem rmatch_ok (a b qv : Value) (ids : List Int) (ts : List Ix.Term) (f : Nat) (q : Q) (id : Int) (w : World) (h0 : SlR intC M0 w a ids) (h1 : SlR termC M0 w b ts) (hq0 : QAt f M0 w qv q) (hsz : SzIx ts) (hbk : q.bulk ≤ 1048576) (hK : Sr.costT ts ≤ 4000000000000) (hvl : ∀ t ∈ ts, t.1.length ≤ 1048576) (hil : ids.length ≤ 1048576) (hT : TabsU w) :
  Calls Tryz.prog 3 #[.agg #[a, b], qv, .int .i64 id] w fun e w' => e = .returned (.bool true) ∧ Below w.heap.size w w' := by
 have hq := hq0.mono (g := max f 8) (Nat.le_max_left _ _)
 have hf8 : 8 ≤ max f 8 := Nat.le_max_right _ _
 generalize max f 8 = f at hq hf8
 clear hq0
 obtain ⟨A0, c0, rfl, _, _⟩ := h0.form
 obtain ⟨A1, c1, rfl, _, _⟩ := h1.form
 have hqv := hq
 have hfit := hq.fits
 obtain ⟨Aq, cq, rfl, _, _, _, _⟩ := hq
 obtain ⟨ql, hql⟩ : ∃ n, q.parts.length = n := ⟨_, rfl⟩
 rw [hql] at hqv ⊢
 have hpar := @findR_parts (ids, ts) q
 obtain ⟨xs, hxs⟩ : ∃ l, Rk.stemsQ f q = l := ⟨_, rfl⟩
 have hxl : xs.length ≤ 1048576 ∧ ∀ s ∈ xs, s.length ≤ 1048576 := by
  have := Rk.stemsQ_len f q
  rw [hxs] at this
  exact ⟨by omega, fun s hs => by have := this.2 s hs; omega⟩
 obtain ⟨W0, g, hW, hg, hs, kx, kq, hal⟩ := boxPair w #[.slice A0 ids.length c0, .slice A1 ts.length c1] 25 #[.int .i64 q.kind, .string (bs q.text), .int .i64 q.num, .slice Aq ql cq] 28
 replace h0 := h0.ext hal
 replace h1 := h1.ext hal
 replace hqv := hqv.ext hal
 replace hT := hT.ext hal
 have hcan : (Sr.findR (ids, ts) q).2.1 = 0 → Ix.Canon (ids, ts) := fun h => (hpar h).1
 have hit : ∀ (W V : World) (cs : Array Value), Below W0.heap.size W0 W → Below W.heap.size W V → (Value.agg #[.int .i64 q.kind, .string (bs q.text), .int .i64 q.num, .slice Aq ql cq]) = .agg cs → StemsIt cs xs V := fun W V cs hb hb' e => by
  have := stemsIt_any cs f q (by omega) V (by rw [← e]; exact (hqv.ext hb).ext hb')
  rwa [hxs] at this
 have hscr := fun W (hb : Below W0.heap.size W0 W) => rankScore_ok (.slice A0 ids.length c0) (.slice A1 ts.length c1) _ (ids, ts) q f xs id W (h0.ext hb) (h1.ext hb) (hqv.ext hb) hcan hsz (by omega) (hT.ext hb) (fun V cs hb' e => hit W V cs hb hb' e) (fun s hs => by have := hxl.2 s hs; unfold maxLen; omega) (by omega)
 have hsorts : SortsL (Rk.ordF (ids, ts) (Rk.countF xs)) (Sr.findR (ids, ts) q).1 := sortsAny _ _ (fun i j => Rk.ord_key (ids, ts) (Rk.countF xs) i j) _ (Rk.findR_few (ids, ts) q)
 have hord := fun W (hb : Below W0.heap.size W0 W) => rankOrder_ok (.slice A0 ids.length c0) (.slice A1 ts.length c1) _ (ids, ts) q f xs W (h0.ext hb) (h1.ext hb) (hqv.ext hb) hcan hsz (by omega) (hT.ext hb) (fun V cs hb' e => hit W V cs hb hb' e) (fun s hs => by have := hxl.2 s hs; unfold maxLen; omega) (by omega) hsorts
 have hsf := fun W (hb : Below W0.heap.size W0 W) => searchFault_ok (.slice A0 ids.length c0) (.slice A1 ts.length c1) _ ids ts f q W (h0.ext hb) (h1.ext hb) (hqv.ext hb) hsz hbk (hT.ext hb)
 obtain ⟨⟨Lf, fi, fj⟩, hR⟩ : ∃ r, Sr.findR (ids, ts) q = r := ⟨_, rfl⟩
 have hz := Rk.findR_zero (ids, ts) q
 have hso : Rk.orderR (ids, ts) q xs = if fi ≠ 0 then ([], fi, fj) else (Rk.sinkF (Rk.ordF (ids, ts) (Rk.countF xs)) Lf, 0, 0) := by unfold Rk.orderR; rw [hR]
 have hss : Rk.scoreR (ids, ts) q xs id = if fi ≠ 0 then (0, fi, fj) else if ids.contains id then (Rk.scoreF (ids, ts) (Rk.countF xs) id, 0, 0) else (0, 6, -3) := by unfold Rk.scoreR; rw [hR]
 rw [hR] at hpar hz
 dsimp only at hpar hz
 simp only [hR] at hsf
 obtain ⟨⟨Lo, oi, oj⟩, hO⟩ : ∃ r, Rk.orderR (ids, ts) q xs = r := ⟨_, rfl⟩
 obtain ⟨⟨sn, sa, sb⟩, hS⟩ : ∃ r, Rk.scoreR (ids, ts) q xs id = r := ⟨_, rfl⟩
 simp only [hO] at hord
 simp only [hS] at hscr
 rw [hO] at hso
 rw [hS] at hss
 have hoo : oi = fi ∧ oj = fj := by
  by_cases h : fi = 0
  ·rw [if_neg (by simpa using h)] at hso
   have h2 := hz h
   simp only [Prod.mk.injEq] at hso
   exact ⟨by rw [hso.2.1, h], by rw [hso.2.2, h2]⟩
  ·rw [if_pos h] at hso
   simp only [Prod.mk.injEq] at hso
   exact hso.2
 obtain ⟨rfl, rfl⟩ := hoo
 have hne : ∀ V : World, (binOp .neq 30 (.agg #[.int .i64 oi, .int .i64 oj]) (.agg #[.int .i64 oi, .int .i64 oj])).run Tryz.prog V = .ok (.bool false) V := fun V => by rw [run_neq_fault, beq_self_eq_true]; rfl
 have hex := fun W (hb : Below W0.heap.size W0 W) => rankExample_ok W (hT.ext hb)
 obtain ⟨x0, x1, _⟩ := kx.two
 obtain ⟨p0, p1, p2, p3, _⟩ := kq.four
 rw [← hW] at x0 x1 p0 p1 p2 p3
 have HW := Lib.hid hW; have Hscr := Lib.hid (hscr W0 (Below.refl _ _)); have Hord := Lib.hid hord; have Hsf := Lib.hid hsf; have Hne := Lib.hid hne; have Hex := Lib.hid hex; have Hso := Lib.hid hso; have Hss := Lib.hid hss
 have Hk := Lib.hid (And.intro kx (And.intro kq (And.intro hal (And.intro h0 (And.intro h1 hqv)))))
 have Hpar := Lib.hid hpar; have Hfit := Lib.hid hfit; have Hvl := Lib.hid hvl; have Hxs := Lib.hid hxs; have HK := Lib.hid hK; have Hz := Lib.hid hz
 clear hW hs hscr hord hsf hne hex hso hss kx kq hal h0 h1 hqv hpar hfit hvl hxs hR hO hS hql hT hit hsorts hcan hxl hK hz hsz
 go_enter Tryz.func3, Tryz.ntmps3
 go_wp2_with fail
 rw [HW.out]
 clear x0 x1 p0 p1 p2 p3
 refine Hscr.out.mono ?_
 clear Hscr
 rintro e w1 ⟨rfl, hb1⟩
 obtain ⟨W1, g1, hW1, hg1, hs1, k1, hal1⟩ := boxA w1 #[.int .i64 sa, .int .i64 sb] 30
 have hb01 := hb1.trans (hal1.mono hb1.size)
 obtain ⟨x0, x1, _⟩ := (Hk.out.1.ext hb01).two
 obtain ⟨p0, p1, p2, p3, _⟩ := (Hk.out.2.1.ext hb01).four
 rw [← hW1] at x0 x1 p0 p1 p2 p3
 have HW1 := Lib.hid hW1; have Hb01 := Lib.hid hb01; have Hk1 := Lib.hid k1
 have Hord1 := Lib.hid (Hord.out W1 hb01)
 clear hW1 hs1 hb01 k1 hal1 hb1 Hord
 go_wp2_with fail
 rw [HW1.out]
 clear x0 x1 p0 p1 p2 p3
 refine Hord1.out.mono ?_
 clear Hord1
 rintro e w2 ⟨lv, rfl, hlv, hb2⟩
 obtain ⟨Al, cl, rfl, _, _⟩ := hlv.form
 obtain ⟨W2, g2, hW2, hg2, hs2, k2, hal2⟩ := boxA w2 #[.int .i64 oi, .int .i64 oj] 30
 have hb12 := hb2.trans (hal2.mono hb2.size)
 have hb02 := Hb01.out.trans (hb12.mono Hb01.out.size)
 obtain ⟨x0, x1, _⟩ := (Hk.out.1.ext hb02).two
 obtain ⟨p0, p1, p2, p3, _⟩ := (Hk.out.2.1.ext hb02).four
 rw [← hW2] at x0 x1 p0 p1 p2 p3
 have HW2 := Lib.hid hW2; have Hb02 := Lib.hid hb02; have Hk2 := Lib.hid (And.intro (Hk1.out.ext hb12) (And.intro k2 (hlv.ext hal2)))
 have Hsf2 := Lib.hid (Hsf.out W2 hb02)
 clear hW2 hs2 hb12 hb02 k2 hal2 hb2 hlv Hsf Hk1
 go_wp2_with fail
 rw [HW2.out]
 clear x0 x1 p0 p1 p2 p3
 refine Hsf2.out.mono ?_
 clear Hsf2
 rintro e w3 ⟨rfl, hb3⟩
 obtain ⟨W3, g3, hW3, hg3, hs3, k3, hal3⟩ := boxA w3 #[.int .i64 oi, .int .i64 oj] 30
 have hb23 := hb3.trans (hal3.mono hb3.size)
 have hb03 := Hb02.out.trans (hb23.mono Hb02.out.size)
 have HW3 := Lib.hid hW3; have Hb03 := Lib.hid hb03; have Hk3 := Lib.hid (And.intro (Hk2.out.1.ext hb23) (And.intro (Hk2.out.2.1.ext hb23) (And.intro k3 (Hk2.out.2.2.ext hb23))))
 have Hex3 := Lib.hid (Hex.out W3 hb03)
 clear hW3 hs3 hb23 hb03 k3 hal3 hb3 Hex Hk2
 go_wp2_with fail
 rw [HW3.out]
 refine Hex3.out.mono ?_
 clear Hex3
 rintro e w4 ⟨rfl, hb4⟩
 obtain ⟨s0, s1, s2, s3, _⟩ := (Hk3.out.1.ext hb4).two
 obtain ⟨u0, u1, _⟩ := (Hk3.out.2.1.ext hb4).two
 obtain ⟨v0, v1, _⟩ := (Hk3.out.2.2.1.ext hb4).two
 have hlv4 := Hk3.out.2.2.2.ext hb4
 have hb04 := Hb03.out.trans (hb4.mono Hb03.out.size)
 obtain ⟨x0, x1, _⟩ := (Hk.out.1.ext hb04).two
 have hne := Hne.out
 have Hk4 := Lib.hid (Hk3.out.1.ext hb4); have Hlv := Lib.hid hlv4; have Hb04 := Lib.hid hb04
 have Hend : Hid (∀ W, Below w4.heap.size w4 W → Below w.heap.size w W) := Lib.hid fun W h => Hk.out.2.2.1.trans ((hb04.trans (h.mono hb04.size)).mono Hk.out.2.2.1.size)
 clear hb4 hlv4 hb04 Hk3
 by_cases hf : oi = 0
 ·subst hf
  obtain rfl : oj = 0 := Hz.out rfl
  obtain ⟨hcan, hqf, hLf⟩ := Hpar.out rfl
  have hso := Hso.out
  rw [if_neg (by simp)] at hso
  simp only [Prod.mk.injEq] at hso
  have hss := Hss.out
  rw [if_neg (by simp)] at hss
  have HLo := Lib.hid hso.1; have Hss2 := Lib.hid hss; have Hcan := Lib.hid hcan; have Hqf := Lib.hid hqf; have HLf := Lib.hid hLf
  clear hso hss hcan hqf hLf Hso Hss Hpar Hz Hne
  go_wp2_with fail
  go_loopw [12, 13] (fun kv iv wr => ∃ (i : Nat) (kk : Int), i ≤ ids.length ∧ iv = .int .i64 (i : Int) ∧ kv = .int .i64 kk ∧ Hid ((kk = -1 ∧ ∀ (j : Nat) (h : j < ids.length), j < i → ids[j] ≠ id) ∨ ∃ (k : Nat) (h : k < ids.length), kk = (k : Int) ∧ ids[k] = id) ∧ wr = w4) (fun _ iv _ => ids.length - (intOf iv).toNat)
  case atStart => exact ⟨0, -1, Nat.zero_le _, rfl, rfl, Lib.hid (.inl ⟨rfl, fun j _ h => absurd h (Nat.not_lt_zero _)⟩), rfl⟩
  case round =>
   obtain ⟨i, kk, hi, rfl, rfl, Hkk, rfl⟩ := hrel
   have hi0 : (0 : Int) ≤ (i : Int) := by omega
   by_cases hlt : i < ids.length
   ·have hii : (i : Int) < (ids.length : Int) := by omega
    obtain ⟨bi, oi', rfl, _, hbi, c0', _, _⟩ := (Hk.out.2.2.2.1.ext Hb04.out).intAt hlt
    obtain ⟨y, hy⟩ : ∃ y, ids[i] = y := ⟨_, rfl⟩
    rw [hy] at c0'
    by_cases hyi : y = id
    ·subst hyi
     have hyb : (y == y) = true := by simp
     have Hy := Lib.hid hy
     clear hy
     go_wp2_with fail
     go_roundw
     case rel => exact ⟨i + 1, (i : Int), by omega, by go_num, rfl, Lib.hid (.inr ⟨i, hlt, rfl, Hy.out⟩), by first | trivial | rfl⟩
     case measure => simp [intOf]; omega
    ·have hyb : (y == id) = false := by simpa using hyi
     have Hy := Lib.hid (And.intro hy hyi)
     clear hy hyi
     go_wp2_with fail
     go_roundw
     case rel => exact ⟨i + 1, kk, by omega, by go_num, rfl, Lib.hid (Hkk.out.imp (fun h => ⟨h.1, fun j hj hjk => by
      by_cases e : j = i
      ·subst e; rw [Hy.out.1]; exact Hy.out.2
      ·exact h.2 j hj (by omega)⟩) fun h => h), by first | trivial | rfl⟩
     case measure => simp [intOf]; omega
   ·have hii : ¬ (i : Int) < (ids.length : Int) := by omega
    have hil2 : i = ids.length := by omega
    rcases Hkk.out with ⟨rfl, hno⟩ | ⟨k, hk, rfl, hid⟩
    ·have hno2 : ids.contains id = false := by
      rw [Bool.eq_false_iff]
      intro h
      obtain ⟨j, hj, e⟩ := List.mem_iff_getElem.1 (List.contains_iff_mem.1 h)
      exact hno j hj (by omega) e
     have hss := Hss2.out
     rw [hno2] at hss
     simp only [Bool.false_eq_true, if_false, Prod.mk.injEq] at hss
     obtain ⟨rfl, rfl, rfl⟩ := hss
     have Hk5 := Lib.hid (show ∀ W, Below wr.heap.size wr W → W.cell? ⟨g1, 0, none⟩ = some (.int .i64 6) ∧ W.cell? ⟨g1, 1, none⟩ = some (.int .i64 (-3)) from fun W hW => ⟨(Hk4.out.ext hW).two.1, (Hk4.out.ext hW).two.2.1⟩)
     have hS := Hk5.out _ (below_drewN' wr.heap.size wr 1)
     have heq : ∀ V : World, (binOp .eql 30 (.agg #[.int .i64 6, .int .i64 (-3)]) (.agg #[.int .i64 6, .int .i64 (-3)])).run Tryz.prog V = .ok (.bool true) V := fun V => by rw [run_eql_fault, beq_self_eq_true]
     clear hno hno2 hil2
     go_wp2_with fail
     clear x0 x1 s0 s1 s2 s3 u0 u1 v0 v1
     refine wp_region_D (fun W => W.cell? ⟨g1, 0, none⟩ = some (.int .i64 6) ∧ W.cell? ⟨g1, 1, none⟩ = some (.int .i64 (-3))) (fun _ => false) (by kernel_rfl) ?_
     change anyD _ _ _ _ _ _ _ _ _ (wr.drewN 1)
     have hbV := below_drewN' wr.heap.size wr 1
     generalize wr.drewN 1 = V0 at hS hbV ⊢
     have HBV := Lib.hid hbV
     (refine anyD_l5 (i := 0) (v := ?_) rfl (by kernel_rfl) (fun _ _ _ h => h) (.inl ⟨by kernel_rfl, fun W9 hW9 => ?_⟩) hS ?_; rotate_left; · (obtain ⟨hw0, hw1⟩ := hW9; go_simp; rfl))
     go_simp
     refine anyD_one (i := 1) (by kernel_rfl) rfl rfl (fun K hK => ?_)
     have HK := Lib.hid hK
     clear hK
     unfold Oper.wp
     go_simp
     refine (at_ok _ _ V0).mono ?_
     rintro e w5 ⟨rfl, hb5⟩
     have hb05 := HBV.out.trans (hb5.mono HBV.out.size)
     have hS := Hk5.out _ hb05
     refine HK.out _ _ (fun _ => hS) ?_
     clear HK
     (refine anyD_l5 (i := 2) (v := ?_) rfl (by kernel_rfl) (fun _ _ _ h => h) (.inl ⟨by kernel_rfl, fun W9 hW9 => ?_⟩) hS ?_; rotate_left; · (obtain ⟨hw0, hw1⟩ := hW9; go_simp; rfl))
     (refine anyD_l5 (i := 3) (v := ?_) rfl (by kernel_rfl) (fun _ _ _ h => h) (.inl ⟨by kernel_rfl, fun W9 hW9 => ?_⟩) hS ?_; rotate_left; · (obtain ⟨hw0, hw1⟩ := hW9; go_simp; rfl))
     (refine anyD_l5 (i := 4) (v := ?_) rfl (by kernel_rfl) (fun _ _ _ h => h) (.inl ⟨by kernel_rfl, fun W9 hW9 => ?_⟩) hS ?_; rotate_left; · (obtain ⟨hw0, hw1⟩ := hW9; go_simp; rfl))
     (refine anyD_l5 (i := 5) (v := ?_) rfl (by kernel_rfl) (fun _ _ _ h => h) (.inl ⟨by kernel_rfl, fun W9 hW9 => ?_⟩) hS ?_; rotate_left; · (obtain ⟨hw0, hw1⟩ := hW9; go_simp; rfl))
     (refine anyD_l5 (i := 6) (v := ?_) rfl (by kernel_rfl) (fun _ _ _ h => h) (.inl ⟨by kernel_rfl, fun W9 hW9 => ?_⟩) hS ?_; rotate_left; · (obtain ⟨hw0, hw1⟩ := hW9; go_simp; rfl))
     (refine anyD_l5 (i := 7) (v := ?_) rfl (by kernel_rfl) (fun _ _ _ h => h) (.inl ⟨by kernel_rfl, fun W9 hW9 => ?_⟩) hS ?_; rotate_left; · (obtain ⟨hw0, hw1⟩ := hW9; go_simp; rfl))
     go_simp
     go_simp
     refine anyD_done (by kernel_rfl) ?_ _
     have Hbe := Lib.hid (Hend.out _ hb05)
     clear hS hb05 hb5 hbV
     go_wp2_with fail
     go_ret
     exact ⟨rfl, Hbe.out⟩
    ·have hin : ids.contains id = true := List.contains_iff_mem.2 (by rw [← hid]; exact List.getElem_mem hk)
     have hss := Hss2.out
     rw [hin] at hss
     simp only [if_true, Prod.mk.injEq] at hss
     obtain ⟨hsn, rfl, rfl⟩ := hss
     have hkk : ¬ (k : Int) < 0 := by omega
     have hpl := plain_ok (.slice A0 ids.length c0) (.slice A1 ts.length c1) ids ts wr (Hk.out.2.2.2.2.1.ext Hb04.out) Hvl.out
     have hpe := fun hp => @Sr.matches_eq (ids, ts) Hcan.out hp
     have hsr := fun hp => @Rk.score_ref (ids, ts) Hcan.out hp (Rk.cntR f q []) (by
      rw [Rk.cnt_stems f q (pre8' Hqf.out (by omega))]
      intro s hs
      rw [Rk.uniqs_mem] at hs
      rcases hs with hs | hs
      ·cases hs
      ·exact Rk.stems_ne (pre8' Hqf.out (by omega)) s hs)
     obtain ⟨pl, hpl2⟩ : ∃ p, Sr.plainF (ids, ts) = p := ⟨_, rfl⟩
     rw [hpl2] at hpl
     simp only [hpl2] at hpe hsr
     have Hpl := Lib.hid hpl; have Hpe := Lib.hid hpe; have Hsr := Lib.hid hsr; have Hsn := Lib.hid hsn; have Hid2 := Lib.hid hid
     clear hpl hpe hpl2 hsr hsn hid hin
     go_wp2_with fail
     refine Hpl.out.mono ?_
     clear Hpl
     rintro e w5 ⟨rfl, hb5⟩
     cases pl with
     | false =>
      go_wp2_with fail
      go_ret
      exact ⟨rfl, Hend.out _ hb5⟩
     | true =>
      have hb05 := Hb04.out.trans (hb5.mono Hb04.out.size)
      have hpost : ∀ t ∈ ts, ∀ p ∈ t.2, ∀ n ∈ p.2, 0 ≤ n := fun t ht p hp n hn => ((Hcan.out.post t ht).2.2 p hp).2.2.2 n hn |>.1
      have hfew : ids.length ≤ 300 := Hcan.out.few
      have hsc : ∀ (i : Nat) (h : i < ids.length), Rk.scoreRef (ids.map (Sr.docF (ids, ts))) (Rk.cntR f q []) i = Rk.scoreF (ids, ts) (Rk.countF xs) ids[i] := fun i h => by
       rw [Hsr.out rfl h]
       refine Rk.score_perm (ids, ts) ?_ _
       rw [Rk.cnt_stems f q (pre8' Hqf.out (by omega)), Hxs.out]
       exact Rk.count_perm xs
      have hrs := refScore_ok (.slice A0 ids.length c0) (.slice A1 ts.length c1) _ ids ts f q (k : Int) w5 (Hk.out.2.2.2.1.ext hb05) (Hk.out.2.2.2.2.1.ext hb05) hpost hfew HK.out Hvl.out (Hk.out.2.2.2.2.2.ext hb05) hbk (by omega) (by omega)
      rw [Int.toNat_natCast, hsc k hk, Hid2.out, ← Hsn.out] at hrs
      have hro := fun W (hb : Below w5.heap.size w5 W) => refOrdered_ok (.slice A0 ids.length c0) (.slice A1 ts.length c1) _ ids ts f q (Rk.scoreF (ids, ts) (Rk.countF xs)) W (Hk.out.2.2.2.1.ext (hb05.trans (hb.mono hb05.size))) (Hk.out.2.2.2.2.1.ext (hb05.trans (hb.mono hb05.size))) hpost hfew HK.out Hvl.out (Hk.out.2.2.2.2.2.ext (hb05.trans (hb.mono hb05.size))) hbk (pre8' Hqf.out (by omega)) hsc
      have hsame : ids.filter (fun id => Sr.matchesF (f + 1) q (Sr.docF (ids, ts) id)) = Lf := by
       rw [HLf.out]
       exact List.filter_congr fun id _ => by
        rw [Hpe.out rfl id (f + 1) q Hfit.out (pre8' Hqf.out (by omega)), Sr.finds_up Hqf.out (by omega)]
      rw [hsame, ← Rk.order_ref, ← HLo.out] at hro
      obtain ⟨x0, x1, _⟩ := (Hk.out.1.ext hb05).two
      obtain ⟨p0, p1, p2, p3, _⟩ := (Hk.out.2.1.ext hb05).four
      have hnn : (sn == sn) = true := by simp
      have Hrs := Lib.hid hrs; have Hro := Lib.hid hro; have Hb05 := Lib.hid hb05; have Hb5 := Lib.hid hb5
      clear hrs hro hsame hb05 hb5 hsc hpost hfew s0 s1 s2 s3 u0 u1 v0 v1
      go_wp2_with fail
      clear x0 x1 p0 p1 p2 p3
      refine Hrs.out.mono ?_
      clear Hrs
      rintro e w6 ⟨rfl, hb6⟩
      have hb06 := Hb05.out.trans (hb6.mono Hb05.out.size)
      obtain ⟨x0, x1, _⟩ := (Hk.out.1.ext hb06).two
      obtain ⟨p0, p1, p2, p3, _⟩ := (Hk.out.2.1.ext hb06).four
      have Hro6 := Lib.hid (Hro.out w6 hb6); have Hb6 := Lib.hid (Hb5.out.trans (hb6.mono Hb5.out.size))
      clear hb06 hb6 Hro Hb5
      go_wp2_with fail
      clear x0 x1 p0 p1 p2 p3
      refine Hro6.out.mono ?_
      clear Hro6
      rintro e w7 ⟨A5, c5, L5, rfl, hL5, own5, hb7⟩
      have hb47 := Hb6.out.trans (hb7.mono Hb6.out.size)
      have hint := ints_ok _ _ Lo L5 w7 (Hlv.out.ext hb47) own5.read0
      rw [show (Lo == L5) = true from by rw [hL5.out]; exact beq_self_eq_true _] at hint
      have Hint := Lib.hid hint; have Hb47 := Lib.hid hb47
      clear hint hb47 hb7 own5 hL5
      go_wp2_with fail
      refine Hint.out.mono ?_
      rintro e w8 ⟨rfl, hb8⟩
      go_wp2_with fail
      go_ret
      exact ⟨rfl, Hend.out _ (Hb47.out.trans (hb8.mono Hb47.out.size))⟩
 ·have hfn : (oi != 0) = true := by simpa using hf
  have hso := Hso.out
  rw [if_pos hf] at hso
  have hss := Hss.out
  rw [if_pos hf] at hss
  simp only [Prod.mk.injEq] at hso hss
  obtain ⟨rfl, _⟩ := hso
  obtain ⟨rfl, rfl, rfl⟩ := hss
  have heq : ∀ V : World, (binOp .eql 30 (.agg #[.int .i64 sa, .int .i64 sb]) (.agg #[.int .i64 sa, .int .i64 sb])).run Tryz.prog V = .ok (.bool true) V := fun V => by rw [run_eql_fault, beq_self_eq_true]
  go_wp2_with fail
  go_ret
  exact ⟨rfl, Hend.out _ (Below.refl _ _)⟩
end Go.Proofs.YtnlhocbaighedaaGreatDoor

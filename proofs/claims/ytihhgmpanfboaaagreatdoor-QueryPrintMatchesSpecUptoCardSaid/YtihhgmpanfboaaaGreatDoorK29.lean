/-
  Contracts and plain facts, one after another: QueryPrintMatchesSpec: the law's walk; The walk of QueryPrintMatchesSpec, as its row takes it.
-/
import Derived.Test.YtihhgmpanfboaaaGreatDoorK27
import Derived.Test.YtihhgmpanfboaaaGreatDoorRs2
import Derived.Test.YtihhgmpanfboaaaGreatDoorSrQf
import Derived.Test.YtihhgmpanfboaaaGreatDoorQyCu
namespace Go.Proofs.YtihhgmpanfboaaaGreatDoor
open Go.RowKit
set_option linter.unusedVariables false
theorem neq_fault_same (a b : Int) (w : World) : (binOp .neq 26 (.agg #[.int .i64 a, .int .i64 b]) (.agg #[.int .i64 a, .int .i64 b])).run Tryz.prog w = .ok (.bool false) w := by
  rw [run_neq_fault, beq_self_eq_true]
  rfl
set_option maxRecDepth 100000 in
set_option maxHeartbeats 16000000 in
theorem qprint_ok (v : Value) (q : Q) (f : Nat) (w : World) (hx : QAt f M0 w v q) (hbk : q.bulk ≤ 1048576) (hT : TabsU w) (hC : CutV w) : Calls Tryz.prog 3 #[v] w fun e w' => e = .returned (.bool true) ∧ Below w.heap.size w w' := by
  have hpr := fun V (hv : Below w.heap.size w V) => print_ok f q v V (hx.ext hv) (by omega) (hT.ext hv) (hC.ext hv)
  have hqf := fun V (hv : Below w.heap.size w V) => queryFault_ok f q v V (hx.ext hv) hbk (hT.ext hv)
  have hva := fun V (hv : Below w.heap.size w V) => qvalidate_ok f q v V (hx.ext hv) (by omega) (hT.ext hv)
  have hrt := fun (hf : Q.Fine 8 q) V (hv : Below w.heap.size w V) => rtext_ok 8 q v V f hf (hx.ext hv) (by omega)
  obtain ⟨va, vb, vc, vd, rfl, _, rfl, rfl, rfl, xA, xc, rfl⟩ := hx.cellsOf
  obtain ⟨xk, hxk⟩ : ∃ k, q.kind = k := ⟨_, rfl⟩
  obtain ⟨xt, hxt⟩ : ∃ k, bs q.text = k := ⟨_, rfl⟩
  obtain ⟨xn, hxn⟩ : ∃ k, q.num = k := ⟨_, rfl⟩
  obtain ⟨xl, hxl⟩ : ∃ k, q.parts.length = k := ⟨_, rfl⟩
  rw [hxk, hxt, hxn, hxl] at hx hpr hqf hva hrt ⊢
  obtain ⟨W1, g1, hW1, hg1, hs1, k1, hal1⟩ := boxA w #[.int .i64 xk, .string xt, .int .i64 xn, .slice xA xl xc] 24
  obtain ⟨⟨T, pa, pb⟩, hP⟩ : ∃ P, Q.printF q = P := ⟨_, rfl⟩
  obtain ⟨⟨fc, fi⟩, hF⟩ : ∃ P, Q.fault q = P := ⟨_, rfl⟩
  have hPd := hP
  unfold Q.printF at hPd
  have hfz := @Q.fault_zero q
  have hfz2 := @Q.fault_zero2 q
  rw [hF] at hPd hfz hfz2
  simp only [hP] at hpr
  simp only [hF] at hqf hva
  dsimp only at hPd hfz hfz2
  obtain ⟨x0, x1, x2, x3, _⟩ := k1.four
  have K1 := Lib.hid k1; have Hal := Lib.hid hal1; have Hpr := Lib.hid hpr; have Hqf := Lib.hid hqf; have Hva0 := Lib.hid hva; have Hrt := Lib.hid hrt; have HPd := Lib.hid hPd; have Hfz := Lib.hid hfz; have Hfz2 := Lib.hid hfz2; have HT := Lib.hid hT; have HC := Lib.hid hC
  clear hx k1 hs1 hal1 hpr hqf hva hrt hP hF hPd hfz hfz2 hT hC hbk hxk hxt hxn hxl
  go_enter Tryz.func3, Tryz.ntmps3
  go_wp2_with fail
  refine (Hpr.out W1 Hal.out).mono ?_
  clear Hpr hW1 hg1 x0 x1 x2 x3
  rintro e w2 ⟨rfl, hb2⟩
  obtain ⟨W3, g3, hW3, hg3, hs3, k3, hal3⟩ := boxA w2 #[.int .i64 pa, .int .i64 pb] 26
  have hb13 := hb2.trans (hal3.mono hb2.size)
  have hb03 := Hal.out.trans (hb13.mono Hal.out.size)
  obtain ⟨x0, x1, x2, x3, _⟩ := (K1.out.ext hb13).four
  have K13 := Lib.hid (K1.out.ext hb13); have K3 := Lib.hid k3; have Hb03 := Lib.hid hb03
  clear hb2 hs3 k3 hal3 hb13 hb03
  go_wp2_with fail
  refine (Hqf.out W3 Hb03.out).mono ?_
  clear Hqf hW3 hg3 x0 x1 x2 x3
  rintro e w4 ⟨rfl, hb4⟩
  obtain ⟨W5, g5, hW5, hg5, hs5, k5, hal5⟩ := boxA w4 #[.int .i64 fc, .int .i64 fi] 26
  have hb35 := hb4.trans (hal5.mono hb4.size)
  have hb05 := Hb03.out.trans (hb35.mono Hb03.out.size)
  have K15 := Lib.hid (K13.out.ext hb35); have K35 := Lib.hid (K3.out.ext hb35); have K5 := Lib.hid k5; have Hb05 := Lib.hid hb05
  have Hex : Hid (∀ V, Below W5.heap.size W5 V → _) := Lib.hid fun V (hv : Below W5.heap.size W5 V) => qexample_ok V (HT.out.ext (Hb05.out.trans (hv.mono Hb05.out.size))) (HC.out.ext (Hb05.out.trans (hv.mono Hb05.out.size)))
  have Hva : Hid (∀ V, Below W5.heap.size W5 V → _) := Lib.hid fun V (hv : Below W5.heap.size W5 V) => Hva0.out V (Hb05.out.trans (hv.mono Hb05.out.size))
  have HS : Hid (∀ W, Below W5.heap.size W5 W → W.cell? ⟨g1, 0, none⟩ = some (.int .i64 xk) ∧ W.cell? ⟨g1, 1, none⟩ = some (.string xt) ∧ W.cell? ⟨g1, 2, none⟩ = some (.int .i64 xn) ∧ W.cell? ⟨g1, 3, none⟩ = some (.slice xA xl xc) ∧ W.cell? ⟨g5, 0, none⟩ = some (.int .i64 fc) ∧ W.cell? ⟨g5, 1, none⟩ = some (.int .i64 fi)) := Lib.hid fun W hb => by
    obtain ⟨a0, a1, a2, a3, _⟩ := (K15.out.ext hb).four
    obtain ⟨b0, b1, _⟩ := (K5.out.ext hb).two
    exact ⟨a0, a1, a2, a3, b0, b1⟩
  have hneq := fun V => neq_fault_same fc fi V
  have hg5w : W3.heap.size ≤ g5 := by have := hb4.size; omega
  have hg35 : g3 < W3.heap.size := K3.out.lt
  clear hb4 hs5 k5 hal5 hb35 hb05 Hva0
  go_upto_region 3 with (fail)
  clear hW5 hg5
  have hS := HS.out (W5.drewN 1) (below_drewN' _ _ _)
  refine wp_region_D (fun W => W.cell? ⟨g1, 0, none⟩ = some (.int .i64 xk) ∧ W.cell? ⟨g1, 1, none⟩ = some (.string xt) ∧ W.cell? ⟨g1, 2, none⟩ = some (.int .i64 xn) ∧ W.cell? ⟨g1, 3, none⟩ = some (.slice xA xl xc) ∧ W.cell? ⟨g5, 0, none⟩ = some (.int .i64 fc) ∧ W.cell? ⟨g5, 1, none⟩ = some (.int .i64 fi)) (fun _ => false) (by kernel_rfl) ?_
  change anyD _ _ _ _ _ _ _ _ _ (W5.drewN 1)
  have hbV := below_drewN' W5.heap.size W5 1
  generalize W5.drewN 1 = V0 at hS hbV ⊢
  go_simp
  refine anyD_one (i := 0) (by kernel_rfl) rfl rfl (fun K hK => ?_)
  have HK := Lib.hid hK
  clear hK
  unfold Oper.wp
  go_simp
  refine ((Hex.out V0 hbV)).mono ?_
  rintro e w8 ⟨rfl, hb8⟩
  replace hbV := hbV.trans (hb8.mono hbV.size)
  clear hb8 hS
  have hS := HS.out _ hbV
  refine HK.out _ _ (fun _ => hS) ?_
  clear HK
  (refine anyD_light (i := 1) (v := ?_) rfl (by kernel_rfl) (by kernel_rfl) (by kernel_rfl) (by kernel_rfl) (by kernel_rfl) (fun _ _ _ h => h) (.inl ⟨by kernel_rfl, fun W9 hW9 => ?_⟩) hS ?_; rotate_left; · (obtain ⟨hw0, hw1, hw2, hw3, hw4, hw5⟩ := hW9; go_simp; rfl))
  (refine anyD_light (i := 2) (v := ?_) rfl (by kernel_rfl) (by kernel_rfl) (by kernel_rfl) (by kernel_rfl) (by kernel_rfl) (fun _ _ _ h => h) (.inl ⟨by kernel_rfl, fun W9 hW9 => ?_⟩) hS ?_; rotate_left; · (obtain ⟨hw0, hw1, hw2, hw3, hw4, hw5⟩ := hW9; go_simp; rfl))
  (refine anyD_light (i := 3) (v := ?_) rfl (by kernel_rfl) (by kernel_rfl) (by kernel_rfl) (by kernel_rfl) (by kernel_rfl) (fun _ _ _ h => h) (.inl ⟨by kernel_rfl, fun W9 hW9 => ?_⟩) hS ?_; rotate_left; · (obtain ⟨hw0, hw1, hw2, hw3, hw4, hw5⟩ := hW9; go_simp; rfl))
  (refine anyD_light (i := 5) (v := ?_) rfl (by kernel_rfl) (by kernel_rfl) (by kernel_rfl) (by kernel_rfl) (by kernel_rfl) (fun _ _ _ h => h) (.inl ⟨by kernel_rfl, fun W9 hW9 => ?_⟩) hS ?_; rotate_left; · (obtain ⟨hw0, hw1, hw2, hw3, hw4, hw5⟩ := hW9; go_simp; rfl))
  go_simp
  refine anyD_oneG (i := 4) (by kernel_rfl) rfl rfl (fun K hK => ?_)
  have HK := Lib.hid hK
  clear hK
  unfold Oper.wp
  go_simp
  refine ((Hva.out w8 hbV)).mono ?_
  rintro e w9 ⟨rfl, hb9⟩
  replace hbV := hbV.trans (hb9.mono hbV.size)
  clear hb9 hS
  have hS := HS.out _ hbV
  refine HK.out _ _ (fun _ => hS) ?_
  clear HK
  (refine anyD_light (i := 6) (v := ?_) rfl (by kernel_rfl) (by kernel_rfl) (by kernel_rfl) (by kernel_rfl) (by kernel_rfl) (fun _ _ _ h => h) (.inl ⟨by kernel_rfl, fun W9 hW9 => ?_⟩) hS ?_; rotate_left; · (obtain ⟨hw0, hw1, hw2, hw3, hw4, hw5⟩ := hW9; go_simp; rfl))
  (refine anyD_light (i := 7) (v := ?_) rfl (by kernel_rfl) (by kernel_rfl) (by kernel_rfl) (by kernel_rfl) (by kernel_rfl) (fun _ _ _ h => h) (.inl ⟨by kernel_rfl, fun W9 hW9 => ?_⟩) hS ?_; rotate_left; · (obtain ⟨hw0, hw1, hw2, hw3, hw4, hw5⟩ := hW9; go_simp; rfl))
  go_simp
  refine anyD_done (by kernel_rfl) ?_ _
  have Hb9 := Lib.hid (Hb05.out.trans (hbV.mono Hb05.out.size))
  have kx := K15.out.ext hbV; have kp := K35.out.ext hbV; have kf := K5.out.ext hbV
  obtain ⟨x0, x1, x2, x3, _⟩ := kx.four
  obtain ⟨p0, p1, _⟩ := kp.two
  obtain ⟨f0, f1, _⟩ := kf.two
  have Hkf := Lib.hid kf; have Hkp := Lib.hid kp
  clear hbV hS HS Hex Hva kx kp kf hneq
  by_cases hf : fc = 0
  · have hPd := HPd.out
    have hff := Hfz.out.1 hf
    rw [if_neg (by simpa using hf)] at hPd
    have hrt := Hrt.out ⟨hff.1, hff.2.2⟩ w9 Hb9.out
    have hfi : fi = 0 := by have := Hfz2.out hf; injection this
    have hfe : (fc == 0) = true := by rw [hf]; rfl
    obtain ⟨tx, htx⟩ : ∃ t, Q.textF 8 q = t := ⟨_, rfl⟩
    rw [htx] at hPd hrt
    have Hrt2 := Lib.hid hrt; have HPd2 := Lib.hid hPd; have Hff := Lib.hid (And.intro hf hfi)
    clear hPd hff hrt hfi hf htx Hrt HPd Hfz Hfz2
    go_wp2_with fail
    refine Hrt2.out.mono ?_
    clear Hrt2 x0 x1 x2 x3 p0 p1 f0 f1
    rintro e w10 ⟨rfl, hb10⟩
    by_cases hl : 4000 < tx.length
    · have hPd := HPd2.out
      rw [if_pos hl] at hPd
      injection hPd with e1 e2
      injection e2 with e2 e3
      subst e1
      have hli : (4000 : Int) < (tx.length : Int) := by omega
      have hat := at_ok 1 (-1) w10
      have hcmp : ∀ V, (binOp .eql 26 (.agg #[.int .i64 pa, .int .i64 pb]) (.agg #[.int .i64 1, .int .i64 (-1)])).run Tryz.prog V = .ok (.bool true) V := fun V => by rw [run_eq_fault, ← e2, ← e3]; rfl
      have Hat := Lib.hid hat; have Hb10 := Lib.hid hb10
      clear hat hb10 e2 e3 HPd2 hl
      go_wp2_with fail
      refine Hat.out.mono ?_
      clear Hat
      rintro e w11 ⟨rfl, hb11⟩
      have hb911 := Hb10.out.trans (hb11.mono Hb10.out.size)
      have kp := Hkp.out.ext hb911; have kf := Hkf.out.ext hb911
      have hb0 := Hb9.out.trans (hb911.mono Hb9.out.size)
      obtain ⟨p0, p1, _⟩ := kp.two
      obtain ⟨f0, f1, f2, f3, _⟩ := kf.two
      obtain ⟨V, hV⟩ : ∃ V, (w11.setCell ⟨g5, 0, none⟩ (.int .i64 1)).setCell ⟨g5, 1, none⟩ (.int .i64 (-1)) = V := ⟨_, rfl⟩
      have hne35 : g3 ≠ g5 := by omega
      have kp9 : Blk V g3 26 #[.int .i64 pa, .int .i64 pb] := by rw [← hV]; exact (kp.far (p := ⟨g5, 0, none⟩) hne35 _).far (p := ⟨g5, 1, none⟩) hne35 _
      have kf9 : Blk V g5 26 #[.int .i64 1, .int .i64 (-1)] := by rw [← hV]; simpa using (kf.set_ 0 (.int .i64 1)).set_ 1 (.int .i64 (-1))
      have hgw : w.heap.size ≤ g5 := by have := Hb03.out.size; omega
      have hbV : Below w.heap.size w V := by rw [← hV]; exact (hb0.setCell (p := ⟨g5, 0, none⟩) hgw _).setCell (p := ⟨g5, 1, none⟩) hgw _
      have HV := Lib.hid hV; have Hkp9 := Lib.hid kp9; have Hkf9 := Lib.hid kf9; have HbV := Lib.hid hbV
      clear hV kp9 kf9 hbV kp kf hb0 hb911 hb11
      go_upto_region 11 with (fail)
      rw [HV.out]
      clear p0 p1 f0 f1 f2 f3
      obtain ⟨p0, p1, _⟩ := Hkp9.out.two
      obtain ⟨f0, f1, _⟩ := Hkf9.out.two
      go_wp2_with fail
      go_ret
      exact ⟨rfl, HbV.out⟩
    · have hPd := HPd2.out
      rw [if_neg hl] at hPd
      injection hPd with e1 e2
      injection e2 with e2 e3
      subst e1
      have hli : ¬ (4000 : Int) < (tx.length : Int) := by omega
      have hcmp : ∀ V, (binOp .eql 26 (.agg #[.int .i64 pa, .int .i64 pb]) (.agg #[.int .i64 fc, .int .i64 fi])).run Tryz.prog V = .ok (.bool true) V := fun V => by rw [run_eq_fault, ← e2, ← e3, Hff.out.1, Hff.out.2]; rfl
      obtain ⟨p0, p1, _⟩ := (Hkp.out.ext hb10).two
      obtain ⟨f0, f1, _⟩ := (Hkf.out.ext hb10).two
      have Hb10 := Lib.hid hb10
      clear hb10 e2 e3 HPd2 hl
      go_wp2_with fail
      go_ret
      exact ⟨rfl, Hb9.out.trans (Hb10.out.mono Hb9.out.size)⟩
  · have hPd := HPd.out
    rw [if_pos (by simpa using hf)] at hPd
    injection hPd with e1 e2
    injection e2 with e2 e3
    subst e1
    have hfe : (fc == 0) = false := by simpa using hf
    have hcmp : ∀ V, (binOp .eql 26 (.agg #[.int .i64 pa, .int .i64 pb]) (.agg #[.int .i64 fc, .int .i64 fi])).run Tryz.prog V = .ok (.bool true) V := fun V => by rw [run_eq_fault, ← e2, ← e3, beq_self_eq_true]
    clear e2 e3 HPd hf
    go_wp2_with fail
    go_ret
    exact ⟨rfl, Hb9.out⟩
end Go.Proofs.YtihhgmpanfboaaaGreatDoor
namespace Go.Proofs.YtihhgmpanfboaaaGreatDoor
open Go.RowKit
theorem qprint_row (a : Array Value) (f : Nat) (p : Q) (w : World) (h : QAt f M0 w (.agg a) p) (hb : p.bulk ≤ 1048576) (hT : TabsU w) (hC : CutV w) :
    Calls Tryz.prog 3 #[.agg a] w fun e w' => e = .returned (.bool true) ∧ Below w.heap.size w w' := qprint_ok _ p f w h hb hT hC
end Go.Proofs.YtihhgmpanfboaaaGreatDoor

/-
  QueryReadIsPrinted: the law's walk.
-/
import Derived.Test.YtihhgmpanfboaaaGreatDoorK28
namespace Go.Proofs.YtihhgmpanfboaaaGreatDoor
open Go.RowKit
set_option linter.unusedVariables false
theorem Q.parseF_kinds (s : Str) : (∃ c i, c ≠ 0 ∧ Q.parseF s = (.node 0 [] 0 [], c, i)) ∨ (∃ q, Q.parseF s = (q, 0, 0) ∧ (Q.fault q).1 = 0 ∧ q.bulk ≤ 48000) := by
  rw [Q.parseF_eq]
  by_cases hl : 4000 < s.length
  · rw [if_pos hl]; exact .inl ⟨1, -1, by simp, rfl⟩
  · rw [if_neg hl]
    cases ht : Q.topS s with
    | err u => exact .inl ⟨11, _, by simp, rfl⟩
    | ok q u =>
      dsimp only
      by_cases hu : u = []
      · rw [if_pos hu]
        by_cases hf : (Q.fault q).1 = 0
        · rw [if_neg (by simpa using hf)]
          exact .inr ⟨q, rfl, hf, by have := Q.topS_bulk ht; omega⟩
        · rw [if_pos hf]
          exact .inl ⟨(Q.fault q).1, (Q.fault q).2, hf, rfl⟩
      · rw [if_neg hu]; exact .inl ⟨11, _, by simp, rfl⟩
theorem Q.printF_kinds {q : Q} (h : (Q.fault q).1 = 0) : Q.printF q = ([], 1, -1) ∨ (Q.printF q = (Q.textF 8 q, 0, 0) ∧ (Q.textF 8 q).length ≤ 4000 ∧ Q.parseF (Q.textF 8 q) = (q, 0, 0)) := by
  unfold Q.printF
  rw [if_neg (by simpa using h)]
  by_cases hl : 4000 < (Q.textF 8 q).length
  · rw [if_pos hl]; exact .inl rfl
  · rw [if_neg hl]; exact .inr ⟨rfl, by omega, Q.parseF_text h (by omega)⟩
set_option maxRecDepth 100000 in
set_option maxHeartbeats 16000000 in
theorem qread_ok (s : Str) (w : World) (hm : s.length ≤ maxLen) (hT : TabsU w) (hC : CutV w) : Calls Tryz.prog 6 #[.string (bs s)] w fun e w' => e = .returned (.bool true) ∧ Below w.heap.size w w' := by
  obtain ⟨⟨q, ca, cb⟩, hP⟩ : ∃ P, Q.parseF s = P := ⟨_, rfl⟩
  have hk := Q.parseF_kinds s
  have hp := fun V (hv : Below w.heap.size w V) => parse_ok s hm V (hT.ext hv)
  simp only [hP] at hp hk
  have hex := qexample_ok w hT hC
  have Hp := Lib.hid hp; have Hkk := Lib.hid hk; have HT := Lib.hid hT; have HC := Lib.hid hC; have Hex := Lib.hid hex
  clear hp hk hT hC hex hP hm
  go_enter Tryz.func6, Tryz.ntmps6
  go_wp2_with fail
  refine Hex.out.mono ?_
  clear Hex
  rintro e w1 ⟨rfl, hb1⟩
  have Hb1 := Lib.hid hb1
  clear hb1
  go_wp2_with fail
  refine (Hp.out w1 Hb1.out).mono ?_
  clear Hp
  rintro e w2 ⟨f1, v1, rfl, hx, hb2⟩
  dsimp only at hx ⊢
  replace hx : QAt f1 M0 w2 v1 q := hx.sub fun b _ h => h.elim
  obtain ⟨va, vb, vc, vd, rfl, _, rfl, rfl, rfl, xA, xc, rfl⟩ := hx.cellsOf
  obtain ⟨xk, hxk⟩ : ∃ k, q.kind = k := ⟨_, rfl⟩
  obtain ⟨xt, hxt⟩ : ∃ k, bs q.text = k := ⟨_, rfl⟩
  obtain ⟨xn, hxn⟩ : ∃ k, q.num = k := ⟨_, rfl⟩
  obtain ⟨xl, hxl⟩ : ∃ k, q.parts.length = k := ⟨_, rfl⟩
  rw [hxk, hxt, hxn, hxl] at hx ⊢
  obtain ⟨W3, g3, hW3, hg3, hs3, k3, m3, hal3⟩ := boxPair w2 #[.int .i64 xk, .string xt, .int .i64 xn, .slice xA xl xc] 24 #[.int .i64 ca, .int .i64 cb] 26
  have hb23 := hb2.trans (hal3.mono hb2.size)
  have hb03 := Hb1.out.trans (hb23.mono Hb1.out.size)
  obtain ⟨x0, x1, x2, x3, _⟩ := k3.four
  obtain ⟨x4, x5, _⟩ := m3.two
  have Hx := Lib.hid (hx.ext hal3); have Hb03 := Lib.hid hb03; have K3 := Lib.hid k3
  clear hx hb2 hs3 k3 m3 hal3 hb23 hb03 hxk hxt hxn hxl
  rcases Hkk.out with ⟨c, i, hc, he⟩ | ⟨q', he, hf, hbk⟩
  · injection he with e1 e2
    injection e2 with e2 e3
    subst e2
    have hcn : (ca != 0) = true := by simpa using hc
    have hce : (ca == 0) = false := by simpa using hc
    have hsm := same_true Hx.out (QAt.zero W3 M0) e1
    have Hsm := Lib.hid hsm
    clear hsm hc e1 e3 Hkk
    go_wp2_with fail
    refine Hsm.out.mono ?_
    clear Hsm
    rintro e w4 ⟨rfl, hb4⟩
    go_wp2_with fail
    go_ret
    exact ⟨rfl, Hb03.out.trans (hb4.mono Hb03.out.size)⟩
  · injection he with e1 e2
    injection e2 with e2 e3
    subst e1
    have hcn : (ca != 0) = false := by rw [e2]; rfl
    have hce : (ca == 0) = true := by rw [e2]; rfl
    have hpk := Q.printF_kinds hf
    obtain ⟨⟨T, fa, fb⟩, hPr⟩ : ∃ P, Q.printF q = P := ⟨_, rfl⟩
    have hpr := fun (F : Nat) v V (hv : Below w.heap.size w V) (hq : QAt F M0 V v q) => print_ok F q v V hq (by omega) (HT.out.ext hv) (HC.out.ext hv)
    simp only [hPr] at hpr hpk
    have Hpr := Lib.hid hpr; have Hpk := Lib.hid hpk
    clear hpr hpk e2 e3 hf hbk Hkk hPr
    go_wp2_with fail
    refine (Hpr.out _ _ W3 Hb03.out Hx.out).mono ?_
    clear hW3 hg3 x4 x5
    rintro e w5 ⟨rfl, hb5⟩
    obtain ⟨w6, g6, hW6, hg6, hs6, k6, hal6⟩ := boxA w5 #[.int .i64 fa, .int .i64 fb] 26
    have hb36 := hb5.trans (hal6.mono hb5.size)
    have hb06 := Hb03.out.trans (hb36.mono Hb03.out.size)
    obtain ⟨z0, z1, _⟩ := k6.two
    have HS6 : Hid (∀ W, Below w6.heap.size w6 W → W.cell? ⟨g6, 0, none⟩ = some (.int .i64 fa) ∧ W.cell? ⟨g6, 1, none⟩ = some (.int .i64 fb)) := Lib.hid fun W hb => by
      obtain ⟨a0, a1, _⟩ := (k6.ext hb).two
      exact ⟨a0, a1⟩
    have Hx6 := Lib.hid (Hx.out.ext hb36); have K6 := Lib.hid (K3.out.ext hb36); have Hb06 := Lib.hid hb06
    clear hb5 hs6 k6 hal6 hb36 hb06 x0 x1 x2 x3
    rcases Hpk.out with he | ⟨he, hl, hr⟩
    · injection he with e1 e2
      injection e2 with e2 e3
      have hfn : (fa != 0) = true := by rw [e2]; rfl
      have hfe : (fa == 0) = false := by rw [e2]; rfl
      have hcmp : ∀ V, (binOp .eql 26 (.agg #[.int .i64 fa, .int .i64 fb]) (.agg #[.int .i64 1, .int .i64 (-1)])).run Tryz.prog V = .ok (.bool true) V := fun V => by rw [run_eq_fault, e2, e3]; rfl
      clear e1 e2 e3 Hpk Hpr
      go_upto_region 8 with (fail)
      clear hW6 hg6
      have hS := HS6.out (w6.drewN 1) (below_drewN' _ _ _)
      refine wp_region_D (fun W => W.cell? ⟨g6, 0, none⟩ = some (.int .i64 fa) ∧ W.cell? ⟨g6, 1, none⟩ = some (.int .i64 fb)) (fun _ => false) (by kernel_rfl) ?_
      change anyD _ _ _ _ _ _ _ _ _ (w6.drewN 1)
      have hbV := below_drewN' w6.heap.size w6 1
      generalize w6.drewN 1 = V0 at hS hbV ⊢
      (refine anyD_light (i := 0) (v := ?_) rfl (by kernel_rfl) (by kernel_rfl) (by kernel_rfl) (by kernel_rfl) (by kernel_rfl) (fun _ _ _ h => h) (.inl ⟨by kernel_rfl, fun W9 hW9 => ?_⟩) hS ?_; rotate_left; · (obtain ⟨hw0, hw1⟩ := hW9; go_simp; rfl))
      go_simp
      refine anyD_one (i := 1) (by kernel_rfl) rfl rfl (fun K hK => ?_)
      have HK := Lib.hid hK
      clear hK
      unfold Oper.wp
      go_simp
      refine ((at_ok 1 (-1) V0)).mono ?_
      rintro e w9 ⟨rfl, hb9⟩
      replace hbV := hbV.trans (hb9.mono hbV.size)
      clear hb9 hS
      have hS := HS6.out _ hbV
      refine HK.out _ _ (fun _ => hS) ?_
      clear HK
      (refine anyD_light (i := 2) (v := ?_) rfl (by kernel_rfl) (by kernel_rfl) (by kernel_rfl) (by kernel_rfl) (by kernel_rfl) (fun _ _ _ h => h) (.inl ⟨by kernel_rfl, fun W9 hW9 => ?_⟩) hS ?_; rotate_left; · (obtain ⟨hw0, hw1⟩ := hW9; go_simp; rfl))
      (refine anyD_light (i := 3) (v := ?_) rfl (by kernel_rfl) (by kernel_rfl) (by kernel_rfl) (by kernel_rfl) (by kernel_rfl) (fun _ _ _ h => h) (.inl ⟨by kernel_rfl, fun W9 hW9 => ?_⟩) hS ?_; rotate_left; · (obtain ⟨hw0, hw1⟩ := hW9; go_simp; rfl))
      go_simp
      refine anyD_done (by kernel_rfl) ?_ _
      go_wp2_with fail
      go_ret
      exact ⟨rfl, Hb06.out.trans (hbV.mono Hb06.out.size)⟩
    · injection he with e1 e2
      injection e2 with e2 e3
      have hfn : (fa != 0) = false := by rw [e2]; rfl
      have hfe : (fa == 0) = true := by rw [e2]; rfl
      rw [← e1] at hl hr
      obtain ⟨ra, hra⟩ : ∃ x : Int, (0 : Int) = x := ⟨0, rfl⟩
      obtain ⟨rb, hrb⟩ : ∃ x : Int, (0 : Int) = x := ⟨0, rfl⟩
      rw [show ((q, 0, 0) : Q × Int × Int) = (q, ra, rb) from by rw [← hra, ← hrb]] at hr
      have h2n : (ra != 0) = false := by rw [← hra]; rfl
      have h2e : (ra == 0) = true := by rw [← hra]; rfl
      have hpa := parse_ok T (by unfold maxLen; omega) w6 (HT.out.ext Hb06.out)
      rw [hr] at hpa
      have Hpa := Lib.hid hpa
      clear e1 e2 e3 hl hr hra hrb hpa Hpk
      go_wp2_with fail
      refine Hpa.out.mono ?_
      clear Hpa hW6 hg6
      rintro e w7 ⟨f7, v7, rfl, hy, hb7⟩
      dsimp only at hy ⊢
      replace hy : QAt f7 M0 w7 v7 q := hy.sub fun b _ h => h.elim
      obtain ⟨va, vb, vc, vd, rfl, _, rfl, rfl, rfl, yA, yc, rfl⟩ := hy.cellsOf
      obtain ⟨yk, hyk⟩ : ∃ k, q.kind = k := ⟨_, rfl⟩
      obtain ⟨yt, hyt⟩ : ∃ k, bs q.text = k := ⟨_, rfl⟩
      obtain ⟨yn, hyn⟩ : ∃ k, q.num = k := ⟨_, rfl⟩
      obtain ⟨yl, hyl⟩ : ∃ k, q.parts.length = k := ⟨_, rfl⟩
      rw [hyk, hyt, hyn, hyl] at hy ⊢
      obtain ⟨W8, g8, hW8, hg8, hs8, k8, m8, hal8⟩ := boxPair w7 #[.int .i64 yk, .string yt, .int .i64 yn, .slice yA yl yc] 24 #[.int .i64 ra, .int .i64 rb] 26
      have hb68 := hb7.trans (hal8.mono hb7.size)
      have hb08 := Hb06.out.trans (hb68.mono Hb06.out.size)
      obtain ⟨y0, y1, y2, y3, _⟩ := k8.four
      have Hy := Lib.hid (hy.ext hal8); have Hx8 := Lib.hid (Hx6.out.ext hb68); have K38 := Lib.hid (K6.out.ext hb68); have K8 := Lib.hid k8; have M8 := Lib.hid m8; have Hb08 := Lib.hid hb08
      clear hy hb7 hs8 k8 m8 hal8 hb68 hb08 z0 z1 HS6 hyk hyt hyn hyl
      go_wp2_with fail
      refine (Hpr.out _ _ W8 Hb08.out Hy.out).mono ?_
      clear Hpr hW8 hg8 y0 y1 y2 y3
      rintro e w9 ⟨rfl, hb9⟩
      obtain ⟨W10, g10, hW10, hg10, hs10, k10, hal10⟩ := boxA w9 #[.int .i64 fa, .int .i64 fb] 26
      have hb810 := hb9.trans (hal10.mono hb9.size)
      have hb010 := Hb08.out.trans (hb810.mono Hb08.out.size)
      obtain ⟨x0, x1, x2, x3, _⟩ := (K38.out.ext hb810).four
      obtain ⟨y0, y1, y2, y3, _⟩ := (K8.out.ext hb810).four
      obtain ⟨y4, y5, _⟩ := (M8.out.ext hb810).two
      obtain ⟨z0, z1, _⟩ := k10.two
      have hsm := same_true (Hy.out.ext hb810) (Hx8.out.ext hb810) rfl
      have Hsm := Lib.hid hsm; have Hb010 := Lib.hid hb010; have K10 := Lib.hid k10
      clear hsm hb9 hs10 k10 hal10 hb810 hb010
      go_wp2_with fail
      refine Hsm.out.mono ?_
      clear Hsm hW10 hg10 x0 x1 x2 x3 y0 y1 y2 y3 y4 y5 z0 z1
      rintro e w11 ⟨rfl, hb11⟩
      obtain ⟨z0, z1, _⟩ := (K10.out.ext hb11).two
      go_wp2_with fail
      go_ret
      exact ⟨rfl, Hb010.out.trans (hb11.mono Hb010.out.size)⟩
end Go.Proofs.YtihhgmpanfboaaaGreatDoor

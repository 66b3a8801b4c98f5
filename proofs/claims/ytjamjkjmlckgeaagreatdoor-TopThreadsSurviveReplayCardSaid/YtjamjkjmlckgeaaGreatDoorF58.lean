/-
  TopThreadsSurviveReplay: the law's walk.
-/
import Derived.Test.YtjamjkjmlckgeaaGreatDoorF56
import Derived.Test.YtjamjkjmlckgeaaGreatDoorF57
import Derived.Test.YtjamjkjmlckgeaaGreatDoorF31
import Derived.Test.YtjamjkjmlckgeaaGreatDoorF22
namespace Go.Proofs.YtjamjkjmlckgeaaGreatDoor
open Go.RowKit
set_option linter.unusedVariables false
theorem shown_one (s : Str) (t : Int) : Th.shownA [(s, [], t)] (-1) 0 = [(0, 0)] := by
  have hp : Th.parentsF [(s, [], t)] = [-1] := rfl
  have k1 : Th.kidsS [(s, [], t)] (-1) = [0] := by
    unfold Th.kidsS Th.kids
    rw [hp, show ([(s, [], t)] : List Letter).length = 1 from rfl, show (List.filter (fun k => [(-1 : Int)][k]? == some (-1 : Int)) (List.range 1)) = [0] from rfl]
    exact List.mergeSort_singleton _
  have k2 : Th.kidsS [(s, [], t)] 0 = [] := by
    unfold Th.kidsS Th.kids
    rw [hp, show ([(s, [], t)] : List Letter).length = 1 from rfl, show (List.filter (fun k => [(-1 : Int)][k]? == some (0 : Int)) (List.range 1)) = [] from rfl]
    exact List.mergeSort_nil
  unfold Th.shownA
  show Th.shownF [(s, [], t)] 3 (-1) 0 = _
  unfold Th.shownF
  rw [k1]
  unfold Th.shownF
  simp [k2]
theorem run_codeN (a b : Int) (w : World) : (Instr.field 31 (.agg #[.int .i64 a, .int .i64 b]) 0).run Tryz.prog w = .ok (.int .i64 a) w := by kernel_rfl
namespace Mb
theorem appl_add {b : Box} {c : Chg} (h : Good b) (h5 : c.1 = 1) (h0 : (applF b c).2.1 = 0) : (applF b c).1 = addC b c ∧ Good (addC b c) := by
  unfold applF at h0 ⊢
  by_cases h1 : (chgF c).1 ≠ 0
  · rw [if_pos h1] at h0; exact absurd h0 h1
  rw [if_neg h1] at h0 ⊢
  by_cases h2 : b.ns = 1000000 ∨ (c.1 = 1 ∧ b.nu = 1000000)
  · rw [if_pos h2] at h0; cases h0
  rw [if_neg h2] at h0 ⊢
  by_cases h3 : c.1 = 1 ∧ b.es.length = 200
  · rw [if_pos h3] at h0; cases h0
  rw [if_neg h3] at h0 ⊢
  by_cases h4 : ¬ c.1 = 1 ∧ findI b.es c.2.1 < 0
  · rw [if_pos h4] at h0; cases h0
  rw [if_neg h4]
  obtain ⟨_, hk, hs, hc, ht, ha, hn⟩ := chg_ok (Decidable.not_not.1 h1)
  rw [not_or] at h2
  dsimp only
  rw [if_pos h5]
  exact ⟨rfl, good_add h h2.1 (fun e => h2.2 ⟨h5, e⟩) (fun e => h3 ⟨h5, e⟩) hs ht (ha h5).2⟩
end Mb
set_option maxRecDepth 100000 in
set_option maxHeartbeats 16000000 in
theorem nt_ok (n0 : Nat) (w : World) (b : Mb.Box) (es gs f bd : Value) (x : Mb.Msg) (hE : Env n0 w) (hn : n0 ≤ w.heap.size) (hes : SlR entC M0 w es b.es) (hgs : SlR gnC M0 w gs b.gs) (hf : SlR fldC M0 w f x.1) (hbd : SlR byteC M0 w bd x.2) (hsz : ∀ e ∈ b.es, e.2.2.2.2.2.length ≤ 140737488355328) (hfl : x.1.length ≤ 4398046511104) (hbl : x.2.length ≤ 140737488355328) :
    Calls Tryz.prog 4 #[boxV b es gs, .agg #[f, bd]] w fun e w' => e = .returned (.bool true) ∧ Below w.heap.size w w' := by
  obtain ⟨xf, xb⟩ := x
  dsimp only at hf hbd hfl hbl
  obtain ⟨Ae, ce, rfl, _, _⟩ := hes.form
  obtain ⟨Ag, cg, rfl, _, _⟩ := hgs.form
  obtain ⟨Af, cf, rfl, _, _⟩ := hf.form
  obtain ⟨Ab, cb, rfl, _, _⟩ := hbd.form
  have Hgl := Lib.hid hsz
  obtain ⟨w0, g2, g3, hw0, hg2, hg3, hsz0, k2, k3, hb0⟩ := box2 w #[.int .i64 b.nu, .int .i64 b.ns, .int .i64 b.hz, .slice Ae b.es.length ce, .slice Ag b.gs.length cg] 26 #[.slice Af xf.length cf, .slice Ab xb.length cb] 45
  have hz0 := hb0.size
  have hE0 := hE.ext hb0 hn
  have he0 := hes.ext hb0; have hg0 := hgs.ext hb0; have hf0 := hf.ext hb0; have hbd0 := hbd.ext hb0
  have Hb0 := Lib.hid hb0
  have hsn : n0 ≤ w0.heap.size := by omega
  obtain ⟨z, hz9⟩ : ∃ z : Int, z = 0 := ⟨_, rfl⟩
  have hzz : (z != 0) = false := by rw [hz9]; rfl
  have Hz9 := Lib.hid hz9
  have hcl := fun W (h : Below w0.heap.size w0 W) => clog_ok n0 W b _ _ (hE0.ext h hsn) (Nat.le_trans hsn h.size) (he0.ext h) (hg0.ext h) hsz
  have hva := fun W (h : Below w0.heap.size w0 W) => validate_ok b _ _ W (he0.ext h) (hg0.ext h) hsz
  unfold boxV at hcl hva ⊢
  have Hcl := Lib.hid hcl; have Hva := Lib.hid hva
  have K2 := Lib.hid k2; have K3 := Lib.hid k3
  clear hcl hva hes hgs hf hbd hE hsz hz9 hsz0 hb0 k2 k3
  go_enter Tryz.func4, Tryz.ntmps4
  go_wp2_with fail
  refine (nbox_ok M0 w0 (fun x hx => hx.elim)).mono ?_
  rintro e w1 ⟨es1, gs1, he, hes1, hgs1, hb1⟩
  obtain ⟨Ae1, ce1, rfl, _, _⟩ := hes1.form
  obtain ⟨Ag1, cg1, rfl, _, _⟩ := hgs1.form
  have he : e = .returned (.tuple #[.agg #[.int .i64 2, .int .i64 2, .int .i64 0, .slice Ae1 1 ce1, .slice Ag1 0 cg1], .bool true]) := he
  subst he
  refine Hid.out ?_
  refine Lib.hid ?_
  obtain ⟨wa, g5, hwa, hg5, hsza, k5a, hba⟩ := box1 w1 #[.int .i64 0, .int .i64 0, .int .i64 0, .slice none 0 0, .slice none 0 0] 26
  obtain ⟨w2, hw2, ⟨m0, m1, m2, m3, m4⟩, ⟨x0, x1, x2, x3, x4, xl⟩, k5, hT5⟩ := land5 k5a (.int .i64 2) (.int .i64 2) (.int .i64 0) (.slice Ae1 1 ce1) (.slice Ag1 0 cg1)
  have hb12 : Below w1.heap.size w1 w2 := hba.trans (hT5.rest _ (by omega))
  have hb2 := below2 hb1 hb12
  have q0 := k5.cell 0; have q1 := k5.cell 1; have q2 := k5.cell 2; have q3 := k5.cell 3; have q4 := k5.cell 4
  have hnl := nletters_ok Mb.exB (.slice Ae1 1 ce1) (.slice Ag1 0 cg1) w2 (hes1.ext hb12) Mb.ex_lead.good
  unfold boxV at hnl
  have hnl : Calls Tryz.prog 17 #[.agg #[.int .i64 2, .int .i64 2, .int .i64 0, .slice Ae1 1 ce1, .slice Ag1 0 cg1]] w2 _ := hnl
  have hLx : Mb.lettersB Mb.exB.es = [(Mb.digF 1, [], 0)] := rfl
  have hL0 : (Th.lettersF (Mb.lettersB Mb.exB.es)).1 = 0 := by rw [Mb.letters_ok Mb.ex_lead.good]
  rw [hLx] at hnl hL0
  obtain ⟨dg, hdg⟩ : ∃ d, d = Mb.digF 1 := ⟨_, rfl⟩
  rw [← hdg] at hnl hL0
  have Hnl := Lib.hid hnl; have HL0 := Lib.hid hL0
  clear hnl hLx hL0 hdg hsza k5a hba hT5 hes1 hgs1
  go_wp2_with fail
  refine Hnl.out.mono ?_
  rintro e w3 ⟨v3, rfl, own3, hb3⟩
  obtain ⟨A3, c3, rfl, _, _⟩ := own3.shape
  have hb03 := below2 hb2 hb3
  have hor := torder_good A3 c3 [(dg, [], 0)] w3 own3.read0 (fun i j hi hj _ => by simp at hi hj; omega) HL0.out (by rw [shown_one]; decide) (by rw [shown_one]; intro x hx; simp at hx; rw [hx]; decide)
  rw [shown_one] at hor
  have Hor := Lib.hid hor
  clear hor own3 Hnl HL0 q0 q1 q2 q3 q4 m0 m1 m2 m3 m4 x0 x1 x2 x3 x4 xl hw2 hwa
  go_wp2_with fail
  refine Hor.out.mono ?_
  rintro e w4 ⟨A1, c1, L1, A2, c2, L2, he, hL1, hL2, _, _, hb4⟩
  obtain rfl := hL1.out
  obtain rfl := hL2.out
  have he : e = .returned (.tuple #[.slice A1 1 c1, .slice A2 1 c2, .agg #[.int .i64 0, .int .i64 0]]) := he
  rw [← Hz9.out] at he
  subst he
  refine Hid.out ?_
  refine Lib.hid ?_
  obtain ⟨wb, g9, hwb, hg9, hszb, k9a, hbb⟩ := box1 w4 #[.int .i64 0, .int .i64 0] 31
  obtain ⟨w5, hw5, ⟨y0, y1⟩, ⟨u0, u1, ul⟩, k9, hT9⟩ := land2 k9a (.int .i64 z) (.int .i64 z)
  have hb45 : Below w4.heap.size w4 w5 := hbb.trans (hT9.rest _ (by omega))
  have hb5 := below2 hb03 (below2 hb4 hb45)
  have p0 := k9.cell 0
  have t0 := (K2.out.ext hb5).cell 0; have t1 := (K2.out.ext hb5).cell 1; have t2 := (K2.out.ext hb5).cell 2; have t3 := (K2.out.ext hb5).cell 3; have t4 := (K2.out.ext hb5).cell 4
  have Hcl5 := Lib.hid (Hcl.out w5 hb5)
  clear hL1 hL2 Hor hszb k9a hbb hT9 k9 k5 Hcl hb12 hb1 hb2 hb3 hb03 hb4 hb45
  go_wp2_with fail
  refine Hcl5.out.mono ?_
  rintro e w6 ⟨v6, d1, d2, rfl, hb6, hor⟩
  obtain ⟨A6, n6, c6, rfl⟩ : ∃ A n c, v6 = .slice A n c := by
    rcases hor with ⟨_, _, _, _, h⟩ | ⟨_, h, _⟩
    · obtain ⟨A, c, rfl, _⟩ := h.shape
      exact ⟨_, _, _, rfl⟩
    · exact ⟨_, _, _, h⟩
  obtain ⟨wb, g11, hwb2, hg11, hszb, k11a, hbb⟩ := box1 w6 #[.int .i64 0, .int .i64 0] 31
  obtain ⟨w7, hw7, ⟨r0, r1⟩, ⟨s0, s1, sl⟩, k11, hT11⟩ := land2 k11a (.int .i64 d1) (.int .i64 d2)
  have hb67 : Below w6.heap.size w6 w7 := hbb.trans (hT11.rest _ (by omega))
  have hb7 := below2 hb5 (below2 hb6 hb67)
  have i0 := k11.cell 0
  have Hor := Lib.hid hor
  clear p0 t0 t1 t2 t3 t4 y0 y1 u0 u1 ul hw5 hwb Hcl5 hor hszb k11a hbb hT11 hb5 hb6
  by_cases hd : d1 = 0
  · have hdz : (d1 != 0) = false := by rw [hd]; rfl
    obtain ⟨hG, hfit, own6⟩ : Mb.Good b ∧ Mb.logLen (Mb.boxC b) ≤ 400000 ∧ Own byteC M0 w6 w5.heap.size 5 (.slice A6 n6 c6) (Mb.logB (Mb.boxC b)) := by
      rcases Hor.out with ⟨_, _, h1, h2, h3⟩ | ⟨h, _⟩
      · exact ⟨h1, h2, h3⟩
      · exact absurd hd h
    have hread := Mb.read_log (Mb.box_in hG) hfit
    have hpl : Mb.Plays Mb.newB false true (Mb.boxC b) b := by
      have h1 := Mb.plays_box (b' := b) hG [] rfl
      rwa [List.append_nil] at h1
    have hrep := replay_ok M0 n0 w7 (.slice A6 n6 c6) _ _ b (hE0.ext hb7 hsn) (Nat.le_trans hsn hb7.size) (fun x hx => hx.elim) (own6.read0.ext hb67) (by rw [hread]) (by rw [hread]) (Mb.box_in hG) hpl
    unfold boxV at hrep
    rw [← Hz9.out] at hrep
    have Hrep := Lib.hid hrep
    have HG := Lib.hid hG
    clear hread hpl hrep hfit own6 Hor hd hG Hva k11
    go_wp2_with fail
    refine Hrep.out.mono ?_
    rintro e w8 ⟨es8, gs8, rfl, hes8, hgs8, hb8⟩
    obtain ⟨Ae8, ce8, rfl, _, _⟩ := hes8.form
    obtain ⟨Ag8, cg8, rfl, _, _⟩ := hgs8.form
    obtain ⟨wc, g12, g13, hwc, hg12, hg13, hszc, k12a, k13a, hbc⟩ := box2 w8 #[.int .i64 0, .int .i64 0, .int .i64 0, .slice none 0 0, .slice none 0 0] 26 #[.int .i64 0, .int .i64 0] 31
    obtain ⟨wv, w9, hwv, hw9, ⟨m0, m1, m2, m3, m4⟩, ⟨x0, x1, x2, x3, x4, xl⟩, ⟨n0', n1', u0, u1, ul⟩, k12, k13, hbz, _⟩ := land52 k12a k13a (by omega) (.int .i64 b.nu) (.int .i64 b.ns) (.int .i64 b.hz) (.slice Ae8 b.es.length ce8) (.slice Ag8 b.gs.length cg8) (.int .i64 z) (.int .i64 z)
    have hb89 : Below w8.heap.size w8 w9 := hbc.trans (hbz _ (by omega) (by omega))
    have hb9 := below2 hb7 (below2 hb8 hb89)
    have he9 := hes8.ext hb89
    have t0 := (K2.out.ext hb9).cell 0; have t1 := (K2.out.ext hb9).cell 1; have t2 := (K2.out.ext hb9).cell 2; have t3 := (K2.out.ext hb9).cell 3; have t4 := (K2.out.ext hb9).cell 4
    have K12 := Lib.hid k12; have K13 := Lib.hid k13
    have hla := nletters_ok b (.slice Ae b.es.length ce) (.slice Ag b.gs.length cg) w9 (he0.ext hb9) HG.out
    unfold boxV at hla
    have Hla := Lib.hid hla
    obtain ⟨P, hP⟩ : ∃ P, P = Th.parentsF (Mb.lettersB b.es) := ⟨_, rfl⟩
    have hPl : P.length = b.es.length := by rw [hP, Mb.parents_len]
    have hpar := fun W v (h : SlR letterC M0 W v (Mb.lettersB b.es)) => tparents_ok v _ W h
    have hpq : parQ (Mb.lettersB b.es) = (P, z, z) := by unfold parQ; rw [Mb.letters_ok HG.out, Hz9.out, hP]; rfl
    rw [hpq] at hpar
    dsimp only at hpar
    have Hpar := Lib.hid hpar; have HP := Lib.hid hP
    clear hla hpar hpq hP hszc k12a k13a hbc hbz k12 k13 Hrep hb8 hes8 hgs8
    clear r0 r1 s0 s1 sl hw7 hwb2 i0 hdz
    go_wp2_with fail
    refine Hla.out.mono ?_
    rintro e w10 ⟨v10, rfl, own10, hb10⟩
    have Hp10 := Lib.hid (Hpar.out w10 v10 own10.read0)
    clear own10 Hla t0 t1 t2 t3 t4 m0 m1 m2 m3 m4 x0 x1 x2 x3 x4 xl n0' n1' u0 u1 ul hwv hw9 hwc
    go_wp2_with fail
    refine Hp10.out.mono ?_
    rintro e w11 ⟨v11, rfl, hr11, hb11⟩
    obtain ⟨Ap, cp, rfl, hpc, hpm⟩ := hr11.form
    rw [hPl]
    obtain ⟨wd, g15, hwd, hg15, hszd, k15a, hbd1⟩ := box1 w11 #[.int .i64 0, .int .i64 0] 31
    obtain ⟨w12, hw12, ⟨y0, y1⟩, ⟨u0, u1, ul⟩, k15, hT15⟩ := land2 k15a (.int .i64 z) (.int .i64 z)
    have hbe : Below w11.heap.size w11 w12 := hbd1.trans (hT15.rest _ (by omega))
    have hb912 := below2 hb10 (below2 hb11 hbe)
    have hb12 := below2 hb9 hb912
    have hrA := hr11.ext hbe
    have k12' := K12.out.ext hb912
    have m0 := k12'.cell 0; have m1 := k12'.cell 1; have m2 := k12'.cell 2; have m3 := k12'.cell 3; have m4 := k12'.cell 4
    have hlb := nletters_ok b (.slice Ae8 b.es.length ce8) (.slice Ag8 b.gs.length cg8) w12 (he9.ext hb912) HG.out
    unfold boxV at hlb
    have Hlb := Lib.hid hlb; have K15 := Lib.hid k15; have HrA := Lib.hid hrA
    clear hlb hszd k15a hbd1 hT15 k15 k12' hrA hr11 hpc hpm Hp10 hb10 hb11 hbe
    go_wp2_with fail
    refine Hlb.out.mono ?_
    rintro e w13 ⟨v13, rfl, own13, hb13⟩
    have Hp13 := Lib.hid (Hpar.out w13 v13 own13.read0)
    clear own13 Hlb m0 m1 m2 m3 m4 y0 y1 u0 u1 ul hw12 hwd
    go_wp2_with fail
    refine Hp13.out.mono ?_
    rintro e w14 ⟨v14, rfl, hr14, hb14⟩
    obtain ⟨Aq, cq, rfl, hqc, hqm⟩ := hr14.form
    rw [hPl]
    obtain ⟨we, g17, hwe, hg17, hsze, k17a, hbe1⟩ := box1 w14 #[.int .i64 0, .int .i64 0] 31
    obtain ⟨w15, hw15, ⟨y0, y1⟩, ⟨u0, u1, ul⟩, k17, hT17⟩ := land2 k17a (.int .i64 z) (.int .i64 z)
    have hbf : Below w14.heap.size w14 w15 := hbe1.trans (hT17.rest _ (by omega))
    have hb1215 := below2 hb13 (below2 hb14 hbf)
    have hb15 := below2 hb12 hb1215
    have hb915 := below2 hb912 hb1215
    have HrB := Lib.hid (hr14.ext hbf)
    have HrA2 := Lib.hid (HrA.out.ext hb1215)
    have t3 := (K2.out.ext hb15).cell 3
    have i13 := (K13.out.ext hb915).cell 0; have i15 := (K15.out.ext hb1215).cell 0; have i17 := k17.cell 0
    have hble := HG.out.le
    clear hsze k17a hbe1 hT17 k17 hr14 hqc hqm Hp13 hb13 hb14 hbf HrA hb912 hb1215 hb915 he9 K12 K13 K15
    go_wp2_with fail
    go_loopw [18] (fun i wr => ∃ k : Nat, k ≤ b.es.length ∧ i = .int .i64 (k : Int) ∧ Below w15.heap.size w15 wr) (fun i _ => b.es.length - (intOf i).toNat)
    case atStart => exact ⟨0, Nat.zero_le _, rfl, Below.refl _ _⟩
    case round =>
      obtain ⟨k, hk, rfl, hbr⟩ := hrel
      clear t3 i13 i15 i17 y0 y1 u0 u1 ul hw15 hwe
      by_cases hlt : k < b.es.length
      · have hkP : k < P.length := by rw [hPl]; exact hlt
        have hA := (HrA2.out.ext hbr).intAt (by rw [hPl]; exact hlt)
        have hB := (HrB.out.ext hbr).intAt (by rw [hPl]; exact hlt)
        obtain ⟨ba, oa, rfl, _, hba, a0, _, _⟩ := hA
        obtain ⟨bb, ob, rfl, _, hbb, b0, _, _⟩ := hB
        obtain ⟨pv, hpv⟩ : ∃ x, x = P[k] := ⟨_, rfl⟩
        rw [← hpv] at a0 b0
        have hi0 : (0 : Int) ≤ (k : Int) := by omega
        have hi1 : (k : Int) < (b.es.length : Int) := by omega
        have hq1 : IntKind.i64.wrap (k : Int) = (k : Int) := IntWalk.i64_in _ (by omega)
        clear hpv
        go_wp2_with fail
        go_quiet (fail)
        generalize hV : wr.drewN nq = V
        have hbV : Below wr.heap.size wr V := by rw [← hV]; exact below_drewN' _ _ _
        clear hV a0 b0
        go_wp2_with fail
        go_roundw
        case rel => exact ⟨k + 1, by omega, by go_num, hbr.trans (hbV.mono hbr.size)⟩
        case measure => simp [intOf]; omega
      · obtain ⟨wo, rfl⟩ : ∃ W0, W0 = wr := ⟨_, rfl⟩
        have hkn : k = b.es.length := by omega
        subst hkn
        have hbo := below2 hb15 hbr
        obtain ⟨cc, hcc⟩ : ∃ c : Mb.Chg, c = (1, 0, 0, 0, 68719476736, xf, xb) := ⟨_, rfl⟩
        obtain ⟨r, hr⟩ : ∃ r, r = Mb.appF b (1, 0, 0, 0, 68719476736, xf, xb) := ⟨_, rfl⟩
        have hap := Apply_ok M0 b (1, 0, 0, 0, 68719476736, xf, xb) (.slice Ae b.es.length ce) (.slice Ag b.gs.length cg) (.slice Af xf.length cf) (.slice Ab xb.length cb) wo (fun x hx => hx.elim) (he0.ext hbo) (hg0.ext hbo) (hf0.ext hbo) (hbd0.ext hbo) Hgl.out hfl hbl (fun h => absurd rfl h)
        rw [← hr] at hap
        obtain ⟨rbb, r1, r2⟩ := r
        dsimp only at hap
        unfold boxV chgV at hap
        dsimp only at hap
        have Hap := Lib.hid hap; have Hr := Lib.hid hr
        have t0 := (K2.out.ext hbo).cell 0; have t1 := (K2.out.ext hbo).cell 1; have t2 := (K2.out.ext hbo).cell 2; have t3 := (K2.out.ext hbo).cell 3; have t4 := (K2.out.ext hbo).cell 4
        have j0 := (K3.out.ext hbo).cell 0; have j1 := (K3.out.ext hbo).cell 1
        clear hap hr hcc
        go_wp2_with fail
        refine Hap.out.mono ?_
        rintro e w20 ⟨es20, gs20, rfl, oE, oG, hb20⟩
        obtain ⟨A6', c6', rfl, _, _⟩ := oE.shape
        obtain ⟨A7, c7, rfl, _, _⟩ := oG.shape
        have rE := (rows_of (fun x hx => hx.elim) oE oG).1.zero
        obtain ⟨wf, g19, g20, hwf, hg19, hg20, hszf, k19a, k20a, hbf⟩ := box2 w20 #[.int .i64 0, .int .i64 0, .int .i64 0, .slice none 0 0, .slice none 0 0] 26 #[.int .i64 0, .int .i64 0] 31
        obtain ⟨wv, w21, hwv, hw21, ⟨m0, m1, m2, m3, m4⟩, ⟨x0, x1, x2, x3, x4, xl⟩, ⟨n0', n1', u0, u1, ul⟩, k19, k20, hbz, _⟩ := land52 k19a k20a (by omega) (.int .i64 rbb.nu) (.int .i64 rbb.ns) (.int .i64 rbb.hz) (.slice A6' rbb.es.length c6') (.slice A7 rbb.gs.length c7) (.int .i64 r1) (.int .i64 r2)
        have hb2021 : Below w20.heap.size w20 w21 := hbf.trans (hbz _ (by omega) (by omega))
        have hb1521 := below2 hbr (below2 hb20 hb2021)
        have hb21 := below2 hbo (below2 hb20 hb2021)
        have i20 := k20.cell 0
        have q0 := k19.cell 0; have q1 := k19.cell 1; have q2 := k19.cell 2; have q3 := k19.cell 3; have q4 := k19.cell 4
        have hE21 := rE.ext hb2021
        have hfin := below2 Hb0.out hb21
        clear oE oG rE hszf k19a k20a hbf hbz k19 k20 Hap t0 t1 t2 t3 t4 j0 j1
        by_cases hr1 : r1 = 0
        · have hrz : (r1 != 0) = false := by rw [hr1]; rfl
          have hag : Mb.appF b (1, 0, 0, 0, 68719476736, xf, xb) = Mb.applF b (1, 0, 0, 0, 68719476736, xf, xb) := Mb.app_good HG.out
          have h0 : (Mb.applF b (1, 0, 0, 0, 68719476736, xf, xb)).2.1 = 0 := by rw [← hag, ← Hr.out]; exact hr1
          obtain ⟨e1, e2⟩ := Mb.appl_add HG.out rfl h0
          have hrb : rbb = Mb.addC b (1, 0, 0, 0, 68719476736, xf, xb) := by rw [← e1, ← hag, ← Hr.out]
          have hGr : Mb.Good rbb := by rw [hrb]; exact e2
          have hres : rbb.es = b.es ++ [(b.nu, b.ns, 0, 68719476736, xf, xb)] := by rw [hrb]; rfl
          obtain ⟨P2, hP2⟩ : ∃ P2, P2 = Th.parentsF (Mb.lettersB rbb.es) := ⟨_, rfl⟩
          have hP2l : P2.length = b.es.length + 1 := by rw [hP2, Mb.parents_len, hres]; simp
          have happ : ∀ k, k < b.es.length → P2.getD k 0 = P.getD k 0 := fun k hk => by
            rw [hP2, HP.out, hres]
            exact Mb.parents_app HG.out ⟨Int.le_refl _, HG.out.nu.2⟩ hk
          have hlc := nletters_ok rbb (.slice A6' rbb.es.length c6') (.slice A7 rbb.gs.length c7) w21 hE21 hGr
          unfold boxV at hlc
          have hpar := fun W v (h : SlR letterC M0 W v (Mb.lettersB rbb.es)) => tparents_ok v _ W h
          have hpq : parQ (Mb.lettersB rbb.es) = (P2, z, z) := by unfold parQ; rw [Mb.letters_ok hGr, Hz9.out, hP2]; rfl
          rw [hpq] at hpar
          dsimp only at hpar
          have Hlc := Lib.hid hlc; have Hpc := Lib.hid hpar; have Happ := Lib.hid happ
          clear hr1 hag h0 e1 e2 hrb hGr hres hP2 happ hlc hpar hpq Hr
          go_wp2_with fail
          refine Hlc.out.mono ?_
          rintro e w22 ⟨v22, rfl, own22, hb22⟩
          have Hp22 := Lib.hid (Hpc.out w22 v22 own22.read0)
          clear own22 Hlc q0 q1 q2 q3 q4 i20 m0 m1 m2 m3 m4 x0 x1 x2 x3 x4 xl n0' n1' u0 u1 ul hwv hw21 hwf
          go_wp2_with fail
          refine Hp22.out.mono ?_
          rintro e w23 ⟨v23, rfl, hr23, hb23⟩
          obtain ⟨As, cs, rfl, _, _⟩ := hr23.form
          rw [hP2l]
          obtain ⟨wg, g22, hwg, hg22, hszg, k22a, hbg⟩ := box1 w23 #[.int .i64 0, .int .i64 0] 31
          obtain ⟨w24, hw24, ⟨y0, y1⟩, ⟨u0, u1, ul⟩, k22, hT22⟩ := land2 k22a (.int .i64 z) (.int .i64 z)
          have hb2324 : Below w23.heap.size w23 w24 := hbg.trans (hT22.rest _ (by omega))
          have hb2124 := below2 hb22 (below2 hb23 hb2324)
          have HrC := Lib.hid (hr23.ext hb2324)
          have HrA3 := Lib.hid (HrA2.out.ext (below2 hb1521 hb2124))
          have Hfin := Lib.hid (below2 hfin hb2124)
          have i22 := k22.cell 0
          have hw1 : IntKind.i64.wrap ((b.es.length : Int) + 1) = (b.es.length : Int) + 1 := IntWalk.i64_in _ (by omega)
          have hne : (((b.es.length + 1 : Nat) : Int) != (b.es.length : Int) + 1) = false := by simp
          clear hr23 hszg k22a hbg hT22 k22 Hp22 hb2324 hb2124 hfin
          go_wp2_with fail
          go_loopw [23] (fun i wr => ∃ k : Nat, k ≤ b.es.length ∧ i = .int .i64 (k : Int) ∧ Below w24.heap.size w24 wr) (fun i _ => b.es.length - (intOf i).toNat)
          case atStart => exact ⟨0, Nat.zero_le _, rfl, Below.refl _ _⟩
          case round =>
            obtain ⟨k2, hk2, rfl, hbr2⟩ := hrel
            clear i22 y0 y1 u0 u1 ul hw24 hwg
            by_cases hlt2 : k2 < b.es.length
            · have hA := (HrA3.out.ext hbr2).intAt (k := k2) (by rw [hPl]; exact hlt2)
              have hB := (HrC.out.ext hbr2).intAt (k := k2) (by rw [hP2l]; omega)
              have hpe : P2[k2]'(by rw [hP2l]; omega) = P[k2]'(by rw [hPl]; exact hlt2) := by
                have h9 := Happ.out k2 hlt2
                rw [List.getD_eq_getElem?_getD, List.getD_eq_getElem?_getD, List.getElem?_eq_getElem (by rw [hP2l]; omega), List.getElem?_eq_getElem (by rw [hPl]; exact hlt2)] at h9
                exact h9
              obtain ⟨pv, hpv⟩ : ∃ x, x = P[k2]'(by rw [hPl]; exact hlt2) := ⟨_, rfl⟩
              obtain ⟨ba, oa, rfl, _, hba, a0', ha1, ha2⟩ := hA
              obtain ⟨bb, ob, rfl, _, hbb, b0', hb1, hb2⟩ := hB
              have a0 : wr.cell? ⟨ba, oa + k2, none⟩ = some (.int .i64 pv) := by rw [hpv]; exact a0'
              have b0 : wr.cell? ⟨bb, ob + k2, none⟩ = some (.int .i64 pv) := by rw [hpv, ← hpe]; exact b0'
              clear a0' b0' ha1 ha2 hb1 hb2 hpv hpe
              have hi0 : (0 : Int) ≤ (k2 : Int) := by omega
              have hi1 : (k2 : Int) < (b.es.length : Int) := by omega
              have hi2 : (k2 : Int) < ((b.es.length + 1 : Nat) : Int) := by omega
              have hi3 : (k2 : Int) < (b.es.length : Int) + 1 := by omega
              have hq1 : IntKind.i64.wrap (k2 : Int) = (k2 : Int) := IntWalk.i64_in _ (by omega)
              go_wp2_with fail
              go_quiet (fail)
              generalize hV : wr.drewN nq = V
              have hbV : Below wr.heap.size wr V := by rw [← hV]; exact below_drewN' _ _ _
              clear hV a0 b0
              go_wp2_with fail
              go_roundw
              case rel => exact ⟨k2 + 1, by omega, by go_num, hbr2.trans (hbV.mono hbr2.size)⟩
              case measure => simp [intOf]; omega
            · have hli2 : ¬ (k2 : Int) < (b.es.length : Int) := by omega
              have Hf := Lib.hid (below2 Hfin.out hbr2)
              go_wp2_with fail
              go_ret
              exact ⟨rfl, hg2 ▸ Hf.out⟩
        · have hrz : (r1 != 0) = true := by simpa using hr1
          have Hf := Lib.hid hfin
          clear hr1 hfin
          go_wp2_with fail
          go_ret
          exact ⟨rfl, hg2 ▸ Hf.out⟩
  · have hdz : (d1 != 0) = true := by simpa using hd
    have hv : Value.slice A6 n6 c6 = .slice none 0 0 := by
      rcases Hor.out with ⟨h, _⟩ | ⟨_, h, _⟩
      · exact absurd h hd
      · exact h
    injection hv with h1 h2 h3
    subst h1 h2 h3
    have Hv7 := Lib.hid (Hva.out w7 hb7)
    have t0 := (K2.out.ext hb7).cell 0; have t1 := (K2.out.ext hb7).cell 1; have t2 := (K2.out.ext hb7).cell 2; have t3 := (K2.out.ext hb7).cell 3; have t4 := (K2.out.ext hb7).cell 4
    obtain ⟨v1, hv1⟩ : ∃ x, x = (Mb.boxF b).1 := ⟨_, rfl⟩
    rw [← hv1] at Hv7
    clear hd hv1 Hor Hva k11 hb67
    cases hvz : (v1 != 0) with
    | true =>
      go_wp2_with fail
      refine Hv7.out.mono ?_
      rintro e w8 ⟨rfl, hb8⟩
      have hbf := Lib.hid (below2 Hb0.out (below2 hb7 hb8))
      have hrcd := run_codeN v1 (Mb.boxF b).2 w8
      clear t0 t1 t2 t3 t4 r0 r1 s0 s1 sl hw7 hwb2
      go_wp2_with fail
      go_ret
      exact ⟨rfl, hg2 ▸ hbf.out⟩
    | false =>
      go_wp2_with fail
      refine Hv7.out.mono ?_
      rintro e w8 ⟨rfl, hb8⟩
      have hbf := Lib.hid (below2 Hb0.out (below2 hb7 hb8))
      have hrcd := run_codeN v1 (Mb.boxF b).2 w8
      clear t0 t1 t2 t3 t4 r0 r1 s0 s1 sl hw7 hwb2
      go_wp2_with fail
      go_ret
      exact ⟨rfl, hg2 ▸ hbf.out⟩
end Go.Proofs.YtjamjkjmlckgeaaGreatDoor

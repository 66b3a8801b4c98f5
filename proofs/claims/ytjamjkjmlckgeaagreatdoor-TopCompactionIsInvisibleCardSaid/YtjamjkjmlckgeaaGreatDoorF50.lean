/-
  resync.Catch, of a mailbox and a view in order.
-/
import Derived.Test.YtjamjkjmlckgeaaGreatDoorF49
namespace Go.Proofs.YtjamjkjmlckgeaaGreatDoor
open Go.RowKit
set_option linter.unusedVariables false

namespace Mb
theorem upd_good {b : Box} {q : Int} {l : List Seen} (h : Good b) (hv : VGood (q, l)) (hl : l.length ≤ 400) : VGood (updF (q, l) (sinceC b q) (sinceG b q) b.ns) := by
  have h1 := since_known h (seq := q)
  have h2 := (since_len b q).1
  have h3 := h.le
  refine ⟨?_, ⟨by have := h.ns; show 0 ≤ b.ns; omega, h.ns.2⟩, fun s hs => ?_, ?_⟩
  · refine Nat.le_trans (List.length_filter_le _ _) ?_
    have h4 := puts_len (sinceC b q) l
    show ((sinceC b q).foldl putS l).length ≤ 600
    omega
  · have h5 : s ∈ (sinceC b q).foldl putS l := (List.mem_filter.1 hs).1
    have h6 : ∀ (ch l : List Seen), s ∈ ch.foldl putS l → s ∈ l ∨ s ∈ ch := by
      intro ch
      induction ch with
      | nil => intro l h; exact .inl h
      | cons c ch ih =>
        intro l h
        rcases ih _ h with h | h
        · rcases putS_mem h with h | h
          · exact .inl h
          · exact .inr (by rw [h]; exact .head _)
        · exact .inr (.tail _ h)
    exact (h6 _ _ h5).elim (hv.kn s) (h1 s)
  · exact (puts_rising _ _ hv.up).filter _
end Mb
set_option maxRecDepth 100000 in
set_option maxHeartbeats 16000000 in
theorem catch_ok (M : Nat → Prop) (b : Mb.Box) (q : Int) (l : List Mb.Seen) (es gs s : Value) (w : World) (hM : ∀ x, M x → x < w.heap.size) (hes : SlR entC M0 w es b.es) (hgs : SlR gnC M0 w gs b.gs) (hs : SlR gnC M0 w s l) (hG : Mb.Good b) (hv : Mb.VGood (q, l)) (hl4 : l.length ≤ 400) (hqn : q ≤ b.ns) :
    Calls Tryz.prog 14 #[boxV b es gs, .agg #[.int .i64 q, s]] w fun e w' => ∃ v, e = .returned (.tuple #[.agg #[.int .i64 (Mb.catchF b (q, l)).1.1, v], .bool (Mb.catchF b (q, l)).2, .agg #[.int .i64 0, .int .i64 0]]) ∧ SlR gnC M w' v (Mb.catchF b (q, l)).1.2 ∧ Below w.heap.size w w' := by
  have hu := Mb.upd_good hG hv hl4
  have hu0 := Mb.viewErr_good.2 hu
  have hval := fun W h1 h2 => validate_ok b es gs W h1 h2 (fun e he => by have h9 := (Mb.msg_ok (hG.es e he).2.2.2.2).2.2; omega)
  rw [Mb.boxF_pair (Mb.boxF_good.2 hG)] at hval
  have hvv := fun W h1 => vvalidate_ok q l s W h1 hv
  have hsn := fun W h1 h2 => since_ok b q es gs W h1 h2 hG
  have hof := fun (M' : Nat → Prop) W h0 h1 h2 => vof_ok M' b es gs W h0 h1 h2 hG
  have hkn := Mb.since_known hG (seq := q)
  have hcl := (Mb.since_len b q).1
  have hle := hG.le
  have hns := hG.ns
  obtain ⟨Ae, ce, rfl, hec, hem⟩ := hes.form
  obtain ⟨Ag, cg, rfl, hgc, hgm⟩ := hgs.form
  obtain ⟨As, cs, rfl, hsc, hsm⟩ := hs.form
  have hup := fun (M' : Nat → Prop) W cv va h0 h1 h2 h3 => vupdate_ok M' q l (Mb.sinceC b q) (Mb.sinceG b q) b.ns (.slice As l.length cs) cv va W h0 h1 h2 h3 hv hkn (by omega) (by omega) hu
  obtain ⟨z, hz9⟩ : ∃ z : Int, z = 0 := ⟨_, rfl⟩
  dsimp only at hval
  unfold boxV at hval hsn hof ⊢
  rw [← hz9] at hval hvv hof hup
  have hzz : (z != 0) = false := by rw [hz9]; rfl
  have hz0z : (z == 0) = true := by rw [hz9]; rfl
  have Hz9 := Lib.hid hz9
  obtain ⟨wa, g, gv, hwa, hga, hgv, hsza, ka, kv, hba⟩ := box2 w #[.int .i64 b.nu, .int .i64 b.ns, .int .i64 b.hz, .slice Ae b.es.length ce, .slice Ag b.gs.length cg] 26 #[.int .i64 q, .slice As l.length cs] 40
  obtain ⟨w0, g2, g3, hw0, hg2, hg3, hsz0, k2, k3, hbb⟩ := box2 wa #[.int .i64 0, .slice none 0 0] 40 #[.int .i64 0, .int .i64 0] 31
  have hb0 := below2 hba hbb
  have hgl2 : w.heap.size ≤ g2 := by omega
  have hgl3 : w.heap.size ≤ g3 := by omega
  have hgu2 : g2 < w0.heap.size := by omega
  have hgu3 : g3 < w0.heap.size := by omega
  have hne : g2 ≠ g3 := by omega
  have hz0 := hb0.size
  have ka0 := ka.ext hbb; have kv0 := kv.ext hbb
  have he0 := hes.ext hb0; have hg0 := hgs.ext hb0; have hs0 := hs.ext hb0
  have HM := Lib.hid hM; have Hu0 := Lib.hid hu0
  have Hval := Lib.hid (hval w0 he0 hg0)
  have Hvv := Lib.hid hvv; have Hsn := Lib.hid hsn; have Hof := Lib.hid hof; have Hup := Lib.hid hup
  have c0 := ka0.cell 0; have c1 := ka0.cell 1; have c2 := ka0.cell 2; have c3 := ka0.cell 3; have c4 := ka0.cell 4
  have hqn' : ¬ b.ns < q := by omega
  clear hval hvv hsn hof hup hes hgs hs hsza hsz0 hM hu hu0 hkn hz9 hv ka kv hba hbb
  obtain ⟨M', hM'⟩ : ∃ M' : Nat → Prop, M' = fun x => M x ∨ x = g2 ∨ x = g3 := ⟨_, rfl⟩
  have hM'l : ∀ x, M' x → x < w0.heap.size := fun x hx => by
    rw [hM'] at hx
    rcases hx with hx | hx | hx
    · have := HM.out x hx; omega
    · omega
    · omega
  have hM2 : M' g2 := by rw [hM']; exact .inr (.inl rfl)
  have hM3 : M' g3 := by rw [hM']; exact .inr (.inr rfl)
  have hMs : ∀ x, M x → M' x := fun x hx => by rw [hM']; exact .inl hx
  clear hM'
  go_enter Tryz.func14, Tryz.ntmps14
  go_wp2_with fail
  refine Hval.out.mono ?_
  rintro e w1 ⟨rfl, hb1⟩
  refine Hid.out ?_
  refine Lib.hid ?_
  obtain ⟨w2, g4, hw2, hg4, hsz2, k4, hb2⟩ := box1 w1 #[.int .i64 z, .int .i64 z] 31
  have hb02 := below2 hb1 hb2
  obtain ⟨p0, p1, _, _, _⟩ := k4.two
  clear k4 hsz2 c0 c1 c2 c3 c4 Hval
  go_wp2_with fail
  refine (failed_ok z z w2).mono ?_
  rintro e w3 ⟨rfl, hb3⟩
  have hb03 := below2 hb02 hb3
  have hz3 := hb03.size
  have kv3 := kv0.ext hb03
  have d0 := kv3.cell 0; have d1 := kv3.cell 1
  have Hv2 := Lib.hid (Hvv.out w3 (hs0.ext hb03))
  clear p0 p1 hw2 hwa hw0 Hvv
  refine Hid.out ?_
  refine Lib.hid ?_
  go_wp2_with fail
  refine Hv2.out.mono ?_
  rintro e w4 ⟨rfl, hb4⟩
  obtain ⟨w5, g5, hw5, hg5, hsz5, k5, hb5⟩ := box1 w4 #[.int .i64 z, .int .i64 z] 31
  have hb05 := below2 hb03 (below2 hb4 hb5)
  obtain ⟨p0, p1, _, _, _⟩ := k5.two
  clear k5 hsz5 Hv2 d0 d1
  refine Hid.out ?_
  refine Lib.hid ?_
  go_wp2_with fail
  refine (failed_ok z z w5).mono ?_
  rintro e w6 ⟨rfl, hb6⟩
  have hb06 := below2 hb05 hb6
  have hz6 := hb06.size
  have kv6 := kv0.ext hb06; have ka6 := ka0.ext hb06
  have d0 := kv6.cell 0; have d1 := kv6.cell 1
  have c0 := ka6.cell 0; have c1 := ka6.cell 1; have c2 := ka6.cell 2; have c3 := ka6.cell 3; have c4 := ka6.cell 4
  have he6 := he0.ext hb06; have hg6 := hg0.ext hb06; have hs6 := hs0.ext hb06
  clear p0 p1 hw5 hb1 hb2 hb3 hb4 hb5 hb02 hb03 hb05 kv3 hz3 he0 hg0 hs0
  refine Hid.out ?_
  refine Lib.hid ?_
  by_cases hh : b.hz < q
  · have HC := Lib.hid (show Mb.catchF b (q, l) = (Mb.updF (q, l) (Mb.sinceC b q) (Mb.sinceG b q) b.ns, false) by unfold Mb.catchF; rw [if_pos ⟨hh, Hu0.out⟩])
    obtain ⟨U, hU⟩ : ∃ U, U = Mb.updF (q, l) (Mb.sinceC b q) (Mb.sinceG b q) b.ns := ⟨_, rfl⟩
    have hU1 : U.1 = b.ns := by rw [hU]; rfl
    rw [← hU] at HC Hup
    obtain ⟨sqU, LU⟩ := U
    have hU1 : sqU = b.ns := hU1
    subst hU1
    dsimp only at HC Hup
    have Hs := Lib.hid (Hsn.out w6 he6 hg6)
    clear Hsn hU Hof Hu0
    go_wp2_with fail
    refine Hs.out.mono ?_
    rintro e w7 ⟨u7, v7, rfl, hu7, hv7, hb7⟩
    obtain ⟨Au, cu, rfl, _, _⟩ := hu7.form
    obtain ⟨Aw, cw, rfl, _, _⟩ := hv7.form
    have hb07 := below2 hb06 hb7
    have kv7 := kv6.ext hb7; have ka7 := ka6.ext hb7
    have d0 := kv7.cell 0; have d1 := kv7.cell 1; have c1 := ka7.cell 1
    have Hc := Lib.hid (Hup.out M' w7 _ _ (fun x hx => by have := hM'l x hx; have := hb07.size; omega) (hs6.ext hb7) hu7 hv7)
    clear Hs Hup c0 c2 c3 c4 hu7 hv7
    go_wp2_with fail
    refine Hc.out.mono ?_
    rintro e w8 ⟨v8, rfl, hr8, hb8⟩
    obtain ⟨A8, c8, rfl, _, _⟩ := hr8.form
    obtain ⟨wy, gy, gf, hwy, hgy, hgf, hszy, ky, kf, hby⟩ := box2 w8 #[.int .i64 0, .slice none 0 0] 40 #[.int .i64 0, .int .i64 0] 31
    obtain ⟨Wv0, wz, hWv0, hwz, ⟨r0, r1⟩, ⟨s0, s1, sl⟩, ⟨t0, t1, t2, t3, tl⟩, kvz, kfz, hbyz, _⟩ := land22 ky kf (by omega) (.int .i64 b.ns) (.slice A8 LU.length c8) (.int .i64 z) (.int .i64 z)
    have hb8z : Below w8.heap.size w8 wz := hby.trans (hbyz _ (by omega) (by omega))
    have hb0z := below2 hb07 (below2 hb8 hb8z)
    have hgyz : w0.heap.size ≤ w8.heap.size := (below2 hb07 hb8).size
    have hrz := hr8.ext hb8z
    have kz0 := kfz.cell 0; have kz1 := kfz.cell 1
    clear ky kf hby hbyz hszy hr8 Hc d0 d1 c1
    have HS := Lib.hid (show ∀ W, Below wz.heap.size wz W → W.cell? ⟨gy, 0, none⟩ = some (.int .i64 b.ns) ∧ W.cell? ⟨gy, 1, none⟩ = some (.slice A8 LU.length c8) ∧ W.cell? ⟨gf, 0, none⟩ = some (.int .i64 z) ∧ W.cell? ⟨gf, 1, none⟩ = some (.int .i64 z) from fun W hW => ⟨(kvz.ext hW).cell 0, (kvz.ext hW).cell 1, (kfz.ext hW).cell 0, (kfz.ext hW).cell 1⟩)
    have Hkz := Lib.hid (And.intro kvz kfz)
    go_wp2_with fail
    clear kvz kfz kz0 kz1 r0 r1 s0 s1 sl t0 t1 t2 t3 tl hWv0 hwz hwy
    refine wp_region_D (fun W => W.cell? ⟨gy, 0, none⟩ = some (.int .i64 b.ns) ∧ W.cell? ⟨gy, 1, none⟩ = some (.slice A8 LU.length c8) ∧ W.cell? ⟨gf, 0, none⟩ = some (.int .i64 z) ∧ W.cell? ⟨gf, 1, none⟩ = some (.int .i64 z)) (fun j => j == 4) (by kernel_rfl) ?_
    change anyD _ _ _ _ _ _ _ _ _ (wz.drewN 1)
    have hbV := below_drewN' wz.heap.size wz 1
    generalize wz.drewN 1 = V0 at hbV ⊢
    have hS := HS.out V0 hbV
    (refine anyD_light (i := 0) (v := ?_) rfl (by kernel_rfl) (by kernel_rfl) (by kernel_rfl) (by kernel_rfl) (by kernel_rfl) (fun _ _ _ h => h) (.inl ⟨by kernel_rfl, fun W9 hW9 => ?_⟩) hS ?_; rotate_left; · (obtain ⟨hw0, hw1, hw2, hw3⟩ := hW9; go_simp; rfl))
    (refine anyD_light (i := 1) (v := ?_) rfl (by kernel_rfl) (by kernel_rfl) (by kernel_rfl) (by kernel_rfl) (by kernel_rfl) (fun _ _ _ h => h) (.inl ⟨by kernel_rfl, fun W9 hW9 => ?_⟩) hS ?_; rotate_left; · (obtain ⟨hw0, hw1, hw2, hw3⟩ := hW9; go_simp; rfl))
    go_simp
    refine anyD_one (i := 2) (by kernel_rfl) rfl rfl (fun K hK => ?_)
    have HK := Lib.hid hK
    clear hK
    have hbR := below2 hb0z hbV
    have h2 := hrz.ext hbV
    obtain ⟨Wv, Wz, hWv, hWz, ⟨m0, m1⟩, ⟨x0, x1, xl⟩, ⟨n0, n1, u0, u1, ul⟩, k4z, k5z, hbz, hT1, hT2⟩ := land22 (k2.ext hbR) (k3.ext hbR) hne (.int .i64 b.ns) (.slice A8 LU.length c8) (.int .i64 z) (.int .i64 z)
    have z0 := k4z.cell 0; have z1 := k4z.cell 1; have y0 := k5z.cell 0; have y1 := k5z.cell 1
    have Hfin := Lib.hid (And.intro h2 (And.intro hbz (And.intro hT1 hT2)))
    have kvV := (Hkz.out.1.ext hbV).turned hT1 (show gy ≠ g2 by omega); have kfV := (Hkz.out.2.ext hbV).turned hT1 (show gf ≠ g2 by omega)
    have hS2 : Wv.cell? ⟨gy, 0, none⟩ = some (.int .i64 b.ns) ∧ Wv.cell? ⟨gy, 1, none⟩ = some (.slice A8 LU.length c8) ∧ Wv.cell? ⟨gf, 0, none⟩ = some (.int .i64 z) ∧ Wv.cell? ⟨gf, 1, none⟩ = some (.int .i64 z) := ⟨kvV.cell 0, kvV.cell 1, kfV.cell 0, kfV.cell 1⟩
    clear k4z k5z hbz hT1 hT2 hS h2 hrz kvV kfV
    unfold Oper.wp
    go_simp
    have hS := hS2
    refine HK.out _ _ (fun _ => hS) ?_
    clear HK
    (refine anyD_light (i := 3) (v := ?_) rfl (by kernel_rfl) (by kernel_rfl) (by kernel_rfl) (by kernel_rfl) (by kernel_rfl) (fun _ _ _ h => h) (.inl ⟨by kernel_rfl, fun W9 hW9 => ?_⟩) hS ?_; rotate_left; · (obtain ⟨hw0, hw1, hw2, hw3⟩ := hW9; go_simp; rfl))
    go_simp
    refine anyD_one (i := 4) (by kernel_rfl) rfl rfl (fun K hK => ?_)
    have HK := Lib.hid hK
    clear hK
    unfold Oper.wp
    go_simp
    refine HK.out _ _ (fun h => by cases h) ?_
    clear HK
    go_simp
    refine anyD_done (by kernel_rfl) ?_ _
    go_wp2_with fail
    obtain ⟨h2, hbz, hT1, hT2⟩ := Hfin.out
    refine bodyPost_ret (v := .tuple #[.agg #[.int .i64 b.ns, .slice A8 LU.length c8], .bool false, .agg #[.int .i64 z, .int .i64 z]]) (by simp [results, Tryz.results14, go_sem, z0, z1, y0, y1]) rfl ⟨_, by rw [HC.out, Hz9.out], ?_, ?_⟩
    · rw [HC.out]
      exact ((h2.turned hT1 hM2).turned hT2 hM3).sub fun x _ hx => hMs x hx
    · exact (below2 hb0 hbR).trans (hbz _ (by omega) (by omega))
  · have HC := Lib.hid (show Mb.catchF b (q, l) = ((b.ns, Mb.allV b), true) by unfold Mb.catchF; rw [if_neg fun h => hh h.1])
    have Hc := Lib.hid (Hof.out M' w6 (fun x hx => by have := hM'l x hx; omega) he6 hg6)
    clear Hsn Hof Hup Hu0
    go_wp2_with fail
    refine Hc.out.mono ?_
    rintro e w8 ⟨v8, rfl, hr8, hb8⟩
    obtain ⟨A8, c8, rfl, _, _⟩ := hr8.form
    obtain ⟨LU, hLU⟩ : ∃ x, x = Mb.allV b := ⟨_, rfl⟩
    rw [← hLU] at hr8 HC ⊢
    obtain ⟨wy, gy, gf, hwy, hgy, hgf, hszy, ky, kf, hby⟩ := box2 w8 #[.int .i64 0, .slice none 0 0] 40 #[.int .i64 0, .int .i64 0] 31
    obtain ⟨Wv0, wz, hWv0, hwz, ⟨r0, r1⟩, ⟨s0, s1, sl⟩, ⟨t0, t1, t2, t3, tl⟩, kvz, kfz, hbyz, _⟩ := land22 ky kf (by omega) (.int .i64 b.ns) (.slice A8 LU.length c8) (.int .i64 z) (.int .i64 z)
    have hb8z : Below w8.heap.size w8 wz := hby.trans (hbyz _ (by omega) (by omega))
    have hb0z := below2 hb06 (below2 hb8 hb8z)
    have hgyz : w0.heap.size ≤ w8.heap.size := (below2 hb06 hb8).size
    have hrz := hr8.ext hb8z
    clear ky kf hby hbyz hszy hr8 Hc d0 d1 c0 c1 c2 c3 c4 hLU
    have HS := Lib.hid (show ∀ W, Below wz.heap.size wz W → W.cell? ⟨gy, 0, none⟩ = some (.int .i64 b.ns) ∧ W.cell? ⟨gy, 1, none⟩ = some (.slice A8 LU.length c8) ∧ W.cell? ⟨gf, 0, none⟩ = some (.int .i64 z) ∧ W.cell? ⟨gf, 1, none⟩ = some (.int .i64 z) from fun W hW => ⟨(kvz.ext hW).cell 0, (kvz.ext hW).cell 1, (kfz.ext hW).cell 0, (kfz.ext hW).cell 1⟩)
    have Hkz := Lib.hid (And.intro kvz kfz)
    go_wp2_with fail
    clear kvz kfz r0 r1 s0 s1 sl t0 t1 t2 t3 tl hWv0 hwz hwy
    refine wp_region_D (fun W => W.cell? ⟨gy, 0, none⟩ = some (.int .i64 b.ns) ∧ W.cell? ⟨gy, 1, none⟩ = some (.slice A8 LU.length c8) ∧ W.cell? ⟨gf, 0, none⟩ = some (.int .i64 z) ∧ W.cell? ⟨gf, 1, none⟩ = some (.int .i64 z)) (fun j => j == 4) (by kernel_rfl) ?_
    change anyD _ _ _ _ _ _ _ _ _ (wz.drewN 1)
    have hbV := below_drewN' wz.heap.size wz 1
    generalize wz.drewN 1 = V0 at hbV ⊢
    have hS := HS.out V0 hbV
    (refine anyD_light (i := 0) (v := ?_) rfl (by kernel_rfl) (by kernel_rfl) (by kernel_rfl) (by kernel_rfl) (by kernel_rfl) (fun _ _ _ h => h) (.inl ⟨by kernel_rfl, fun W9 hW9 => ?_⟩) hS ?_; rotate_left; · (obtain ⟨hw0, hw1, hw2, hw3⟩ := hW9; go_simp; rfl))
    (refine anyD_light (i := 1) (v := ?_) rfl (by kernel_rfl) (by kernel_rfl) (by kernel_rfl) (by kernel_rfl) (by kernel_rfl) (fun _ _ _ h => h) (.inl ⟨by kernel_rfl, fun W9 hW9 => ?_⟩) hS ?_; rotate_left; · (obtain ⟨hw0, hw1, hw2, hw3⟩ := hW9; go_simp; rfl))
    go_simp
    refine anyD_one (i := 2) (by kernel_rfl) rfl rfl (fun K hK => ?_)
    have HK := Lib.hid hK
    clear hK
    have hbR := below2 hb0z hbV
    have h2 := hrz.ext hbV
    obtain ⟨Wv, Wz, hWv, hWz, ⟨m0, m1⟩, ⟨x0, x1, xl⟩, ⟨n0, n1, u0, u1, ul⟩, k4z, k5z, hbz, hT1, hT2⟩ := land22 (k2.ext hbR) (k3.ext hbR) hne (.int .i64 b.ns) (.slice A8 LU.length c8) (.int .i64 z) (.int .i64 z)
    have z0 := k4z.cell 0; have z1 := k4z.cell 1; have y0 := k5z.cell 0; have y1 := k5z.cell 1
    have Hfin := Lib.hid (And.intro h2 (And.intro hbz (And.intro hT1 hT2)))
    have kvV := (Hkz.out.1.ext hbV).turned hT1 (show gy ≠ g2 by omega); have kfV := (Hkz.out.2.ext hbV).turned hT1 (show gf ≠ g2 by omega)
    have hS2 : Wv.cell? ⟨gy, 0, none⟩ = some (.int .i64 b.ns) ∧ Wv.cell? ⟨gy, 1, none⟩ = some (.slice A8 LU.length c8) ∧ Wv.cell? ⟨gf, 0, none⟩ = some (.int .i64 z) ∧ Wv.cell? ⟨gf, 1, none⟩ = some (.int .i64 z) := ⟨kvV.cell 0, kvV.cell 1, kfV.cell 0, kfV.cell 1⟩
    clear k4z k5z hbz hT1 hT2 hS h2 hrz kvV kfV
    unfold Oper.wp
    go_simp
    have hS := hS2
    refine HK.out _ _ (fun _ => hS) ?_
    clear HK
    (refine anyD_light (i := 3) (v := ?_) rfl (by kernel_rfl) (by kernel_rfl) (by kernel_rfl) (by kernel_rfl) (by kernel_rfl) (fun _ _ _ h => h) (.inl ⟨by kernel_rfl, fun W9 hW9 => ?_⟩) hS ?_; rotate_left; · (obtain ⟨hw0, hw1, hw2, hw3⟩ := hW9; go_simp; rfl))
    go_simp
    refine anyD_one (i := 4) (by kernel_rfl) rfl rfl (fun K hK => ?_)
    have HK := Lib.hid hK
    clear hK
    unfold Oper.wp
    go_simp
    refine HK.out _ _ (fun h => by cases h) ?_
    clear HK
    go_simp
    refine anyD_done (by kernel_rfl) ?_ _
    go_wp2_with fail
    obtain ⟨h2, hbz, hT1, hT2⟩ := Hfin.out
    refine bodyPost_ret (v := .tuple #[.agg #[.int .i64 b.ns, .slice A8 LU.length c8], .bool true, .agg #[.int .i64 z, .int .i64 z]]) (by simp [results, Tryz.results14, go_sem, z0, z1, y0, y1]) rfl ⟨_, by rw [HC.out, Hz9.out], ?_, ?_⟩
    · rw [HC.out]
      exact ((h2.turned hT1 hM2).turned hT2 hM3).sub fun x _ hx => hMs x hx
    · exact (below2 hb0 hbR).trans (hbz _ (by omega) (by omega))
end Go.Proofs.YtjamjkjmlckgeaaGreatDoor

/-
  IndexMatchesSpec: the law's walk where the index is valid.
-/
import Derived.Test.YtfjpedgddgbelaaGreatDoorIxL4
import Derived.Test.YtfjpedgddgbelaaGreatDoorG7
import Derived.Test.YtfjpedgddgbelaaGreatDoorIxLp
namespace Go.Proofs.YtfjpedgddgbelaaGreatDoor
open Go.RowKit
set_option linter.unusedVariables false
set_option maxRecDepth 100000 in
set_option maxHeartbeats 4000000 in
theorem imatch_goodB (a b : Value) (x : Ix.Idx) (id : Int) (text word : Str) (w : World) (hx0 : SlR intC M0 w a x.1) (hx1 : SlR termC M0 w b x.2) (hsz : SzIx x.2) (hT : TabsU w) (hgood : (Ix.indexF x).1 = 0) (hwd : 8000 < word.length) :
    Calls Tryz.prog 3 #[.agg #[a, b], .int .i64 id, .string (bs text), .string (bs word)] w fun e w' => e = .returned (.bool true) ∧ Below w.heap.size w w' := by
  have hbw := Below.refl w.heap.size w
  obtain ⟨A0, c0, rfl, _, _⟩ := hx0.form
  obtain ⟨A1, c1, rfl, _, _⟩ := hx1.form
  have Hwd := Lib.hid hwd; clear hwd
  obtain ⟨za, zb, hza, hzb, hz0⟩ : ∃ za zb : Int, za = 0 ∧ zb = 0 ∧ (za == 0) = true := ⟨0, 0, rfl, rfl, rfl⟩
  have hWf : Ix.indexF x = (za, zb) := by rw [hza, hzb]; exact Ix.indexF_zero2 hgood
  have Hz := Lib.hid (show (za, zb) = ((0 : Int), (0 : Int)) by rw [hza, hzb])
  clear hza hzb
  have hcan := (Ix.indexF_zero x).1 hgood
  have hng : ¬ (Ix.indexF x).1 ≠ 0 := fun h => h hgood
  obtain ⟨⟨⟨ai, at_⟩, p1, q1⟩, hA⟩ : ∃ r, Ix.addR x id text = r := ⟨_, rfl⟩
  obtain ⟨⟨⟨ri, rt_⟩, p2, q2⟩, hR⟩ : ∃ r, Ix.removeR x id = r := ⟨_, rfl⟩
  obtain ⟨⟨fl, p3, q3⟩, hFd⟩ : ∃ r, Ix.findR x word = r := ⟨_, rfl⟩
  have e1 := Ix.f1_eq x id text
  have e2 := Ix.f2_eq x id
  have e3 := Ix.f3_eq x word
  rw [hA] at e1
  rw [hR] at e2
  rw [hFd] at e3
  unfold Ix.f1F at e1
  unfold Ix.f2F at e2
  unfold Ix.f3F at e3
  rw [if_neg hng] at e1 e2 e3
  dsimp only at e1 e2 e3
  have H1 := Lib.hid e1; have H2 := Lib.hid e2; have H3 := Lib.hid e3; have Hcan := Lib.hid hcan
  have HA := Lib.hid hA; have HR := Lib.hid hR; have HFd := Lib.hid hFd; have HWf := Lib.hid hWf
  clear hA hR hFd hWf e1 e2 e3 hng hcan hgood
  obtain ⟨W0, g0, hW1, hg1, hs1, kx, hal1⟩ := box1 w #[.slice A0 x.1.length c0, .slice A1 x.2.length c1] 25
  replace hx0 := hx0.ext hal1
  replace hx1 := hx1.ext hal1
  replace hT := hT.ext hal1
  replace hbw := hbw.trans (hal1.mono hbw.size)
  clear hal1
  have HW1 := Lib.hid hW1; have Hs1 := Lib.hid hs1
  have Hhg1 := Lib.hid hg1
  clear hW1 hs1 hg1
  have hc := add_ok (.slice A0 x.1.length c0) (.slice A1 x.2.length c1) x.1 x.2 id text W0 hx0 hx1 hsz hT
  unfold AddAt at hc
  rw [show Ix.addR (x.1, x.2) id text = _ from HA.out] at hc
  obtain ⟨kx0, kx1, kx2, kx3, _⟩ := kx.two
  try rw [← HW1.out] at kx0; try rw [← Hhg1.out] at kx0
  try rw [← HW1.out] at kx1; try rw [← Hhg1.out] at kx1
  try rw [← HW1.out] at kx2; try rw [← Hhg1.out] at kx2
  try rw [← HW1.out] at kx3; try rw [← Hhg1.out] at kx3
  go_enter Tryz.func3, Tryz.ntmps3
  go_wp2_with fail
  rw [HW1.out]
  try rw [Hhg1.out]
  try rw [← Hs1.out]
  clear kx0 kx1 kx2 kx3
  refine (hc).mono ?_
  rintro e w1 ⟨a1, b1, rfl, ha0, ha1, hq2⟩
  clear hc
  dsimp only at ha0 ha1 ⊢
  obtain ⟨A2, c2, rfl, _, _⟩ := ha0.form
  obtain ⟨A3, c3, rfl, _, _⟩ := ha1.form
  replace hx0 := hx0.ext hq2
  replace hx1 := hx1.ext hq2
  replace hT := hT.ext hq2
  replace kx := kx.ext hq2
  replace hbw := hbw.trans (hq2.mono hbw.size)
  clear hq2
  obtain ⟨W1, g1, g2, hW3, hg3, hh3, hs3, ka, ea, hal3⟩ := box2 w1 #[.slice A2 ai.length c2, .slice A3 at_.length c3] 25 #[.int .i64 p1, .int .i64 q1] 27
  replace hx0 := hx0.ext hal3
  replace hx1 := hx1.ext hal3
  replace hT := hT.ext hal3
  replace kx := kx.ext hal3
  replace ha0 := ha0.ext hal3
  replace ha1 := ha1.ext hal3
  replace hbw := hbw.trans (hal3.mono hbw.size)
  clear hal3
  have HW3 := Lib.hid hW3; have Hs3 := Lib.hid hs3
  have Hhg3 := Lib.hid hg3
  have Hhh3 := Lib.hid hh3
  clear hW3 hs3 hg3 hh3
  have hc := remove_ok (.slice A0 x.1.length c0) (.slice A1 x.2.length c1) x.1 x.2 id W1 hx0 hx1 hsz
  unfold RemAt at hc
  rw [show Ix.removeR (x.1, x.2) id = _ from HR.out] at hc
  obtain ⟨kx0, kx1, kx2, kx3, _⟩ := kx.two
  try rw [← HW3.out] at kx0; try rw [← Hhh3.out] at kx0; try rw [← Hhg3.out] at kx0
  try rw [← HW3.out] at kx1; try rw [← Hhh3.out] at kx1; try rw [← Hhg3.out] at kx1
  try rw [← HW3.out] at kx2; try rw [← Hhh3.out] at kx2; try rw [← Hhg3.out] at kx2
  try rw [← HW3.out] at kx3; try rw [← Hhh3.out] at kx3; try rw [← Hhg3.out] at kx3
  go_wp2_with fail
  rw [HW3.out]
  try rw [Hhg3.out]
  try rw [Hhh3.out]
  try rw [← Hs3.out]
  clear kx0 kx1 kx2 kx3
  refine (hc).mono ?_
  rintro e w2 ⟨a2, b2, rfl, hr0, hr1, hq4⟩
  clear hc
  dsimp only at hr0 hr1 ⊢
  obtain ⟨A4, c4, rfl, _, _⟩ := hr0.form
  obtain ⟨A5, c5, rfl, _, _⟩ := hr1.form
  replace hx0 := hx0.ext hq4
  replace hx1 := hx1.ext hq4
  replace hT := hT.ext hq4
  replace kx := kx.ext hq4
  replace ha0 := ha0.ext hq4
  replace ha1 := ha1.ext hq4
  replace ka := ka.ext hq4
  replace ea := ea.ext hq4
  replace hbw := hbw.trans (hq4.mono hbw.size)
  clear hq4
  obtain ⟨W2, g3, g4, hW5, hg5, hh5, hs5, kr, er, hal5⟩ := box2 w2 #[.slice A4 ri.length c4, .slice A5 rt_.length c5] 25 #[.int .i64 p2, .int .i64 q2] 27
  replace hx0 := hx0.ext hal5
  replace hx1 := hx1.ext hal5
  replace hT := hT.ext hal5
  replace kx := kx.ext hal5
  replace ha0 := ha0.ext hal5
  replace ha1 := ha1.ext hal5
  replace ka := ka.ext hal5
  replace ea := ea.ext hal5
  replace hr0 := hr0.ext hal5
  replace hr1 := hr1.ext hal5
  replace hbw := hbw.trans (hal5.mono hbw.size)
  clear hal5
  have HW5 := Lib.hid hW5; have Hs5 := Lib.hid hs5
  have Hhg5 := Lib.hid hg5
  have Hhh5 := Lib.hid hh5
  clear hW5 hs5 hg5 hh5
  have hc := indexFind_ok (.slice A0 x.1.length c0) (.slice A1 x.2.length c1) x.1 x.2 word W2 hx0 hx1 hsz hT
  unfold FindAt at hc
  rw [show Ix.findR (x.1, x.2) word = _ from HFd.out] at hc
  obtain ⟨kx0, kx1, kx2, kx3, _⟩ := kx.two
  try rw [← HW5.out] at kx0; try rw [← Hhh5.out] at kx0; try rw [← Hhg5.out] at kx0
  try rw [← HW5.out] at kx1; try rw [← Hhh5.out] at kx1; try rw [← Hhg5.out] at kx1
  try rw [← HW5.out] at kx2; try rw [← Hhh5.out] at kx2; try rw [← Hhg5.out] at kx2
  try rw [← HW5.out] at kx3; try rw [← Hhh5.out] at kx3; try rw [← Hhg5.out] at kx3
  go_wp2_with fail
  rw [HW5.out]
  try rw [Hhg5.out]
  try rw [Hhh5.out]
  try rw [← Hs5.out]
  clear kx0 kx1 kx2 kx3
  refine (hc).mono ?_
  rintro e w3 ⟨l3, rfl, hf0, hq6⟩
  clear hc
  dsimp only at hf0 ⊢
  obtain ⟨A6, c6, rfl, _, _⟩ := hf0.form
  replace hx0 := hx0.ext hq6
  replace hx1 := hx1.ext hq6
  replace hT := hT.ext hq6
  replace kx := kx.ext hq6
  replace ha0 := ha0.ext hq6
  replace ha1 := ha1.ext hq6
  replace ka := ka.ext hq6
  replace ea := ea.ext hq6
  replace hr0 := hr0.ext hq6
  replace hr1 := hr1.ext hq6
  replace kr := kr.ext hq6
  replace er := er.ext hq6
  replace hbw := hbw.trans (hq6.mono hbw.size)
  clear hq6
  obtain ⟨W3, g5, hW7, hg7, hs7, ef, hal7⟩ := box1 w3 #[.int .i64 p3, .int .i64 q3] 27
  replace hx0 := hx0.ext hal7
  replace hx1 := hx1.ext hal7
  replace hT := hT.ext hal7
  replace kx := kx.ext hal7
  replace ha0 := ha0.ext hal7
  replace ha1 := ha1.ext hal7
  replace ka := ka.ext hal7
  replace ea := ea.ext hal7
  replace hr0 := hr0.ext hal7
  replace hr1 := hr1.ext hal7
  replace kr := kr.ext hal7
  replace er := er.ext hal7
  replace hf0 := hf0.ext hal7
  replace hbw := hbw.trans (hal7.mono hbw.size)
  clear hal7
  have HW7 := Lib.hid hW7; have Hs7 := Lib.hid hs7
  have Hhg7 := Lib.hid hg7
  clear hW7 hs7 hg7
  have hc := indexFault_ok (.slice A0 x.1.length c0) (.slice A1 x.2.length c1) x.1 x.2 W3 hx0 hx1 hsz
  rw [show Ix.indexF (x.1, x.2) = _ from HWf.out] at hc
  obtain ⟨kx0, kx1, kx2, kx3, _⟩ := kx.two
  try rw [← HW7.out] at kx0; try rw [← Hhg7.out] at kx0
  try rw [← HW7.out] at kx1; try rw [← Hhg7.out] at kx1
  try rw [← HW7.out] at kx2; try rw [← Hhg7.out] at kx2
  try rw [← HW7.out] at kx3; try rw [← Hhg7.out] at kx3
  go_wp2_with fail
  rw [HW7.out]
  try rw [Hhg7.out]
  try rw [← Hs7.out]
  clear kx0 kx1 kx2 kx3
  refine (hc).mono ?_
  rintro e w4 ⟨rfl, hq8⟩
  clear hc
  dsimp only
  replace hx0 := hx0.ext hq8
  replace hx1 := hx1.ext hq8
  replace hT := hT.ext hq8
  replace kx := kx.ext hq8
  replace ha0 := ha0.ext hq8
  replace ha1 := ha1.ext hq8
  replace ka := ka.ext hq8
  replace ea := ea.ext hq8
  replace hr0 := hr0.ext hq8
  replace hr1 := hr1.ext hq8
  replace kr := kr.ext hq8
  replace er := er.ext hq8
  replace hf0 := hf0.ext hq8
  replace ef := ef.ext hq8
  replace hbw := hbw.trans (hq8.mono hbw.size)
  clear hq8
  obtain ⟨W4, g6, hW9, hg9, hs9, ew, hal9⟩ := box1 w4 #[.int .i64 za, .int .i64 zb] 27
  replace hx0 := hx0.ext hal9
  replace hx1 := hx1.ext hal9
  replace hT := hT.ext hal9
  replace kx := kx.ext hal9
  replace ha0 := ha0.ext hal9
  replace ha1 := ha1.ext hal9
  replace ka := ka.ext hal9
  replace ea := ea.ext hal9
  replace hr0 := hr0.ext hal9
  replace hr1 := hr1.ext hal9
  replace kr := kr.ext hal9
  replace er := er.ext hal9
  replace hf0 := hf0.ext hal9
  replace ef := ef.ext hal9
  replace hbw := hbw.trans (hal9.mono hbw.size)
  clear hal9
  have HW9 := Lib.hid hW9; have Hs9 := Lib.hid hs9
  have Hhg9 := Lib.hid hg9
  clear hW9 hs9 hg9
  obtain ⟨kx0, kx1, kx2, kx3, _⟩ := kx.two
  try rw [← HW9.out] at kx0; try rw [← Hhg9.out] at kx0
  try rw [← HW9.out] at kx1; try rw [← Hhg9.out] at kx1
  try rw [← HW9.out] at kx2; try rw [← Hhg9.out] at kx2
  try rw [← HW9.out] at kx3; try rw [← Hhg9.out] at kx3
  obtain ⟨ew0, ew1, ew2, ew3, _⟩ := ew.two
  try rw [← HW9.out] at ew0; try rw [← Hhg9.out] at ew0
  try rw [← HW9.out] at ew1; try rw [← Hhg9.out] at ew1
  try rw [← HW9.out] at ew2; try rw [← Hhg9.out] at ew2
  try rw [← HW9.out] at ew3; try rw [← Hhg9.out] at ew3
  go_wp2_with fail
  rw [HW9.out]
  try rw [Hhg9.out]
  try rw [← Hs9.out]
  clear kx0 kx1 kx2 kx3 ew0 ew1 ew2 ew3
  have hval := fun V (hb : Below W4.heap.size W4 V) => validate_ok (.slice A0 x.1.length c0) (.slice A1 x.2.length c1) x.1 x.2 V (hx0.ext hb) (hx1.ext hb) hsz
  rw [show Ix.indexF (x.1, x.2) = _ from HWf.out] at hval
  dsimp only at hval
  have hexm := fun V (hb : Below W4.heap.size W4 V) => iexample_ok V (hT.ext hb)
  have hne : ∀ V : World, (binOp .neq 27 (.agg #[.int .i64 za, .int .i64 zb]) (.agg #[.int .i64 za, .int .i64 zb])).run Tryz.prog V = .ok (.bool false) V := fun V => by rw [run_neq_fault, beq_self_eq_true]; rfl
  have hSS : ∀ W', Below W4.heap.size W4 W' → W'.cell? ⟨g0, 0, none⟩ = some (.slice A0 x.1.length c0) ∧ W'.cell? ⟨g0, 1, none⟩ = some (.slice A1 x.2.length c1) ∧ W'.cell? ⟨g6, 0, none⟩ = some (.int .i64 za) ∧ W'.cell? ⟨g6, 1, none⟩ = some (.int .i64 zb) := fun W' hb => ⟨(kx.ext hb).two.1, (kx.ext hb).two.2.1, (ew.ext hb).two.1, (ew.ext hb).two.2.1⟩
  have HS := Lib.hid hSS; have Hval := Lib.hid hval; have Hexm := Lib.hid hexm
  have hS := HS.out _ (below_drewN' W4.heap.size W4 1)
  clear hSS hval hexm
  refine wp_region_D (fun W => W.cell? ⟨g0, 0, none⟩ = some (.slice A0 x.1.length c0) ∧ W.cell? ⟨g0, 1, none⟩ = some (.slice A1 x.2.length c1) ∧ W.cell? ⟨g6, 0, none⟩ = some (.int .i64 za) ∧ W.cell? ⟨g6, 1, none⟩ = some (.int .i64 zb)) (fun _ => false) (by kernel_rfl) ?_
  change anyD _ _ _ _ _ _ _ _ _ (W4.drewN 1)
  have hbV := below_drewN' W4.heap.size W4 1
  generalize W4.drewN 1 = V0 at hS hbV ⊢
  go_simp
  refine anyD_one (i := 0) (by kernel_rfl) rfl rfl (fun K hK => ?_)
  have HK := Lib.hid hK
  clear hK
  unfold Oper.wp
  go_simp
  refine ((Hexm.out V0 hbV)).mono ?_
  rintro e w5 ⟨rfl, hb5⟩
  have hb15 := hbV.trans (hb5.mono hbV.size)
  clear hS hb5
  have hS := HS.out _ hb15
  refine HK.out _ _ (fun _ => hS) ?_
  clear HK
  (refine anyD_light (i := 1) (v := ?_) rfl (by kernel_rfl) (by kernel_rfl) (by kernel_rfl) (by kernel_rfl) (by kernel_rfl) (fun _ _ _ h => h) (.inl ⟨by kernel_rfl, fun W9 hW9 => ?_⟩) hS ?_; rotate_left; · (obtain ⟨hw0, hw1, hw2, hw3⟩ := hW9; go_simp; rfl))
  (refine anyD_light (i := 2) (v := ?_) rfl (by kernel_rfl) (by kernel_rfl) (by kernel_rfl) (by kernel_rfl) (by kernel_rfl) (fun _ _ _ h => h) (.inl ⟨by kernel_rfl, fun W9 hW9 => ?_⟩) hS ?_; rotate_left; · (obtain ⟨hw0, hw1, hw2, hw3⟩ := hW9; go_simp; rfl))
  (refine anyD_light (i := 3) (v := ?_) rfl (by kernel_rfl) (by kernel_rfl) (by kernel_rfl) (by kernel_rfl) (by kernel_rfl) (fun _ _ _ h => h) (.inl ⟨by kernel_rfl, fun W9 hW9 => ?_⟩) hS ?_; rotate_left; · (obtain ⟨hw0, hw1, hw2, hw3⟩ := hW9; go_simp; rfl))
  (refine anyD_light (i := 5) (v := ?_) rfl (by kernel_rfl) (by kernel_rfl) (by kernel_rfl) (by kernel_rfl) (by kernel_rfl) (fun _ _ _ h => h) (.inl ⟨by kernel_rfl, fun W9 hW9 => ?_⟩) hS ?_; rotate_left; · (obtain ⟨hw0, hw1, hw2, hw3⟩ := hW9; go_simp; rfl))
  go_simp
  refine anyD_oneG (i := 4) (by kernel_rfl) rfl rfl (fun K hK => ?_)
  have HK := Lib.hid hK
  clear hK
  unfold Oper.wp
  go_simp
  refine ((Hval.out w5 hb15)).mono ?_
  rintro e w6 ⟨rfl, hb6⟩
  have hb16 := hb15.trans (hb6.mono hb15.size)
  clear hS hb6
  have hS := HS.out _ hb16
  refine HK.out _ _ (fun _ => hS) ?_
  clear HK
  (refine anyD_light (i := 6) (v := ?_) rfl (by kernel_rfl) (by kernel_rfl) (by kernel_rfl) (by kernel_rfl) (by kernel_rfl) (fun _ _ _ h => h) (.inl ⟨by kernel_rfl, fun W9 hW9 => ?_⟩) hS ?_; rotate_left; · (obtain ⟨hw0, hw1, hw2, hw3⟩ := hW9; go_simp; rfl))
  (refine anyD_light (i := 7) (v := ?_) rfl (by kernel_rfl) (by kernel_rfl) (by kernel_rfl) (by kernel_rfl) (by kernel_rfl) (fun _ _ _ h => h) (.inl ⟨by kernel_rfl, fun W9 hW9 => ?_⟩) hS ?_; rotate_left; · (obtain ⟨hw0, hw1, hw2, hw3⟩ := hW9; go_simp; rfl))
  go_simp
  refine anyD_done (by kernel_rfl) ?_ _
  clear hS hb15 HS Hval Hexm
  replace hx0 := hx0.ext hb16
  replace hx1 := hx1.ext hb16
  replace hT := hT.ext hb16
  replace kx := kx.ext hb16
  replace ha0 := ha0.ext hb16
  replace ha1 := ha1.ext hb16
  replace ka := ka.ext hb16
  replace ea := ea.ext hb16
  replace hr0 := hr0.ext hb16
  replace hr1 := hr1.ext hb16
  replace kr := kr.ext hb16
  replace er := er.ext hb16
  replace hf0 := hf0.ext hb16
  replace ef := ef.ext hb16
  replace ew := ew.ext hb16
  replace hbw := hbw.trans (hb16.mono hbw.size)
  clear hb16
  obtain ⟨m0, m1, _, _, _⟩ := ew.two
  obtain ⟨n0, n1, _, _, _⟩ := (ew.alloc (.cells #[.int .i64 za, .int .i64 zb] 27)).two
  obtain ⟨p0, p1', _, _, _⟩ := ((ew.alloc (.cells #[.int .i64 za, .int .i64 zb] 27)).alloc (.cells #[.int .i64 za, .int .i64 zb] 27)).two
  obtain ⟨W6, g7, g8, g9, hW6, hg7, hg8, hg9, hs6, f1, f2, f3, hB6⟩ := box3 w6 #[.int .i64 za, .int .i64 zb] 27 #[.int .i64 za, .int .i64 zb] 27 #[.int .i64 za, .int .i64 zb] 27
  have HB6 := Lib.hid hB6; have Hg := Lib.hid (show w6.heap.size = g7 ∧ g8 ≠ g7 ∧ g9 ≠ g7 ∧ g9 ≠ g8 from ⟨hg7, by omega, by omega, by omega⟩); have Hg2 := Lib.hid (show w6.heap.size ≤ g8 ∧ w6.heap.size ≤ g9 from ⟨by omega, by omega⟩)
  have Hbw := Lib.hid hbw; clear hbw hB6
  obtain ⟨kx0, kx1, _, _, _⟩ := (kx.ext HB6.out).two
  obtain ⟨ew0, ew1, _, _, _⟩ := (ew.ext HB6.out).two
  obtain ⟨f10, f11, _, _, _⟩ := f1.two
  obtain ⟨f20, f21, _, _, _⟩ := f2.two
  obtain ⟨f30, f31, _, _, _⟩ := f3.two
  have Y_hx0 := Lib.hid hx0; clear hx0
  have Y_hx1 := Lib.hid hx1; clear hx1
  have Y_hT := Lib.hid hT; clear hT
  have Y_ha0 := Lib.hid ha0; clear ha0
  have Y_ha1 := Lib.hid ha1; clear ha1
  have Y_hr0 := Lib.hid hr0; clear hr0
  have Y_hr1 := Lib.hid hr1; clear hr1
  have Y_hf0 := Lib.hid hf0; clear hf0
  have Y_ka := Lib.hid ka; clear ka
  have Y_kr := Lib.hid kr; clear kr
  have Y_ea := Lib.hid ea; clear ea
  have Y_er := Lib.hid er; clear er
  have Y_ef := Lib.hid ef; clear ef
  have Y_kx := Lib.hid kx; clear kx
  have Y_ew := Lib.hid ew; clear ew
  go_upto_if 59 with fail
  clear kx0 kx1 ew0 ew1 f10 f11 f20 f21 f30 f31
  clear m0 m1 n0 n1 p0 p1' hW6 hg7 hg8 hg9 hs6
  go_cut [] (fun wc => Below w6.heap.size w6 wc ∧ Blk wc g7 27 #[.int .i64 p1, .int .i64 q1] ∧ Blk wc g8 27 #[.int .i64 za, .int .i64 zb] ∧ Blk wc g9 27 #[.int .i64 za, .int .i64 zb])
  case first =>
    by_cases c1 : 4000 < text.length
    · have hi : (4000 : Int) < (text.length : Int) := by omega
      have Hq := Lib.hid (show ((1 : Int), (-1 : Int)) = (p1, q1) by have := H1.out; rw [if_pos c1] at this; exact this.symm)
      clear c1
      go_wp2_with fail
      refine (at_ok _ _ _).mono ?_
      rintro e w9 ⟨rfl, hb9⟩
      obtain ⟨s0, s1, s2, s3, _⟩ := (f1.ext hb9).two
      have Hb9 := Lib.hid hb9
      clear hb9
      go_wp2_with fail
      go_meet
      case rel =>
        have e := Hq.out
        injection e with e1 e2
        subst e1 e2
        obtain ⟨r0, r1, r2, r3⟩ := put_one HB6.out Hb9.out (by rw [Hg.out.1]; exact Nat.le_refl _) f1 f2 f3 Hg.out.2.1 Hg.out.2.2.1 (.int .i64 1) (.int .i64 (-1))
        exact ⟨r0, r1, r2, r3⟩
    have hi : ¬ (4000 : Int) < (text.length : Int) := by omega
    have h1 := H1.out
    rw [if_neg c1] at h1
    have C1 := Lib.hid c1
    clear c1
    go_wp2_with fail
    refine (in_ok _ _ _ _).mono ?_
    rintro e w9 ⟨rfl, rfl⟩
    cases c2 : (decide (1 ≤ id) && decide (id ≤ 1000000)) with
    | false =>
      rw [if_pos c2] at h1
      have Hq := Lib.hid h1.symm
      clear c2 h1 hi
      go_wp2_with fail
      refine (at_ok _ _ _).mono ?_
      rintro e w9 ⟨rfl, hb9⟩
      obtain ⟨s0, s1, s2, s3, _⟩ := (f1.ext hb9).two
      have Hb9 := Lib.hid hb9
      clear hb9
      go_wp2_with fail
      go_meet
      case rel =>
        have e := Hq.out
        injection e with e1 e2
        subst e1 e2
        obtain ⟨r0, r1, r2, r3⟩ := put_one HB6.out Hb9.out (by rw [Hg.out.1]; exact Nat.le_refl _) f1 f2 f3 Hg.out.2.1 Hg.out.2.2.1 (.int .i64 3) (.int .i64 (-3))
        exact ⟨r0, r1, r2, r3⟩
    | true =>
      rw [if_neg (by rw [c2]; decide)] at h1
      have H1 := Lib.hid h1
      clear c2 h1 hi
      obtain ⟨kx0, kx1, kx2, kx3, _⟩ := (Y_kx.out.ext HB6.out).two
      go_wp2_with fail
      refine (refHas_ok M0 _ x.1 id W6 (Y_hx0.out.ext HB6.out)).mono ?_
      rintro e w9 ⟨rfl, rfl⟩
      cases c3 : x.1.contains id with
      | true =>
        have h1 := H1.out
        rw [if_pos c3] at h1
        have Hq := Lib.hid h1.symm
        clear c3 h1 kx0 kx1 kx2 kx3
        go_wp2_with fail
        refine (at_ok _ _ _).mono ?_
        rintro e w9 ⟨rfl, hb9⟩
        obtain ⟨s0, s1, s2, s3, _⟩ := (f1.ext hb9).two
        have Hb9 := Lib.hid hb9
        clear hb9
        go_wp2_with fail
        go_meet
        case rel =>
          have e := Hq.out
          injection e with e1 e2
          subst e1 e2
          obtain ⟨r0, r1, r2, r3⟩ := put_one HB6.out Hb9.out (by rw [Hg.out.1]; exact Nat.le_refl _) f1 f2 f3 Hg.out.2.1 Hg.out.2.2.1 (.int .i64 7) (.int .i64 (-3))
          exact ⟨r0, r1, r2, r3⟩
      | false =>
        have h1 := H1.out
        rw [if_neg (by rw [c3]; decide)] at h1
        clear c3 H1
        by_cases c4 : 300 ≤ x.1.length
        · have hi : (300 : Int) ≤ (x.1.length : Int) := by omega
          rw [if_pos c4] at h1
          have Hq := Lib.hid h1.symm
          clear c4 h1
          go_wp2_with fail
          clear kx0 kx1 kx2 kx3
          refine (at_ok _ _ _).mono ?_
          rintro e w9 ⟨rfl, hb9⟩
          obtain ⟨s0, s1, s2, s3, _⟩ := (f1.ext hb9).two
          have Hb9 := Lib.hid hb9
          clear hb9
          go_wp2_with fail
          go_meet
          case rel =>
            have e := Hq.out
            injection e with e1 e2
            subst e1 e2
            obtain ⟨r0, r1, r2, r3⟩ := put_one HB6.out Hb9.out (by rw [Hg.out.1]; exact Nat.le_refl _) f1 f2 f3 Hg.out.2.1 Hg.out.2.2.1 (.int .i64 2) (.int .i64 (-3))
            exact ⟨r0, r1, r2, r3⟩
        have hi : ¬ (300 : Int) ≤ (x.1.length : Int) := by omega
        rw [if_neg c4] at h1
        have H1 := Lib.hid h1
        clear c4 h1
        have hte := terms_ok (.slice A0 x.1.length c0) (.slice A1 x.2.length c1) x.1 x.2 text W6 (Y_hx0.out.ext HB6.out) (Y_hx1.out.ext HB6.out) Hcan.out.many (by have := C1.out; omega) (Y_hT.out.ext HB6.out)
        obtain ⟨tn, htn⟩ : ∃ tn, Ix.termsF (x.1, x.2) (Sm.stems text) = tn := ⟨_, rfl⟩
        have Htn := Lib.hid htn
        rw [htn] at hte
        clear htn
        have Hte := Lib.hid hte
        clear hte
        go_wp2_with fail
        clear kx0 kx1 kx2 kx3 hi
        refine Hte.out.mono ?_
        rintro e w10 ⟨rfl, hb10⟩
        by_cases c5 : 1000000 < tn
        · have hi : (1000000 : Int) < (tn : Int) := by omega
          have h1 := H1.out
          rw [if_pos (show 1000000 < Ix.termsF x (Sm.stems text) from Htn.out ▸ c5)] at h1
          have Hq := Lib.hid h1.symm
          have Hb10 := Lib.hid hb10
          clear c5 h1 hb10
          go_wp2_with fail
          refine (at_ok _ _ _).mono ?_
          rintro e w9 ⟨rfl, hb9⟩
          replace hb9 := Hb10.out.trans (hb9.mono Hb10.out.size)
          obtain ⟨s0, s1, s2, s3, _⟩ := (f1.ext hb9).two
          have Hb9 := Lib.hid hb9
          clear hb9
          go_wp2_with fail
          go_meet
          case rel =>
            have e := Hq.out
            injection e with e1 e2
            subst e1 e2
            obtain ⟨r0, r1, r2, r3⟩ := put_one HB6.out Hb9.out (by rw [Hg.out.1]; exact Nat.le_refl _) f1 f2 f3 Hg.out.2.1 Hg.out.2.2.1 (.int .i64 2) (.int .i64 (-2))
            exact ⟨r0, r1, r2, r3⟩
        have hi : ¬ (1000000 : Int) < (tn : Int) := by omega
        have h1 := H1.out
        rw [if_neg (show ¬ 1000000 < Ix.termsF x (Sm.stems text) from Htn.out ▸ c5)] at h1
        have Hq := Lib.hid (show (za, zb) = (p1, q1) from Hz.out.trans h1.symm)
        have Hb10 := Lib.hid hb10
        clear c5 h1 hb10
        go_wp2_with fail
        go_meet
        case rel =>
          have e := Hq.out
          injection e with e1 e2
          subst e1 e2
          exact ⟨HB6.out.trans (Hb10.out.mono HB6.out.size), f1.ext Hb10.out, f2.ext Hb10.out, f3.ext Hb10.out⟩
  case rest =>
  clear f1 f2 f3 HB6 H1
  obtain ⟨hB7, f1, f2, f3⟩ := hcut
  obtain ⟨W7, rfl⟩ : ∃ W0, W0 = wc := ⟨_, rfl⟩
  have HB6 := Lib.hid hB7
  clear hB7
  obtain ⟨kx0, kx1, kx2, kx3, _⟩ := (Y_kx.out.ext HB6.out).two
  have hhas := refHas_ok M0 _ x.1 id W7 (Y_hx0.out.ext HB6.out)
  obtain ⟨hb, hhb⟩ : ∃ b, x.1.contains id = b := ⟨_, rfl⟩
  rw [hhb] at hhas
  have Hhas := Lib.hid hhas; have Hhb := Lib.hid hhb
  clear hhas hhb
  go_wp2_with fail
  clear kx0 kx1 kx2 kx3
  refine Hhas.out.mono ?_
  rintro e w9 ⟨rfl, rfl⟩
  go_upto_if 84 with fail
  go_cut [] (fun wc => Below w6.heap.size w6 wc ∧ Blk wc g7 27 #[.int .i64 p1, .int .i64 q1] ∧ Blk wc g8 27 #[.int .i64 p2, .int .i64 q2] ∧ Blk wc g9 27 #[.int .i64 za, .int .i64 zb])
  case first =>
    cases hb with
    | false =>
      have Hq := Lib.hid (show ((6 : Int), (-3 : Int)) = (p2, q2) by have := H2.out; rw [if_pos Hhb.out] at this; exact this.symm)
      go_wp2_with fail
      refine (at_ok _ _ _).mono ?_
      rintro e w9 ⟨rfl, hb9⟩
      obtain ⟨s0, s1, s2, s3, _⟩ := (f2.ext hb9).two
      have Hb9 := Lib.hid hb9
      clear hb9
      go_wp2_with fail
      go_meet
      case rel =>
        have e := Hq.out
        injection e with e1 e2
        subst e1 e2
        obtain ⟨r0, r1, r2, r3⟩ := put_one HB6.out Hb9.out Hg2.out.1 f2 f1 f3 Hg.out.2.1.symm Hg.out.2.2.2 (.int .i64 6) (.int .i64 (-3))
        exact ⟨r0, r2, r1, r3⟩
    | true =>
      have Hq := Lib.hid (show (za, zb) = (p2, q2) by have := H2.out; rw [if_neg (by rw [Hhb.out]; decide)] at this; exact Hz.out.trans this.symm)
      go_wp2_with fail
      go_meet
      case rel =>
        have e := Hq.out
        injection e with e1 e2
        subst e1 e2
        exact ⟨HB6.out, f1, f2, f3⟩
  case rest =>
  clear f1 f2 f3 HB6 H2 Hhb Hhas
  obtain ⟨hB7, f1, f2, f3⟩ := hcut
  obtain ⟨W8, rfl⟩ : ∃ W0, W0 = wc := ⟨_, rfl⟩
  have HB6 := Lib.hid hB7
  clear hB7
  go_upto_if 88 with fail
  go_cut [] (fun wc => Below w6.heap.size w6 wc ∧ Blk wc g7 27 #[.int .i64 p1, .int .i64 q1] ∧ Blk wc g8 27 #[.int .i64 p2, .int .i64 q2] ∧ Blk wc g9 27 #[.int .i64 p3, .int .i64 q3])
  case first =>
    have hi : (8000 : Int) < (word.length : Int) := by have := Hwd.out; omega
    have Hq := Lib.hid (show ((1 : Int), (-4 : Int)) = (p3, q3) by have hwd := Hwd.out; have := H3.out; rw [if_pos (by omega)] at this; exact this.symm)
    go_wp2_with fail
    refine (at_ok _ _ _).mono ?_
    rintro e w9 ⟨rfl, hb9⟩
    obtain ⟨s0, s1, s2, s3, _⟩ := (f3.ext hb9).two
    have Hb9 := Lib.hid hb9
    clear hb9
    go_wp2_with fail
    go_meet
    case rel =>
      have e := Hq.out
      injection e with e1 e2
      subst e1 e2
      obtain ⟨r0, r1, r2, r3⟩ := put_one HB6.out Hb9.out Hg2.out.2 f3 f1 f2 Hg.out.2.2.1.symm Hg.out.2.2.2.symm (.int .i64 1) (.int .i64 (-4))
      exact ⟨r0, r2, r3, r1⟩
  case rest =>
  clear f1 f2 f3
  obtain ⟨hB7, f1, f2, f3⟩ := hcut
  clear HB6
  obtain ⟨W, rfl⟩ : ∃ W0, W0 = wc := ⟨_, rfl⟩
  have hx0 := Y_hx0.out.ext hB7; clear Y_hx0
  have hx1 := Y_hx1.out.ext hB7; clear Y_hx1
  have hT := Y_hT.out.ext hB7; clear Y_hT
  have ha0 := Y_ha0.out.ext hB7; clear Y_ha0
  have ha1 := Y_ha1.out.ext hB7; clear Y_ha1
  have hr0 := Y_hr0.out.ext hB7; clear Y_hr0
  have hr1 := Y_hr1.out.ext hB7; clear Y_hr1
  have hf0 := Y_hf0.out.ext hB7; clear Y_hf0
  have ka := Y_ka.out.ext hB7; clear Y_ka
  have kr := Y_kr.out.ext hB7; clear Y_kr
  have ea := Y_ea.out.ext hB7; clear Y_ea
  have er := Y_er.out.ext hB7; clear Y_er
  have ef := Y_ef.out.ext hB7; clear Y_ef
  have kx := Y_kx.out.ext hB7; clear Y_kx
  have hbw := Hbw.out.trans (hB7.mono Hbw.out.size)
  have HBw := Lib.hid hbw
  clear Hbw hbw hB7 Y_ew
  have he3 : (p3 != 0) = true := by have hwd := Hwd.out; have := H3.out; rw [if_pos (by omega)] at this; injection this with h1 h2; rw [h1]; rfl
  have He3 := Lib.hid he3; clear he3
  have hbad1 : (p1 != 0) = true → ((((ai, at_) : Ix.Idx)) == ([], [])) = true := fun h => by
    have := Ix.addR_bad (x := x) (id := id) (t := text) (by rw [HA.out]; simpa using h)
    rw [HA.out] at this
    rw [show ((ai, at_) : Ix.Idx) = ([], []) from this]
    rfl
  have hbad2 : (p2 != 0) = true → ((((ri, rt_) : Ix.Idx)) == ([], [])) = true := fun h => by
    have := Ix.removeR_bad (x := x) (id := id) (by rw [HR.out]; simpa using h)
    rw [HR.out] at this
    rw [show ((ri, rt_) : Ix.Idx) = ([], []) from this]
    rfl
  have hbad3 : (p3 != 0) = true → fl.length = 0 := fun h => by
    have := Ix.findR_bad (x := x) (word := word) (by rw [HFd.out]; simpa using h)
    rw [HFd.out] at this
    rw [show fl = [] from this]
    rfl
  have hs1 := fun V (hb : Below W.heap.size W V) => sameIndex_ok _ _ (.slice none 0 0) (.slice none 0 0) (ai, at_) ([], []) V (ha0.ext hb) (ha1.ext hb) (SlR.nil _ _ _) (SlR.nil _ _ _)
  have hs2 := fun V (hb : Below W.heap.size W V) => sameIndex_ok _ _ (.slice none 0 0) (.slice none 0 0) (ri, rt_) ([], []) V (hr0.ext hb) (hr1.ext hb) (SlR.nil _ _ _) (SlR.nil _ _ _)
  have Hs1 := Lib.hid hs1; have Hs2 := Lib.hid hs2; have Hbad1 := Lib.hid hbad1; have Hbad2 := Lib.hid hbad2; have Hbad3 := Lib.hid hbad3
  clear hs1 hs2 hbad1 hbad2 hbad3
  have hne1 : ∀ V : World, (binOp .neq 27 (.agg #[.int .i64 p1, .int .i64 q1]) (.agg #[.int .i64 p1, .int .i64 q1])).run Tryz.prog V = .ok (.bool false) V := fun V => by rw [run_neq_fault, beq_self_eq_true]; rfl
  have hne2 : ∀ V : World, (binOp .neq 27 (.agg #[.int .i64 p2, .int .i64 q2]) (.agg #[.int .i64 p2, .int .i64 q2])).run Tryz.prog V = .ok (.bool false) V := fun V => by rw [run_neq_fault, beq_self_eq_true]; rfl
  have hne3 : ∀ V : World, (binOp .neq 27 (.agg #[.int .i64 p3, .int .i64 q3]) (.agg #[.int .i64 p3, .int .i64 q3])).run Tryz.prog V = .ok (.bool false) V := fun V => by rw [run_neq_fault, beq_self_eq_true]; rfl
  have Y_hx0 := Lib.hid hx0; clear hx0
  have Y_hx1 := Lib.hid hx1; clear hx1
  have Y_hT := Lib.hid hT; clear hT
  have Y_ha0 := Lib.hid ha0; clear ha0
  have Y_ha1 := Lib.hid ha1; clear ha1
  have Y_hr0 := Lib.hid hr0; clear hr0
  have Y_hr1 := Lib.hid hr1; clear hr1
  have Y_hf0 := Lib.hid hf0; clear hf0
  have Y_kx := Lib.hid kx; clear kx
  go_upto_region 25 with fail
  go_cut [134] (fun v wc => v = .bool false ∧ Below W.heap.size W wc)
  case first =>
    cases e1 : (p1 != 0) with
    | false =>
      cases e2 : (p2 != 0) with
      | false =>
        have e3 := He3.out
        have hl0 : ((0 : Int) < (fl.length : Int)) = False := by rw [Hbad3.out e3]; simp
        have hl1 : decide ((0 : Int) < (fl.length : Int)) = false := by rw [Hbad3.out e3]; simp
        obtain ⟨ka0, ka1, _, _, _⟩ := ka.two
        obtain ⟨kr0, kr1, _, _, _⟩ := kr.two
        obtain ⟨ea0, ea1, _, _, _⟩ := ea.two
        obtain ⟨er0, er1, _, _, _⟩ := er.two
        obtain ⟨ef0, ef1, _, _, _⟩ := ef.two
        obtain ⟨f10, f11, _, _, _⟩ := f1.two
        obtain ⟨f20, f21, _, _, _⟩ := f2.two
        obtain ⟨f30, f31, _, _, _⟩ := f3.two
        go_wp2_with fail
        go_meet
        case rel => exact ⟨by rw [Hbad3.out e3]; rfl, Below.refl _ _⟩
      | true =>
        have e3 := He3.out
        have hl0 : ((0 : Int) < (fl.length : Int)) = False := by rw [Hbad3.out e3]; simp
        have hl1 : decide ((0 : Int) < (fl.length : Int)) = false := by rw [Hbad3.out e3]; simp
        obtain ⟨ka0, ka1, _, _, _⟩ := ka.two
        obtain ⟨kr0, kr1, _, _, _⟩ := kr.two
        obtain ⟨ea0, ea1, _, _, _⟩ := ea.two
        obtain ⟨er0, er1, _, _, _⟩ := er.two
        obtain ⟨ef0, ef1, _, _, _⟩ := ef.two
        obtain ⟨f10, f11, _, _, _⟩ := f1.two
        obtain ⟨f20, f21, _, _, _⟩ := f2.two
        obtain ⟨f30, f31, _, _, _⟩ := f3.two
        go_wp2_with fail
        clear ka0 ka1 kr0 kr1 ea0 ea1 er0 er1 ef0 ef1 f10 f11 f20 f21 f30 f31
        have hc := Hs2.out W (Below.refl _ _)
        rw [Hbad2.out e2] at hc
        refine hc.mono ?_
        rintro e w8 ⟨rfl, hb8⟩
        have Hb8 := Lib.hid (hb8)
        clear hb8 hc
        obtain ⟨f30, f31, _, _, _⟩ := (f3.ext Hb8.out).two
        obtain ⟨ef0, ef1, _, _, _⟩ := (ef.ext Hb8.out).two
        go_wp2_with fail
        go_meet
        case rel => exact ⟨by rw [Hbad3.out e3]; rfl, Hb8.out⟩
    | true =>
      cases e2 : (p2 != 0) with
      | false =>
        have e3 := He3.out
        have hl0 : ((0 : Int) < (fl.length : Int)) = False := by rw [Hbad3.out e3]; simp
        have hl1 : decide ((0 : Int) < (fl.length : Int)) = false := by rw [Hbad3.out e3]; simp
        obtain ⟨ka0, ka1, _, _, _⟩ := ka.two
        obtain ⟨kr0, kr1, _, _, _⟩ := kr.two
        obtain ⟨ea0, ea1, _, _, _⟩ := ea.two
        obtain ⟨er0, er1, _, _, _⟩ := er.two
        obtain ⟨ef0, ef1, _, _, _⟩ := ef.two
        obtain ⟨f10, f11, _, _, _⟩ := f1.two
        obtain ⟨f20, f21, _, _, _⟩ := f2.two
        obtain ⟨f30, f31, _, _, _⟩ := f3.two
        go_wp2_with fail
        clear ka0 ka1 kr0 kr1 ea0 ea1 er0 er1 ef0 ef1 f10 f11 f20 f21 f30 f31
        have hc := Hs1.out W (Below.refl _ _)
        rw [Hbad1.out e1] at hc
        refine hc.mono ?_
        rintro e w7 ⟨rfl, hb7⟩
        have Hb7 := Lib.hid hb7
        clear hb7 hc
        obtain ⟨kr0, kr1, _, _, _⟩ := (kr.ext Hb7.out).two
        obtain ⟨f20, f21, _, _, _⟩ := (f2.ext Hb7.out).two
        obtain ⟨f30, f31, _, _, _⟩ := (f3.ext Hb7.out).two
        obtain ⟨er0, er1, _, _, _⟩ := (er.ext Hb7.out).two
        obtain ⟨ef0, ef1, _, _, _⟩ := (ef.ext Hb7.out).two
        go_wp2_with fail
        go_meet
        case rel => exact ⟨by rw [Hbad3.out e3]; rfl, Hb7.out⟩
      | true =>
        have e3 := He3.out
        have hl0 : ((0 : Int) < (fl.length : Int)) = False := by rw [Hbad3.out e3]; simp
        have hl1 : decide ((0 : Int) < (fl.length : Int)) = false := by rw [Hbad3.out e3]; simp
        obtain ⟨ka0, ka1, _, _, _⟩ := ka.two
        obtain ⟨kr0, kr1, _, _, _⟩ := kr.two
        obtain ⟨ea0, ea1, _, _, _⟩ := ea.two
        obtain ⟨er0, er1, _, _, _⟩ := er.two
        obtain ⟨ef0, ef1, _, _, _⟩ := ef.two
        obtain ⟨f10, f11, _, _, _⟩ := f1.two
        obtain ⟨f20, f21, _, _, _⟩ := f2.two
        obtain ⟨f30, f31, _, _, _⟩ := f3.two
        go_wp2_with fail
        clear ka0 ka1 kr0 kr1 ea0 ea1 er0 er1 ef0 ef1 f10 f11 f20 f21 f30 f31
        have hc := Hs1.out W (Below.refl _ _)
        rw [Hbad1.out e1] at hc
        refine hc.mono ?_
        rintro e w7 ⟨rfl, hb7⟩
        have Hb7 := Lib.hid hb7
        clear hb7 hc
        obtain ⟨kr0, kr1, _, _, _⟩ := (kr.ext Hb7.out).two
        obtain ⟨f20, f21, _, _, _⟩ := (f2.ext Hb7.out).two
        obtain ⟨f30, f31, _, _, _⟩ := (f3.ext Hb7.out).two
        obtain ⟨er0, er1, _, _, _⟩ := (er.ext Hb7.out).two
        obtain ⟨ef0, ef1, _, _, _⟩ := (ef.ext Hb7.out).two
        go_wp2_with fail
        clear kr0 kr1 f20 f21 f30 f31 er0 er1 ef0 ef1
        have hc := Hs2.out w7 Hb7.out
        rw [Hbad2.out e2] at hc
        refine hc.mono ?_
        rintro e w8 ⟨rfl, hb8⟩
        have Hb8 := Lib.hid (Hb7.out.trans (hb8.mono Hb7.out.size))
        clear hb8 hc
        obtain ⟨f30, f31, _, _, _⟩ := (f3.ext Hb8.out).two
        obtain ⟨ef0, ef1, _, _, _⟩ := (ef.ext Hb8.out).two
        go_wp2_with fail
        go_meet
        case rel => exact ⟨by rw [Hbad3.out e3]; rfl, Hb8.out⟩
  case rest =>
  obtain ⟨rfl, hB7⟩ := hcut
  clear Hs1 Hs2 Hbad1 Hbad2 Hbad3 hne1 hne2 hne3 ea er ef
  have hx0 := Y_hx0.out; clear Y_hx0
  have hx1 := Y_hx1.out; clear Y_hx1
  have hT := Y_hT.out; clear Y_hT
  have ha0 := Y_ha0.out; clear Y_ha0
  have ha1 := Y_ha1.out; clear Y_ha1
  have hr0 := Y_hr0.out; clear Y_hr0
  have hr1 := Y_hr1.out; clear Y_hr1
  have hf0 := Y_hf0.out; clear Y_hf0
  have kx := Y_kx.out; clear Y_kx
  obtain ⟨Wb, rfl⟩ : ∃ W0, W0 = wc := ⟨_, rfl⟩
  replace hx0 := hx0.ext hB7
  replace hx1 := hx1.ext hB7
  replace hT := hT.ext hB7
  replace kx := kx.ext hB7
  replace ka := ka.ext hB7
  replace kr := kr.ext hB7
  replace ha0 := ha0.ext hB7
  replace ha1 := ha1.ext hB7
  replace hr0 := hr0.ext hB7
  replace hr1 := hr1.ext hB7
  replace hf0 := hf0.ext hB7
  replace f1 := f1.ext hB7
  replace f2 := f2.ext hB7
  replace f3 := f3.ext hB7
  have hbw := HBw.out.trans (hB7.mono HBw.out.size)
  clear HBw
  have HBw := Lib.hid hbw
  clear hbw hB7
  obtain ⟨f30, f31, _, _, _⟩ := f3.two
  go_upto_if 137 with fail
  go_cut [] (fun wc => Below Wb.heap.size Wb wc)
  case first =>
    have e3 : (p3 == 0) = false := by have := He3.out; simpa using this
    go_wp2_with fail
    go_meet
    case rel => exact Below.refl _ _
  case rest =>
  have hB7 := hcut
  clear hcut f30 f31
  obtain ⟨Wd, rfl⟩ : ∃ W0, W0 = wc := ⟨_, rfl⟩
  replace hx0 := hx0.ext hB7
  replace hx1 := hx1.ext hB7
  replace hT := hT.ext hB7
  replace kx := kx.ext hB7
  replace ka := ka.ext hB7
  replace kr := kr.ext hB7
  replace ha0 := ha0.ext hB7
  replace ha1 := ha1.ext hB7
  replace hr0 := hr0.ext hB7
  replace hr1 := hr1.ext hB7
  replace hf0 := hf0.ext hB7
  replace f1 := f1.ext hB7
  replace f2 := f2.ext hB7
  replace f3 := f3.ext hB7
  have hbw := HBw.out.trans (hB7.mono HBw.out.size)
  clear HBw
  have HBw := Lib.hid hbw
  clear hbw hB7
  have hg1 : (p1 != 0) = false → ∀ V, Below Wd.heap.size Wd V → Calls Tryz.prog 29 #[.agg #[.slice A0 x.1.length c0, .slice A1 x.2.length c1], .agg #[.slice A2 ai.length c2, .slice A3 at_.length c3], .int .i64 id, .string (bs text)] V fun e w' => e = .returned (.bool true) ∧ Below V.heap.size V w' := fun h V hb => by
    have h0 : (Ix.addR x id text).2.1 = 0 := by rw [HA.out]; simpa using h
    obtain ⟨g1, _, _, g4, g5⟩ := Ix.addR_good h0
    have hr := Ix.addR_room h0
    have e : (ai, at_) = Ix.addF x id (Sm.stems text) := by rw [HA.out] at g1; injection g1
    have hl := Ix.added_law Hcan.out g4 g5
    rw [← e] at hl g5
    exact added_ok _ _ _ _ x (ai, at_) id text V (hx0.ext hb) (hx1.ext hb) (ha0.ext hb) (ha1.ext hb) (fun t ht => (g5.small.posts t ht).1) hr.1 (hT.ext hb) hl
  have hg2 : (p2 != 0) = false → ∀ V, Below Wd.heap.size Wd V → Calls Tryz.prog 30 #[.agg #[.slice A0 x.1.length c0, .slice A1 x.2.length c1], .agg #[.slice A4 ri.length c4, .slice A5 rt_.length c5], .int .i64 id] V fun e w' => e = .returned (.bool true) ∧ Below V.heap.size V w' := fun h V hb => by
    have h0 : (Ix.removeR x id).2.1 = 0 := by rw [HR.out]; simpa using h
    obtain ⟨g1, _, g3⟩ := Ix.removeR_good h0
    have e : (ri, rt_) = Ix.removeF x id := by rw [HR.out] at g1; injection g1
    have hl := Ix.removed_law Hcan.out g3
    have g5 := Ix.canon_remove Hcan.out id
    rw [← e] at hl g5
    exact removed_ok _ _ _ _ x (ri, rt_) id V (hx0.ext hb) (hx1.ext hb) (hr0.ext hb) (hr1.ext hb) (fun t ht => (Hcan.out.small.posts t ht).1) g5.sz hl
  have Hg1 := Lib.hid hg1; have Hg2 := Lib.hid hg2
  clear hg1 hg2
  obtain ⟨kx0, kx1, _, _, _⟩ := kx.two
  obtain ⟨ka0, ka1, _, _, _⟩ := ka.two
  obtain ⟨kr0, kr1, _, _, _⟩ := kr.two
  obtain ⟨f10, f11, _, _, _⟩ := f1.two
  obtain ⟨f20, f21, _, _, _⟩ := f2.two
  cases e1 : (p1 != 0) with
  | true =>
    cases e2 : (p2 != 0) with
    | true =>
      go_wp2_with fail
      go_ret
      exact ⟨rfl, HBw.out⟩
    | false =>
      go_wp2_with fail
      clear kx0 kx1 ka0 ka1 kr0 kr1 f10 f11 f20 f21
      refine (Hg2.out e2 Wd (Below.refl _ _)).mono ?_
      rintro e w8 ⟨rfl, hb8⟩
      have Hb8 := Lib.hid (hb8)
      clear hb8
      go_wp2_with fail
      go_ret
      exact ⟨rfl, HBw.out.trans (Hb8.out.mono HBw.out.size)⟩
  | false =>
    cases e2 : (p2 != 0) with
    | true =>
      go_wp2_with fail
      clear kx0 kx1 ka0 ka1 kr0 kr1 f10 f11 f20 f21
      refine (Hg1.out e1 Wd (Below.refl _ _)).mono ?_
      rintro e w7 ⟨rfl, hb7⟩
      have Hb7 := Lib.hid hb7
      clear hb7
      obtain ⟨kx0, kx1, _, _, _⟩ := (kx.ext Hb7.out).two
      obtain ⟨kr0, kr1, _, _, _⟩ := (kr.ext Hb7.out).two
      obtain ⟨f20, f21, _, _, _⟩ := (f2.ext Hb7.out).two
      go_wp2_with fail
      go_ret
      exact ⟨rfl, HBw.out.trans (Hb7.out.mono HBw.out.size)⟩
    | false =>
      go_wp2_with fail
      clear kx0 kx1 ka0 ka1 kr0 kr1 f10 f11 f20 f21
      refine (Hg1.out e1 Wd (Below.refl _ _)).mono ?_
      rintro e w7 ⟨rfl, hb7⟩
      have Hb7 := Lib.hid hb7
      clear hb7
      obtain ⟨kx0, kx1, _, _, _⟩ := (kx.ext Hb7.out).two
      obtain ⟨kr0, kr1, _, _, _⟩ := (kr.ext Hb7.out).two
      obtain ⟨f20, f21, _, _, _⟩ := (f2.ext Hb7.out).two
      go_wp2_with fail
      clear kx0 kx1 kr0 kr1 f20 f21
      refine (Hg2.out e2 w7 Hb7.out).mono ?_
      rintro e w8 ⟨rfl, hb8⟩
      have Hb8 := Lib.hid (Hb7.out.trans (hb8.mono Hb7.out.size))
      clear hb8
      go_wp2_with fail
      go_ret
      exact ⟨rfl, HBw.out.trans (Hb8.out.mono HBw.out.size)⟩
end Go.Proofs.YtfjpedgddgbelaaGreatDoor

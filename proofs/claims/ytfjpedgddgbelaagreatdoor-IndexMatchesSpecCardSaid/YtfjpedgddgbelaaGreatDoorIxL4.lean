/-
  Validate, Add, Remove and Find as the specification has them: the law's walk.
-/
import Derived.Test.YtfjpedgddgbelaaGreatDoorIxRmd
import Derived.Test.YtfjpedgddgbelaaGreatDoorG29
import Derived.Test.YtfjpedgddgbelaaGreatDoorIxK
namespace Go.Proofs.YtfjpedgddgbelaaGreatDoor
open Go.RowKit
set_option linter.unusedVariables false
theorem box3 (w : World) (cs : Array Value) (t : TypeId) (ds : Array Value) (t' : TypeId) (es : Array Value) (t'' : TypeId) : ∃ W g h i, ((w.alloc (.cells cs t)).alloc (.cells ds t')).alloc (.cells es t'') = W ∧ w.heap.size = g ∧ g + 1 = h ∧ h + 1 = i ∧ W.heap.size = i + 1 ∧ Blk W g t cs ∧ Blk W h t' ds ∧ Blk W i t'' es ∧ Below w.heap.size w W := by
  obtain ⟨W1, g, h, h1, h2, h3, h4, k1, k2, hb⟩ := box2 w cs t ds t'
  refine ⟨_, g, h, _, by rw [h1], h2, h3, h4.symm, by simp, k1.alloc _, k2.alloc _, ?_, hb.alloc hb.size _⟩
  have := Blk.new W1 t'' es
  exact this
set_option maxRecDepth 100000 in
set_option maxHeartbeats 2000000 in
theorem imatch_bad (a b : Value) (x : Ix.Idx) (id : Int) (text word : Str) (w : World) (hx0 : SlR intC M0 w a x.1) (hx1 : SlR termC M0 w b x.2) (hsz : SzIx x.2) (hT : TabsU w) (hbad : (Ix.indexF x).1 ≠ 0) :
    Calls Tryz.prog 3 #[.agg #[a, b], .int .i64 id, .string (bs text), .string (bs word)] w fun e w' => e = .returned (.bool true) ∧ Below w.heap.size w w' := by
  have hbw := Below.refl w.heap.size w
  obtain ⟨A0, c0, rfl, _, _⟩ := hx0.form
  obtain ⟨A1, c1, rfl, _, _⟩ := hx1.form
  obtain ⟨⟨⟨ai, at_⟩, ae, af⟩, hA⟩ : ∃ r, Ix.addR x id text = r := ⟨_, rfl⟩
  obtain ⟨⟨⟨ri, rt_⟩, re, rf⟩, hR⟩ : ∃ r, Ix.removeR x id = r := ⟨_, rfl⟩
  obtain ⟨⟨fl, fe, ff⟩, hFd⟩ : ∃ r, Ix.findR x word = r := ⟨_, rfl⟩
  obtain ⟨⟨we, wf⟩, hWf⟩ : ∃ r, Ix.indexF x = r := ⟨_, rfl⟩
  have e1 := Ix.f1_eq x id text
  have e2 := Ix.f2_eq x id
  have e3 := Ix.f3_eq x word
  rw [hA, show Ix.f1F x id text = Ix.indexF x by unfold Ix.f1F; rw [if_pos hbad], hWf] at e1
  rw [hR, show Ix.f2F x id = Ix.indexF x by unfold Ix.f2F; rw [if_pos hbad], hWf] at e2
  rw [hFd, show Ix.f3F x word = Ix.indexF x by unfold Ix.f3F; rw [if_pos hbad], hWf] at e3
  dsimp only at e1 e2 e3
  injection e1 with e11 e12
  injection e2 with e21 e22
  injection e3 with e31 e32
  subst e11 e12 e21 e22 e31 e32
  have hb2 : (fe != 0) = true := by rw [hWf] at hbad; simpa using hbad
  have b1 := Ix.addR_bad (x := x) (id := id) (t := text) (by rw [hA]; rw [hWf] at hbad; exact hbad)
  have b2 := Ix.removeR_bad (x := x) (id := id) (by rw [hR]; rw [hWf] at hbad; exact hbad)
  have b3 := Ix.findR_bad (x := x) (word := word) (by rw [hFd]; rw [hWf] at hbad; exact hbad)
  rw [hA] at b1
  rw [hR] at b2
  rw [hFd] at b3
  have Hb := Lib.hid (And.intro b1 (And.intro b2 b3))
  clear hbad b1 b2 b3
  have HA := Lib.hid hA; have HR := Lib.hid hR; have HFd := Lib.hid hFd; have HWf := Lib.hid hWf
  clear hA hR hFd hWf
  obtain ⟨W0, g0, hW1, hg1, hs1, kx, hal1⟩ := box1 w #[.slice A0 x.1.length c0, .slice A1 x.2.length c1] 25
  replace hx0 := hx0.ext hal1
  replace hx1 := hx1.ext hal1
  replace hT := hT.ext hal1
  replace hbw := hbw.trans (hal1.mono hbw.size)
  clear hal1
  have HW1 := Lib.hid hW1; have Hs1 := Lib.hid hs1
  have Hhg1 := Lib.hid hg1
  clear hW1 hs1 hg1
  have hc := add_ok (.slice A0 x.1.length c0) (.slice A1 x.2.length c1) x.1 x.2 id text W0 hx0 hx1 hsz hT
  unfold AddAt at hc
  rw [show Ix.addR (x.1, x.2) id text = _ from HA.out] at hc
  obtain ⟨kx0, kx1, kx2, kx3, _⟩ := kx.two
  try rw [← HW1.out] at kx0; try rw [← Hhg1.out] at kx0
  try rw [← HW1.out] at kx1; try rw [← Hhg1.out] at kx1
  try rw [← HW1.out] at kx2; try rw [← Hhg1.out] at kx2
  try rw [← HW1.out] at kx3; try rw [← Hhg1.out] at kx3
  go_enter Tryz.func3, Tryz.ntmps3
  go_wp2_with fail
  rw [HW1.out]
  try rw [Hhg1.out]
  try rw [← Hs1.out]
  clear kx0 kx1 kx2 kx3
  refine (hc).mono ?_
  rintro e w1 ⟨a1, b1, rfl, ha0, ha1, hq2⟩
  clear hc
  dsimp only at ha0 ha1 ⊢
  obtain ⟨A2, c2, rfl, _, _⟩ := ha0.form
  obtain ⟨A3, c3, rfl, _, _⟩ := ha1.form
  replace hx0 := hx0.ext hq2
  replace hx1 := hx1.ext hq2
  replace hT := hT.ext hq2
  replace kx := kx.ext hq2
  replace hbw := hbw.trans (hq2.mono hbw.size)
  clear hq2
  obtain ⟨W1, g1, g2, hW3, hg3, hh3, hs3, ka, ea, hal3⟩ := box2 w1 #[.slice A2 ai.length c2, .slice A3 at_.length c3] 25 #[.int .i64 fe, .int .i64 ff] 27
  replace hx0 := hx0.ext hal3
  replace hx1 := hx1.ext hal3
  replace hT := hT.ext hal3
  replace kx := kx.ext hal3
  replace ha0 := ha0.ext hal3
  replace ha1 := ha1.ext hal3
  replace hbw := hbw.trans (hal3.mono hbw.size)
  clear hal3
  have HW3 := Lib.hid hW3; have Hs3 := Lib.hid hs3
  have Hhg3 := Lib.hid hg3
  have Hhh3 := Lib.hid hh3
  clear hW3 hs3 hg3 hh3
  have hc := remove_ok (.slice A0 x.1.length c0) (.slice A1 x.2.length c1) x.1 x.2 id W1 hx0 hx1 hsz
  unfold RemAt at hc
  rw [show Ix.removeR (x.1, x.2) id = _ from HR.out] at hc
  obtain ⟨kx0, kx1, kx2, kx3, _⟩ := kx.two
  try rw [← HW3.out] at kx0; try rw [← Hhh3.out] at kx0; try rw [← Hhg3.out] at kx0
  try rw [← HW3.out] at kx1; try rw [← Hhh3.out] at kx1; try rw [← Hhg3.out] at kx1
  try rw [← HW3.out] at kx2; try rw [← Hhh3.out] at kx2; try rw [← Hhg3.out] at kx2
  try rw [← HW3.out] at kx3; try rw [← Hhh3.out] at kx3; try rw [← Hhg3.out] at kx3
  go_wp2_with fail
  rw [HW3.out]
  try rw [Hhg3.out]
  try rw [Hhh3.out]
  try rw [← Hs3.out]
  clear kx0 kx1 kx2 kx3
  refine (hc).mono ?_
  rintro e w2 ⟨a2, b2, rfl, hr0, hr1, hq4⟩
  clear hc
  dsimp only at hr0 hr1 ⊢
  obtain ⟨A4, c4, rfl, _, _⟩ := hr0.form
  obtain ⟨A5, c5, rfl, _, _⟩ := hr1.form
  replace hx0 := hx0.ext hq4
  replace hx1 := hx1.ext hq4
  replace hT := hT.ext hq4
  replace kx := kx.ext hq4
  replace ha0 := ha0.ext hq4
  replace ha1 := ha1.ext hq4
  replace ka := ka.ext hq4
  replace ea := ea.ext hq4
  replace hbw := hbw.trans (hq4.mono hbw.size)
  clear hq4
  obtain ⟨W2, g3, g4, hW5, hg5, hh5, hs5, kr, er, hal5⟩ := box2 w2 #[.slice A4 ri.length c4, .slice A5 rt_.length c5] 25 #[.int .i64 fe, .int .i64 ff] 27
  replace hx0 := hx0.ext hal5
  replace hx1 := hx1.ext hal5
  replace hT := hT.ext hal5
  replace kx := kx.ext hal5
  replace ha0 := ha0.ext hal5
  replace ha1 := ha1.ext hal5
  replace ka := ka.ext hal5
  replace ea := ea.ext hal5
  replace hr0 := hr0.ext hal5
  replace hr1 := hr1.ext hal5
  replace hbw := hbw.trans (hal5.mono hbw.size)
  clear hal5
  have HW5 := Lib.hid hW5; have Hs5 := Lib.hid hs5
  have Hhg5 := Lib.hid hg5
  have Hhh5 := Lib.hid hh5
  clear hW5 hs5 hg5 hh5
  have hc := indexFind_ok (.slice A0 x.1.length c0) (.slice A1 x.2.length c1) x.1 x.2 word W2 hx0 hx1 hsz hT
  unfold FindAt at hc
  rw [show Ix.findR (x.1, x.2) word = _ from HFd.out] at hc
  obtain ⟨kx0, kx1, kx2, kx3, _⟩ := kx.two
  try rw [← HW5.out] at kx0; try rw [← Hhh5.out] at kx0; try rw [← Hhg5.out] at kx0
  try rw [← HW5.out] at kx1; try rw [← Hhh5.out] at kx1; try rw [← Hhg5.out] at kx1
  try rw [← HW5.out] at kx2; try rw [← Hhh5.out] at kx2; try rw [← Hhg5.out] at kx2
  try rw [← HW5.out] at kx3; try rw [← Hhh5.out] at kx3; try rw [← Hhg5.out] at kx3
  go_wp2_with fail
  rw [HW5.out]
  try rw [Hhg5.out]
  try rw [Hhh5.out]
  try rw [← Hs5.out]
  clear kx0 kx1 kx2 kx3
  refine (hc).mono ?_
  rintro e w3 ⟨l3, rfl, hf0, hq6⟩
  clear hc
  dsimp only at hf0 ⊢
  obtain ⟨A6, c6, rfl, _, _⟩ := hf0.form
  replace hx0 := hx0.ext hq6
  replace hx1 := hx1.ext hq6
  replace hT := hT.ext hq6
  replace kx := kx.ext hq6
  replace ha0 := ha0.ext hq6
  replace ha1 := ha1.ext hq6
  replace ka := ka.ext hq6
  replace ea := ea.ext hq6
  replace hr0 := hr0.ext hq6
  replace hr1 := hr1.ext hq6
  replace kr := kr.ext hq6
  replace er := er.ext hq6
  replace hbw := hbw.trans (hq6.mono hbw.size)
  clear hq6
  obtain ⟨W3, g5, hW7, hg7, hs7, ef, hal7⟩ := box1 w3 #[.int .i64 fe, .int .i64 ff] 27
  replace hx0 := hx0.ext hal7
  replace hx1 := hx1.ext hal7
  replace hT := hT.ext hal7
  replace kx := kx.ext hal7
  replace ha0 := ha0.ext hal7
  replace ha1 := ha1.ext hal7
  replace ka := ka.ext hal7
  replace ea := ea.ext hal7
  replace hr0 := hr0.ext hal7
  replace hr1 := hr1.ext hal7
  replace kr := kr.ext hal7
  replace er := er.ext hal7
  replace hf0 := hf0.ext hal7
  replace hbw := hbw.trans (hal7.mono hbw.size)
  clear hal7
  have HW7 := Lib.hid hW7; have Hs7 := Lib.hid hs7
  have Hhg7 := Lib.hid hg7
  clear hW7 hs7 hg7
  have hc := indexFault_ok (.slice A0 x.1.length c0) (.slice A1 x.2.length c1) x.1 x.2 W3 hx0 hx1 hsz
  rw [show Ix.indexF (x.1, x.2) = _ from HWf.out] at hc
  obtain ⟨kx0, kx1, kx2, kx3, _⟩ := kx.two
  try rw [← HW7.out] at kx0; try rw [← Hhg7.out] at kx0
  try rw [← HW7.out] at kx1; try rw [← Hhg7.out] at kx1
  try rw [← HW7.out] at kx2; try rw [← Hhg7.out] at kx2
  try rw [← HW7.out] at kx3; try rw [← Hhg7.out] at kx3
  go_wp2_with fail
  rw [HW7.out]
  try rw [Hhg7.out]
  try rw [← Hs7.out]
  clear kx0 kx1 kx2 kx3
  refine (hc).mono ?_
  rintro e w4 ⟨rfl, hq8⟩
  clear hc
  dsimp only
  replace hx0 := hx0.ext hq8
  replace hx1 := hx1.ext hq8
  replace hT := hT.ext hq8
  replace kx := kx.ext hq8
  replace ha0 := ha0.ext hq8
  replace ha1 := ha1.ext hq8
  replace ka := ka.ext hq8
  replace ea := ea.ext hq8
  replace hr0 := hr0.ext hq8
  replace hr1 := hr1.ext hq8
  replace kr := kr.ext hq8
  replace er := er.ext hq8
  replace hf0 := hf0.ext hq8
  replace ef := ef.ext hq8
  replace hbw := hbw.trans (hq8.mono hbw.size)
  clear hq8
  obtain ⟨W4, g6, hW9, hg9, hs9, ew, hal9⟩ := box1 w4 #[.int .i64 fe, .int .i64 ff] 27
  replace hx0 := hx0.ext hal9
  replace hx1 := hx1.ext hal9
  replace hT := hT.ext hal9
  replace kx := kx.ext hal9
  replace ha0 := ha0.ext hal9
  replace ha1 := ha1.ext hal9
  replace ka := ka.ext hal9
  replace ea := ea.ext hal9
  replace hr0 := hr0.ext hal9
  replace hr1 := hr1.ext hal9
  replace kr := kr.ext hal9
  replace er := er.ext hal9
  replace hf0 := hf0.ext hal9
  replace ef := ef.ext hal9
  replace hbw := hbw.trans (hal9.mono hbw.size)
  clear hal9
  have HW9 := Lib.hid hW9; have Hs9 := Lib.hid hs9
  have Hhg9 := Lib.hid hg9
  clear hW9 hs9 hg9
  obtain ⟨kx0, kx1, kx2, kx3, _⟩ := kx.two
  try rw [← HW9.out] at kx0; try rw [← Hhg9.out] at kx0
  try rw [← HW9.out] at kx1; try rw [← Hhg9.out] at kx1
  try rw [← HW9.out] at kx2; try rw [← Hhg9.out] at kx2
  try rw [← HW9.out] at kx3; try rw [← Hhg9.out] at kx3
  obtain ⟨ew0, ew1, ew2, ew3, _⟩ := ew.two
  try rw [← HW9.out] at ew0; try rw [← Hhg9.out] at ew0
  try rw [← HW9.out] at ew1; try rw [← Hhg9.out] at ew1
  try rw [← HW9.out] at ew2; try rw [← Hhg9.out] at ew2
  try rw [← HW9.out] at ew3; try rw [← Hhg9.out] at ew3
  go_wp2_with fail
  rw [HW9.out]
  try rw [Hhg9.out]
  try rw [← Hs9.out]
  clear kx0 kx1 kx2 kx3 ew0 ew1 ew2 ew3
  have hval := fun V (hb : Below W4.heap.size W4 V) => validate_ok (.slice A0 x.1.length c0) (.slice A1 x.2.length c1) x.1 x.2 V (hx0.ext hb) (hx1.ext hb) hsz
  rw [show Ix.indexF (x.1, x.2) = _ from HWf.out] at hval
  dsimp only at hval
  have hexm := fun V (hb : Below W4.heap.size W4 V) => iexample_ok V (hT.ext hb)
  have hne : ∀ V : World, (binOp .neq 27 (.agg #[.int .i64 fe, .int .i64 ff]) (.agg #[.int .i64 fe, .int .i64 ff])).run Tryz.prog V = .ok (.bool false) V := fun V => by rw [run_neq_fault, beq_self_eq_true]; rfl
  have hSS : ∀ W', Below W4.heap.size W4 W' → W'.cell? ⟨g0, 0, none⟩ = some (.slice A0 x.1.length c0) ∧ W'.cell? ⟨g0, 1, none⟩ = some (.slice A1 x.2.length c1) ∧ W'.cell? ⟨g6, 0, none⟩ = some (.int .i64 fe) ∧ W'.cell? ⟨g6, 1, none⟩ = some (.int .i64 ff) := fun W' hb => ⟨(kx.ext hb).two.1, (kx.ext hb).two.2.1, (ew.ext hb).two.1, (ew.ext hb).two.2.1⟩
  have HS := Lib.hid hSS; have Hval := Lib.hid hval; have Hexm := Lib.hid hexm
  have hS := HS.out _ (below_drewN' W4.heap.size W4 1)
  clear hSS hval hexm
  refine wp_region_D (fun W => W.cell? ⟨g0, 0, none⟩ = some (.slice A0 x.1.length c0) ∧ W.cell? ⟨g0, 1, none⟩ = some (.slice A1 x.2.length c1) ∧ W.cell? ⟨g6, 0, none⟩ = some (.int .i64 fe) ∧ W.cell? ⟨g6, 1, none⟩ = some (.int .i64 ff)) (fun _ => false) (by kernel_rfl) ?_
  change anyD _ _ _ _ _ _ _ _ _ (W4.drewN 1)
  have hbV := below_drewN' W4.heap.size W4 1
  generalize W4.drewN 1 = V0 at hS hbV ⊢
  go_simp
  refine anyD_one (i := 0) (by kernel_rfl) rfl rfl (fun K hK => ?_)
  have HK := Lib.hid hK
  clear hK
  unfold Oper.wp
  go_simp
  refine ((Hexm.out V0 hbV)).mono ?_
  rintro e w5 ⟨rfl, hb5⟩
  have hb15 := hbV.trans (hb5.mono hbV.size)
  clear hS hb5
  have hS := HS.out _ hb15
  refine HK.out _ _ (fun _ => hS) ?_
  clear HK
  (refine anyD_light (i := 1) (v := ?_) rfl (by kernel_rfl) (by kernel_rfl) (by kernel_rfl) (by kernel_rfl) (by kernel_rfl) (fun _ _ _ h => h) (.inl ⟨by kernel_rfl, fun W9 hW9 => ?_⟩) hS ?_; rotate_left; · (obtain ⟨hw0, hw1, hw2, hw3⟩ := hW9; go_simp; rfl))
  (refine anyD_light (i := 2) (v := ?_) rfl (by kernel_rfl) (by kernel_rfl) (by kernel_rfl) (by kernel_rfl) (by kernel_rfl) (fun _ _ _ h => h) (.inl ⟨by kernel_rfl, fun W9 hW9 => ?_⟩) hS ?_; rotate_left; · (obtain ⟨hw0, hw1, hw2, hw3⟩ := hW9; go_simp; rfl))
  (refine anyD_light (i := 3) (v := ?_) rfl (by kernel_rfl) (by kernel_rfl) (by kernel_rfl) (by kernel_rfl) (by kernel_rfl) (fun _ _ _ h => h) (.inl ⟨by kernel_rfl, fun W9 hW9 => ?_⟩) hS ?_; rotate_left; · (obtain ⟨hw0, hw1, hw2, hw3⟩ := hW9; go_simp; rfl))
  (refine anyD_light (i := 5) (v := ?_) rfl (by kernel_rfl) (by kernel_rfl) (by kernel_rfl) (by kernel_rfl) (by kernel_rfl) (fun _ _ _ h => h) (.inl ⟨by kernel_rfl, fun W9 hW9 => ?_⟩) hS ?_; rotate_left; · (obtain ⟨hw0, hw1, hw2, hw3⟩ := hW9; go_simp; rfl))
  go_simp
  refine anyD_oneG (i := 4) (by kernel_rfl) rfl rfl (fun K hK => ?_)
  have HK := Lib.hid hK
  clear hK
  unfold Oper.wp
  go_simp
  refine ((Hval.out w5 hb15)).mono ?_
  rintro e w6 ⟨rfl, hb6⟩
  have hb16 := hb15.trans (hb6.mono hb15.size)
  clear hS hb6
  have hS := HS.out _ hb16
  refine HK.out _ _ (fun _ => hS) ?_
  clear HK
  (refine anyD_light (i := 6) (v := ?_) rfl (by kernel_rfl) (by kernel_rfl) (by kernel_rfl) (by kernel_rfl) (by kernel_rfl) (fun _ _ _ h => h) (.inl ⟨by kernel_rfl, fun W9 hW9 => ?_⟩) hS ?_; rotate_left; · (obtain ⟨hw0, hw1, hw2, hw3⟩ := hW9; go_simp; rfl))
  (refine anyD_light (i := 7) (v := ?_) rfl (by kernel_rfl) (by kernel_rfl) (by kernel_rfl) (by kernel_rfl) (by kernel_rfl) (fun _ _ _ h => h) (.inl ⟨by kernel_rfl, fun W9 hW9 => ?_⟩) hS ?_; rotate_left; · (obtain ⟨hw0, hw1, hw2, hw3⟩ := hW9; go_simp; rfl))
  go_simp
  refine anyD_done (by kernel_rfl) ?_ _
  clear hS hb15 HS Hval Hexm
  replace hx0 := hx0.ext hb16
  replace hx1 := hx1.ext hb16
  replace hT := hT.ext hb16
  replace kx := kx.ext hb16
  replace ha0 := ha0.ext hb16
  replace ha1 := ha1.ext hb16
  replace ka := ka.ext hb16
  replace ea := ea.ext hb16
  replace hr0 := hr0.ext hb16
  replace hr1 := hr1.ext hb16
  replace kr := kr.ext hb16
  replace er := er.ext hb16
  replace hf0 := hf0.ext hb16
  replace ef := ef.ext hb16
  replace ew := ew.ext hb16
  replace hbw := hbw.trans (hb16.mono hbw.size)
  clear hb16
  obtain ⟨m0, m1, _, _, _⟩ := ew.two
  obtain ⟨n0, n1, _, _, _⟩ := (ew.alloc (.cells #[.int .i64 fe, .int .i64 ff] 27)).two
  obtain ⟨p0, p1, _, _, _⟩ := ((ew.alloc (.cells #[.int .i64 fe, .int .i64 ff] 27)).alloc (.cells #[.int .i64 fe, .int .i64 ff] 27)).two
  obtain ⟨W6, g7, g8, g9, hW6, hg7, hg8, hg9, hs6, f1, f2, f3, hal6⟩ := box3 w6 #[.int .i64 fe, .int .i64 ff] 27 #[.int .i64 fe, .int .i64 ff] 27 #[.int .i64 fe, .int .i64 ff] 27
  replace hx0 := hx0.ext hal6
  replace hx1 := hx1.ext hal6
  replace hT := hT.ext hal6
  replace kx := kx.ext hal6
  replace ha0 := ha0.ext hal6
  replace ha1 := ha1.ext hal6
  replace ka := ka.ext hal6
  replace ea := ea.ext hal6
  replace hr0 := hr0.ext hal6
  replace hr1 := hr1.ext hal6
  replace kr := kr.ext hal6
  replace er := er.ext hal6
  replace hf0 := hf0.ext hal6
  replace ef := ef.ext hal6
  replace ew := ew.ext hal6
  replace hbw := hbw.trans (hal6.mono hbw.size)
  clear hal6
  have HW6 := Lib.hid (And.intro hW6 (And.intro hg7 (And.intro hg8 (And.intro hg9 hs6))))
  have hsi := sameIndex_ok _ _ (.slice none 0 0) (.slice none 0 0) (ai, at_) ([], []) W6 ha0 ha1 (SlR.nil _ _ _) (SlR.nil _ _ _)
  rw [show (((ai, at_) : Ix.Idx) == ([], [])) = true by rw [Hb.out.1]; rfl] at hsi
  have hsj := fun V (hb : Below W6.heap.size W6 V) => sameIndex_ok _ _ (.slice none 0 0) (.slice none 0 0) (ri, rt_) ([], []) V (hr0.ext hb) (hr1.ext hb) (SlR.nil _ _ _) (SlR.nil _ _ _)
  rw [show (((ri, rt_) : Ix.Idx) == ([], [])) = true by rw [Hb.out.2.1]; rfl] at hsj
  have hfl0 : fl.length = 0 := by rw [show fl = [] from Hb.out.2.2]; rfl
  rw [hfl0] at hf0 ⊢
  have Hsi := Lib.hid hsi; have Hsj := Lib.hid hsj
  clear hsi hsj hfl0
  obtain ⟨kx0, kx1, _, _, _⟩ := kx.two
  obtain ⟨ew0, ew1, _, _, _⟩ := ew.two
  obtain ⟨ea0, ea1, _, _, _⟩ := ea.two
  obtain ⟨er0, er1, _, _, _⟩ := er.two
  obtain ⟨ef0, ef1, _, _, _⟩ := ef.two
  obtain ⟨ka0, ka1, _, _, _⟩ := ka.two
  obtain ⟨kr0, kr1, _, _, _⟩ := kr.two
  obtain ⟨f10, f11, _, _, _⟩ := f1.two
  obtain ⟨f20, f21, _, _, _⟩ := f2.two
  obtain ⟨f30, f31, _, _, _⟩ := f3.two
  go_wp2_with fail
  clear kx0 kx1 ew0 ew1 ea0 ea1 er0 er1 ef0 ef1 ka0 ka1 kr0 kr1 f10 f11 f20 f21 f30 f31
  clear m0 m1 n0 n1 p0 p1 hW6 hg7 hg8 hg9 hs6
  refine Hsi.out.mono ?_
  rintro e w7 ⟨rfl, hb7⟩
  have Hb7 := Lib.hid hb7
  replace hx0 := hx0.ext hb7
  replace hx1 := hx1.ext hb7
  replace hT := hT.ext hb7
  replace kx := kx.ext hb7
  replace ha0 := ha0.ext hb7
  replace ha1 := ha1.ext hb7
  replace ka := ka.ext hb7
  replace ea := ea.ext hb7
  replace hr0 := hr0.ext hb7
  replace hr1 := hr1.ext hb7
  replace kr := kr.ext hb7
  replace er := er.ext hb7
  replace hf0 := hf0.ext hb7
  replace ef := ef.ext hb7
  replace ew := ew.ext hb7
  replace f1 := f1.ext hb7
  replace f2 := f2.ext hb7
  replace f3 := f3.ext hb7
  replace hbw := hbw.trans (hb7.mono hbw.size)
  clear hb7
  obtain ⟨kr0, kr1, _, _, _⟩ := kr.two
  obtain ⟨f20, f21, _, _, _⟩ := f2.two
  obtain ⟨f30, f31, _, _, _⟩ := f3.two
  obtain ⟨er0, er1, _, _, _⟩ := er.two
  obtain ⟨ef0, ef1, _, _, _⟩ := ef.two
  go_wp2_with fail
  clear kr0 kr1 f20 f21 f30 f31 er0 er1 ef0 ef1
  refine (Hsj.out w7 Hb7.out).mono ?_
  rintro e w8 ⟨rfl, hb8⟩
  replace hx0 := hx0.ext hb8
  replace hx1 := hx1.ext hb8
  replace hT := hT.ext hb8
  replace kx := kx.ext hb8
  replace ha0 := ha0.ext hb8
  replace ha1 := ha1.ext hb8
  replace ka := ka.ext hb8
  replace ea := ea.ext hb8
  replace hr0 := hr0.ext hb8
  replace hr1 := hr1.ext hb8
  replace kr := kr.ext hb8
  replace er := er.ext hb8
  replace hf0 := hf0.ext hb8
  replace ef := ef.ext hb8
  replace ew := ew.ext hb8
  replace f1 := f1.ext hb8
  replace f2 := f2.ext hb8
  replace f3 := f3.ext hb8
  replace hbw := hbw.trans (hb8.mono hbw.size)
  clear hb8
  obtain ⟨f10, f11, _, _, _⟩ := f1.two
  obtain ⟨f20, f21, _, _, _⟩ := f2.two
  obtain ⟨f30, f31, _, _, _⟩ := f3.two
  go_wp2
  go_ret
  exact ⟨rfl, hbw⟩
end Go.Proofs.YtfjpedgddgbelaaGreatDoor

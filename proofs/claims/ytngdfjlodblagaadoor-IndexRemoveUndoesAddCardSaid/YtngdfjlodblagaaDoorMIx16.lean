/-
  Contracts and plain facts, one after another: Which of two texts is added first does not matter: the law's walk; The walks of two of the indexes' laws, as their rows take them.
-/
import Derived.Test.YtngdfjlodblagaaDoorMIx15
import Derived.Test.YtngdfjlodblagaaDoorMIx5
/-
  Which of two texts is added first does not matter: the law's walk.
-/
namespace Go.Proofs.YtngdfjlodblagaaDoor
open Go.RowKit
set_option linter.unusedVariables false
set_option maxRecDepth 100000 in
set_option maxHeartbeats 8000000 in
theorem iord_ok (a b : Value) (ids : List Int) (ts : List Ix.Term) (id : Int) (text : Str) (other : Int) (more : Str) (w : World) (hx0 : SlR intC M0 w a ids) (hx1 : SlR termC M0 w b ts) (hsz : SzIx ts) (hT : TabsU w) :
    Calls Tryd.prog 4 #[.agg #[a, b], .int .i64 id, .string (bs text), .int .i64 other, .string (bs more)] w fun e w' => e = .returned (.bool true) ∧ Below w.heap.size w w' := by
  have hbw := Below.refl w.heap.size w
  have hcm := @Ix.addR_comm (ids, ts) id other text more
  have s1 := Ix.addR_sz (ids, ts) id text
  have s3 := Ix.addR_sz (ids, ts) other more
  obtain ⟨⟨⟨ai, at_⟩, ae, af⟩, hA⟩ : ∃ r, Ix.addR (ids, ts) id text = r := ⟨_, rfl⟩
  obtain ⟨⟨⟨ci, ct⟩, ce, cf⟩, hC⟩ : ∃ r, Ix.addR (ids, ts) other more = r := ⟨_, rfl⟩
  rw [hA] at hcm s1
  rw [hC] at hcm s3
  dsimp only at hcm s1 s3
  obtain ⟨⟨⟨bi, bt⟩, be, bf⟩, hB⟩ : ∃ r, Ix.addR (ai, at_) other more = r := ⟨_, rfl⟩
  obtain ⟨⟨⟨di, dt⟩, de, df⟩, hD⟩ : ∃ r, Ix.addR (ci, ct) id text = r := ⟨_, rfl⟩
  rw [hB, hD] at hcm
  dsimp only at hcm
  have HA := Lib.hid hA; have HB := Lib.hid hB; have HC := Lib.hid hC; have HD := Lib.hid hD; have Hcm := Lib.hid hcm; have S1 := Lib.hid s1; have S3 := Lib.hid s3
  clear hA hB hC hD hcm s1 s3
  obtain ⟨A0, c0, rfl, _, _⟩ := hx0.form
  obtain ⟨A1, c1, rfl, _, _⟩ := hx1.form
  obtain ⟨W0, g0, hW1, hg1, hs1, kx, hal1⟩ := box1 w #[.slice A0 ids.length c0, .slice A1 ts.length c1] 25
  replace hx0 := hx0.ext hal1
  replace hx1 := hx1.ext hal1
  replace hT := hT.ext hal1
  replace hbw := hbw.trans (hal1.mono hbw.size)
  clear hal1
  have HW1 := Lib.hid hW1; have Hs1 := Lib.hid hs1
  have Hhg1 := Lib.hid hg1
  clear hW1 hs1 hg1
  go_enter Tryd.func4, Tryd.ntmps4
  go_wp2_with fail
  rw [HW1.out]
  try rw [Hhg1.out]
  try rw [← Hs1.out]
  refine (iexample_ok W0 hT).mono ?_
  rintro e w1 ⟨rfl, hq2⟩
  replace hx0 := hx0.ext hq2
  replace hx1 := hx1.ext hq2
  replace hT := hT.ext hq2
  replace kx := kx.ext hq2
  replace hbw := hbw.trans (hq2.mono hbw.size)
  clear hq2
  have hc := add_ok (.slice A0 ids.length c0) (.slice A1 ts.length c1) ids ts id text w1 hx0 hx1 hsz hT
  unfold AddAt at hc
  rw [HA.out] at hc
  obtain ⟨kx0, kx1, kx2, kx3, _⟩ := kx.two
  go_wp2_with fail
  clear kx0 kx1 kx2 kx3
  refine (hc).mono ?_
  rintro e w2 ⟨a1, b1, rfl, ha0, ha1, hq3⟩
  clear hc
  dsimp only at ha0 ha1 ⊢
  obtain ⟨A2, c2, rfl, _, _⟩ := ha0.form
  obtain ⟨A3, c3, rfl, _, _⟩ := ha1.form
  replace hx0 := hx0.ext hq3
  replace hx1 := hx1.ext hq3
  replace hT := hT.ext hq3
  replace kx := kx.ext hq3
  replace hbw := hbw.trans (hq3.mono hbw.size)
  clear hq3
  obtain ⟨W2, g1, g2, hW4, hg4, hh4, hs4, kha, eha, hal4⟩ := box2 w2 #[.slice A2 ai.length c2, .slice A3 at_.length c3] 25 #[.int .i64 ae, .int .i64 af] 28
  replace hx0 := hx0.ext hal4
  replace hx1 := hx1.ext hal4
  replace hT := hT.ext hal4
  replace kx := kx.ext hal4
  replace ha0 := ha0.ext hal4
  replace ha1 := ha1.ext hal4
  replace hbw := hbw.trans (hal4.mono hbw.size)
  clear hal4
  have HW4 := Lib.hid hW4; have Hs4 := Lib.hid hs4
  have Hhg4 := Lib.hid hg4
  have Hhh4 := Lib.hid hh4
  clear hW4 hs4 hg4 hh4
  have hc := add_ok _ _ ai at_ other more W2 ha0 ha1 S1.out hT
  unfold AddAt at hc
  rw [HB.out] at hc
  obtain ⟨kha0, kha1, kha2, kha3, _⟩ := kha.two
  try rw [← HW4.out] at kha0; try rw [← Hhh4.out] at kha0; try rw [← Hhg4.out] at kha0
  try rw [← HW4.out] at kha1; try rw [← Hhh4.out] at kha1; try rw [← Hhg4.out] at kha1
  try rw [← HW4.out] at kha2; try rw [← Hhh4.out] at kha2; try rw [← Hhg4.out] at kha2
  try rw [← HW4.out] at kha3; try rw [← Hhh4.out] at kha3; try rw [← Hhg4.out] at kha3
  go_wp2_with fail
  rw [HW4.out]
  try rw [Hhg4.out]
  try rw [Hhh4.out]
  try rw [← Hs4.out]
  clear kha0 kha1 kha2 kha3
  refine (hc).mono ?_
  rintro e w3 ⟨a2, b2, rfl, hb0, hb1, hq5⟩
  clear hc
  dsimp only at hb0 hb1 ⊢
  obtain ⟨A4, c4, rfl, _, _⟩ := hb0.form
  obtain ⟨A5, c5, rfl, _, _⟩ := hb1.form
  replace hx0 := hx0.ext hq5
  replace hx1 := hx1.ext hq5
  replace hT := hT.ext hq5
  replace kx := kx.ext hq5
  replace ha0 := ha0.ext hq5
  replace ha1 := ha1.ext hq5
  replace kha := kha.ext hq5
  replace eha := eha.ext hq5
  replace hbw := hbw.trans (hq5.mono hbw.size)
  clear hq5
  obtain ⟨W3, g3, g4, hW6, hg6, hh6, hs6, khb, ehb, hal6⟩ := box2 w3 #[.slice A4 bi.length c4, .slice A5 bt.length c5] 25 #[.int .i64 be, .int .i64 bf] 28
  replace hx0 := hx0.ext hal6
  replace hx1 := hx1.ext hal6
  replace hT := hT.ext hal6
  replace kx := kx.ext hal6
  replace ha0 := ha0.ext hal6
  replace ha1 := ha1.ext hal6
  replace kha := kha.ext hal6
  replace eha := eha.ext hal6
  replace hb0 := hb0.ext hal6
  replace hb1 := hb1.ext hal6
  replace hbw := hbw.trans (hal6.mono hbw.size)
  clear hal6
  have HW6 := Lib.hid hW6; have Hs6 := Lib.hid hs6
  have Hhg6 := Lib.hid hg6
  have Hhh6 := Lib.hid hh6
  clear hW6 hs6 hg6 hh6
  have hc := add_ok (.slice A0 ids.length c0) (.slice A1 ts.length c1) ids ts other more W3 hx0 hx1 hsz hT
  unfold AddAt at hc
  rw [HC.out] at hc
  obtain ⟨kx0, kx1, kx2, kx3, _⟩ := kx.two
  try rw [← HW6.out] at kx0; try rw [← Hhh6.out] at kx0; try rw [← Hhg6.out] at kx0
  try rw [← HW6.out] at kx1; try rw [← Hhh6.out] at kx1; try rw [← Hhg6.out] at kx1
  try rw [← HW6.out] at kx2; try rw [← Hhh6.out] at kx2; try rw [← Hhg6.out] at kx2
  try rw [← HW6.out] at kx3; try rw [← Hhh6.out] at kx3; try rw [← Hhg6.out] at kx3
  go_wp2_with fail
  rw [HW6.out]
  try rw [Hhg6.out]
  try rw [Hhh6.out]
  try rw [← Hs6.out]
  clear kx0 kx1 kx2 kx3
  refine (hc).mono ?_
  rintro e w4 ⟨a3, b3, rfl, hc0, hc1, hq7⟩
  clear hc
  dsimp only at hc0 hc1 ⊢
  obtain ⟨A6, c6, rfl, _, _⟩ := hc0.form
  obtain ⟨A7, c7, rfl, _, _⟩ := hc1.form
  replace hx0 := hx0.ext hq7
  replace hx1 := hx1.ext hq7
  replace hT := hT.ext hq7
  replace kx := kx.ext hq7
  replace ha0 := ha0.ext hq7
  replace ha1 := ha1.ext hq7
  replace kha := kha.ext hq7
  replace eha := eha.ext hq7
  replace hb0 := hb0.ext hq7
  replace hb1 := hb1.ext hq7
  replace khb := khb.ext hq7
  replace ehb := ehb.ext hq7
  replace hbw := hbw.trans (hq7.mono hbw.size)
  clear hq7
  obtain ⟨W4, g5, g6, hW8, hg8, hh8, hs8, khc, ehc, hal8⟩ := box2 w4 #[.slice A6 ci.length c6, .slice A7 ct.length c7] 25 #[.int .i64 ce, .int .i64 cf] 28
  replace hx0 := hx0.ext hal8
  replace hx1 := hx1.ext hal8
  replace hT := hT.ext hal8
  replace kx := kx.ext hal8
  replace ha0 := ha0.ext hal8
  replace ha1 := ha1.ext hal8
  replace kha := kha.ext hal8
  replace eha := eha.ext hal8
  replace hb0 := hb0.ext hal8
  replace hb1 := hb1.ext hal8
  replace khb := khb.ext hal8
  replace ehb := ehb.ext hal8
  replace hc0 := hc0.ext hal8
  replace hc1 := hc1.ext hal8
  replace hbw := hbw.trans (hal8.mono hbw.size)
  clear hal8
  have HW8 := Lib.hid hW8; have Hs8 := Lib.hid hs8
  have Hhg8 := Lib.hid hg8
  have Hhh8 := Lib.hid hh8
  clear hW8 hs8 hg8 hh8
  have hc := add_ok _ _ ci ct id text W4 hc0 hc1 S3.out hT
  unfold AddAt at hc
  rw [HD.out] at hc
  obtain ⟨khc0, khc1, khc2, khc3, _⟩ := khc.two
  try rw [← HW8.out] at khc0; try rw [← Hhh8.out] at khc0; try rw [← Hhg8.out] at khc0
  try rw [← HW8.out] at khc1; try rw [← Hhh8.out] at khc1; try rw [← Hhg8.out] at khc1
  try rw [← HW8.out] at khc2; try rw [← Hhh8.out] at khc2; try rw [← Hhg8.out] at khc2
  try rw [← HW8.out] at khc3; try rw [← Hhh8.out] at khc3; try rw [← Hhg8.out] at khc3
  go_wp2_with fail
  rw [HW8.out]
  try rw [Hhg8.out]
  try rw [Hhh8.out]
  try rw [← Hs8.out]
  clear khc0 khc1 khc2 khc3
  refine (hc).mono ?_
  rintro e w5 ⟨a4, b4, rfl, hd0, hd1, hq9⟩
  clear hc
  dsimp only at hd0 hd1 ⊢
  obtain ⟨A8, c8, rfl, _, _⟩ := hd0.form
  obtain ⟨A9, c9, rfl, _, _⟩ := hd1.form
  replace hx0 := hx0.ext hq9
  replace hx1 := hx1.ext hq9
  replace hT := hT.ext hq9
  replace kx := kx.ext hq9
  replace ha0 := ha0.ext hq9
  replace ha1 := ha1.ext hq9
  replace kha := kha.ext hq9
  replace eha := eha.ext hq9
  replace hb0 := hb0.ext hq9
  replace hb1 := hb1.ext hq9
  replace khb := khb.ext hq9
  replace ehb := ehb.ext hq9
  replace hc0 := hc0.ext hq9
  replace hc1 := hc1.ext hq9
  replace khc := khc.ext hq9
  replace ehc := ehc.ext hq9
  replace hbw := hbw.trans (hq9.mono hbw.size)
  clear hq9
  obtain ⟨W5, g7, g8, hW10, hg10, hh10, hs10, khd, ehd, hal10⟩ := box2 w5 #[.slice A8 di.length c8, .slice A9 dt.length c9] 25 #[.int .i64 de, .int .i64 df] 28
  replace hx0 := hx0.ext hal10
  replace hx1 := hx1.ext hal10
  replace hT := hT.ext hal10
  replace kx := kx.ext hal10
  replace ha0 := ha0.ext hal10
  replace ha1 := ha1.ext hal10
  replace kha := kha.ext hal10
  replace eha := eha.ext hal10
  replace hb0 := hb0.ext hal10
  replace hb1 := hb1.ext hal10
  replace khb := khb.ext hal10
  replace ehb := ehb.ext hal10
  replace hc0 := hc0.ext hal10
  replace hc1 := hc1.ext hal10
  replace khc := khc.ext hal10
  replace ehc := ehc.ext hal10
  replace hd0 := hd0.ext hal10
  replace hd1 := hd1.ext hal10
  replace hbw := hbw.trans (hal10.mono hbw.size)
  clear hal10
  have HW10 := Lib.hid hW10; have Hs10 := Lib.hid hs10
  have Hhg10 := Lib.hid hg10
  have Hhh10 := Lib.hid hh10
  clear hW10 hs10 hg10 hh10
  have hc := sameIndex_ok _ _ _ _ (bi, bt) (di, dt) W5 hb0 hb1 hd0 hd1
  obtain ⟨eha0, eha1, eha2, eha3, _⟩ := eha.two
  try rw [← HW10.out] at eha0; try rw [← Hhh10.out] at eha0; try rw [← Hhg10.out] at eha0
  try rw [← HW10.out] at eha1; try rw [← Hhh10.out] at eha1; try rw [← Hhg10.out] at eha1
  try rw [← HW10.out] at eha2; try rw [← Hhh10.out] at eha2; try rw [← Hhg10.out] at eha2
  try rw [← HW10.out] at eha3; try rw [← Hhh10.out] at eha3; try rw [← Hhg10.out] at eha3
  obtain ⟨ehb0, ehb1, ehb2, ehb3, _⟩ := ehb.two
  try rw [← HW10.out] at ehb0; try rw [← Hhh10.out] at ehb0; try rw [← Hhg10.out] at ehb0
  try rw [← HW10.out] at ehb1; try rw [← Hhh10.out] at ehb1; try rw [← Hhg10.out] at ehb1
  try rw [← HW10.out] at ehb2; try rw [← Hhh10.out] at ehb2; try rw [← Hhg10.out] at ehb2
  try rw [← HW10.out] at ehb3; try rw [← Hhh10.out] at ehb3; try rw [← Hhg10.out] at ehb3
  obtain ⟨ehc0, ehc1, ehc2, ehc3, _⟩ := ehc.two
  try rw [← HW10.out] at ehc0; try rw [← Hhh10.out] at ehc0; try rw [← Hhg10.out] at ehc0
  try rw [← HW10.out] at ehc1; try rw [← Hhh10.out] at ehc1; try rw [← Hhg10.out] at ehc1
  try rw [← HW10.out] at ehc2; try rw [← Hhh10.out] at ehc2; try rw [← Hhg10.out] at ehc2
  try rw [← HW10.out] at ehc3; try rw [← Hhh10.out] at ehc3; try rw [← Hhg10.out] at ehc3
  obtain ⟨ehd0, ehd1, ehd2, ehd3, _⟩ := ehd.two
  try rw [← HW10.out] at ehd0; try rw [← Hhh10.out] at ehd0; try rw [← Hhg10.out] at ehd0
  try rw [← HW10.out] at ehd1; try rw [← Hhh10.out] at ehd1; try rw [← Hhg10.out] at ehd1
  try rw [← HW10.out] at ehd2; try rw [← Hhh10.out] at ehd2; try rw [← Hhg10.out] at ehd2
  try rw [← HW10.out] at ehd3; try rw [← Hhh10.out] at ehd3; try rw [← Hhg10.out] at ehd3
  obtain ⟨khb0, khb1, khb2, khb3, _⟩ := khb.two
  try rw [← HW10.out] at khb0; try rw [← Hhh10.out] at khb0; try rw [← Hhg10.out] at khb0
  try rw [← HW10.out] at khb1; try rw [← Hhh10.out] at khb1; try rw [← Hhg10.out] at khb1
  try rw [← HW10.out] at khb2; try rw [← Hhh10.out] at khb2; try rw [← Hhg10.out] at khb2
  try rw [← HW10.out] at khb3; try rw [← Hhh10.out] at khb3; try rw [← Hhg10.out] at khb3
  obtain ⟨khd0, khd1, khd2, khd3, _⟩ := khd.two
  try rw [← HW10.out] at khd0; try rw [← Hhh10.out] at khd0; try rw [← Hhg10.out] at khd0
  try rw [← HW10.out] at khd1; try rw [← Hhh10.out] at khd1; try rw [← Hhg10.out] at khd1
  try rw [← HW10.out] at khd2; try rw [← Hhh10.out] at khd2; try rw [← Hhg10.out] at khd2
  try rw [← HW10.out] at khd3; try rw [← Hhh10.out] at khd3; try rw [← Hhg10.out] at khd3
  by_cases h1 : ae = 0
  all_goals by_cases h2 : be = 0
  all_goals by_cases h3 : ce = 0
  case pos =>
    have h4 := Hcm.out h1 h2 h3
    injection h4 with h4 h5
    injection h5 with h5 h6
    injection h4 with h7 h8
    subst h1 h2 h3 h5 h6 h7 h8
    rw [beq_self_eq_true] at hc
    go_wp2_with fail
    rw [HW10.out]
    try rw [Hhg10.out]
    try rw [Hhh10.out]
    try rw [← Hs10.out]
    clear eha0 eha1 eha2 eha3
    clear ehb0 ehb1 ehb2 ehb3
    clear ehc0 ehc1 ehc2 ehc3
    clear ehd0 ehd1 ehd2 ehd3
    clear khb0 khb1 khb2 khb3
    clear khd0 khd1 khd2 khd3
    refine (hc).mono ?_
    rintro e w6 ⟨rfl, hq11⟩
    clear hc
    replace hx0 := hx0.ext hq11
    replace hx1 := hx1.ext hq11
    replace hT := hT.ext hq11
    replace kx := kx.ext hq11
    replace ha0 := ha0.ext hq11
    replace ha1 := ha1.ext hq11
    replace kha := kha.ext hq11
    replace eha := eha.ext hq11
    replace hb0 := hb0.ext hq11
    replace hb1 := hb1.ext hq11
    replace khb := khb.ext hq11
    replace ehb := ehb.ext hq11
    replace hc0 := hc0.ext hq11
    replace hc1 := hc1.ext hq11
    replace khc := khc.ext hq11
    replace ehc := ehc.ext hq11
    replace hd0 := hd0.ext hq11
    replace hd1 := hd1.ext hq11
    replace khd := khd.ext hq11
    replace ehd := ehd.ext hq11
    replace hbw := hbw.trans (hq11.mono hbw.size)
    clear hq11
    go_wp2
    go_ret
    exact ⟨rfl, hbw⟩
  all_goals
    first | (have e1 : (ae != 0) = false := by simpa using h1) | (have e1 : (ae != 0) = true := by simpa using h1)
    first | (have e2 : (be != 0) = false := by simpa using h2) | (have e2 : (be != 0) = true := by simpa using h2)
    first | (have e3 : (ce != 0) = false := by simpa using h3) | (have e3 : (ce != 0) = true := by simpa using h3)
    clear h1 h2 h3 hc
    go_wp2
    go_ret
    exact ⟨rfl, by have := hbw; rw [← HW10.out] at this; exact this⟩
end Go.Proofs.YtngdfjlodblagaaDoor
/-
  The walks of two of the indexes' laws, as their rows take them.
-/
namespace Go.Proofs.YtngdfjlodblagaaDoor
open Go.RowKit
theorem irem_row (a0 : Array Value) (x0 : Ix.Idx) (id : Int) (text : Str) (w : World) (h0 : idxC.rd M0 w (Value.agg a0).cells.toList x0) (z0 : szIdx x0) (hT : TabsU w) :
    Calls Tryd.prog 3 #[.agg a0, .int .i64 id, .string (bs text)] w fun e w' => e = .returned (.bool true) ∧ Below w.heap.size w w' := by
  obtain ⟨u, v, e, h1, h2⟩ := idx_of_rd h0
  rw [e]
  exact irem_ok u v x0.1 x0.2 id text w h1 h2 (szIdx_sz z0) hT
theorem iord_row (a0 : Array Value) (x0 : Ix.Idx) (id : Int) (text : Str) (other : Int) (more : Str) (w : World) (h0 : idxC.rd M0 w (Value.agg a0).cells.toList x0) (z0 : szIdx x0) (hT : TabsU w) :
    Calls Tryd.prog 4 #[.agg a0, .int .i64 id, .string (bs text), .int .i64 other, .string (bs more)] w fun e w' => e = .returned (.bool true) ∧ Below w.heap.size w w' := by
  obtain ⟨u, v, e, h1, h2⟩ := idx_of_rd h0
  rw [e]
  exact iord_ok u v x0.1 x0.2 id text other more w h1 h2 (szIdx_sz z0) hT
end Go.Proofs.YtngdfjlodblagaaDoor

/-
  QueryParseMatchesSpec: the law's walk.
-/
import Derived.Test.YtihhgmpanfboaaaGreatDoorRf9
import Derived.Test.YtihhgmpanfboaaaGreatDoorK27
namespace Go.Proofs.YtihhgmpanfboaaaGreatDoor
open Go.RowKit
set_option linter.unusedVariables false
set_option maxRecDepth 100000 in
set_option maxHeartbeats 8000000 in
theorem qparse_ok (s : Str) (w : World) (hm : s.length ≤ maxLen) (hT : TabsU w) (hC : CutV w) : Calls Tryz.prog 4 #[.string (bs s)] w fun e w' => e = .returned (.bool true) ∧ Below w.heap.size w w' := by
  obtain ⟨⟨P, pa, pb⟩, hP⟩ : ∃ P, Q.parseF s = P := ⟨_, rfl⟩
  have hp := parse_ok s hm w hT
  have hq := fun V (hv : Below w.heap.size w V) => queryOf_ok s hm V (hT.ext hv)
  rw [hP] at hp
  simp only [hP] at hq
  have hcmp := fun V => eq_fault_same pa pb V
  have Hp := Lib.hid hp; have Hq := Lib.hid hq; have HT := Lib.hid hT; have HC := Lib.hid hC
  clear hp hq hT hC hP hm
  go_enter Tryz.func4, Tryz.ntmps4
  go_wp2_with fail
  refine Hp.out.mono ?_
  clear Hp
  rintro e w1 ⟨f1, v1, rfl, hx, hb1⟩
  dsimp only at hx ⊢
  replace hx : QAt f1 M0 w1 v1 P := hx.sub fun b _ h => h.elim
  obtain ⟨va, vb, vc, vd, rfl, _, rfl, rfl, rfl, xA, xc, rfl⟩ := hx.cellsOf
  obtain ⟨xk, hxk⟩ : ∃ k, P.kind = k := ⟨_, rfl⟩
  obtain ⟨xt, hxt⟩ : ∃ k, bs P.text = k := ⟨_, rfl⟩
  obtain ⟨xn, hxn⟩ : ∃ k, P.num = k := ⟨_, rfl⟩
  obtain ⟨xl, hxl⟩ : ∃ k, P.parts.length = k := ⟨_, rfl⟩
  rw [hxk, hxt, hxn, hxl] at hx ⊢
  obtain ⟨W1, g1, hW1, hg1, hs1, k1, m1, hal1⟩ := boxPair w1 #[.int .i64 xk, .string xt, .int .i64 xn, .slice xA xl xc] 24 #[.int .i64 pa, .int .i64 pb] 26
  have hbW1 := hb1.trans (hal1.mono hb1.size)
  have Hx := Lib.hid (hx.ext hal1); have HbW1 := Lib.hid hbW1; have K1 := Lib.hid k1; have M1 := Lib.hid m1; have HW1 := Lib.hid hW1
  clear hx hbW1 k1 m1 hW1 hs1 hb1 hal1 hxk hxt hxn hxl
  go_wp2_with fail
  rw [HW1.out]
  refine (Hq.out W1 HbW1.out).mono ?_
  clear Hq
  rintro e w2 ⟨f2, v2, rfl, hy, hb2⟩
  dsimp only at hy ⊢
  replace hy : QAt f2 M0 w2 v2 P := hy.sub fun b _ h => h.elim
  obtain ⟨va, vb, vc, vd, rfl, _, rfl, rfl, rfl, yA, yc, rfl⟩ := hy.cellsOf
  obtain ⟨yk, hyk⟩ : ∃ k, P.kind = k := ⟨_, rfl⟩
  obtain ⟨yt, hyt⟩ : ∃ k, bs P.text = k := ⟨_, rfl⟩
  obtain ⟨yn, hyn⟩ : ∃ k, P.num = k := ⟨_, rfl⟩
  obtain ⟨yl, hyl⟩ : ∃ k, P.parts.length = k := ⟨_, rfl⟩
  rw [hyk, hyt, hyn, hyl] at hy ⊢
  obtain ⟨W2, g2, hW2, hg2, hs2, k2, m2, hal2⟩ := boxPair w2 #[.int .i64 yk, .string yt, .int .i64 yn, .slice yA yl yc] 24 #[.int .i64 pa, .int .i64 pb] 26
  have hbW2 := hb2.trans (hal2.mono hb2.size)
  have hb02 := HbW1.out.trans (hbW2.mono HbW1.out.size)
  have Hy := Lib.hid (hy.ext hal2); have Hx2 := Lib.hid (Hx.out.ext hbW2); have Hb02 := Lib.hid hb02; have K2 := Lib.hid k2; have M2 := Lib.hid m2; have K12 := Lib.hid (K1.out.ext hbW2); have M12 := Lib.hid (M1.out.ext hbW2); have HW2 := Lib.hid hW2
  clear hy hbW2 hb02 k2 m2 hW2 hs2 hb2 hal2 hyk hyt hyn hyl
  go_wp2_with fail
  rw [HW2.out]
  have hex := qexample_ok W2 (HT.out.ext Hb02.out) (HC.out.ext Hb02.out)
  refine hex.mono ?_
  clear hex
  rintro e w3 ⟨rfl, hb3⟩
  obtain ⟨x0, x1, x2, x3, _⟩ := (K12.out.ext hb3).four
  obtain ⟨x4, x5, _⟩ := (M12.out.ext hb3).two
  obtain ⟨y0, y1, y2, y3, _⟩ := (K2.out.ext hb3).four
  obtain ⟨y4, y5, _⟩ := (M2.out.ext hb3).two
  have hsm := same_true (Hx2.out.ext hb3) (Hy.out.ext hb3) rfl
  have hb03 := Hb02.out.trans (hb3.mono Hb02.out.size)
  have Hsm := Lib.hid hsm; have Hb03 := Lib.hid hb03
  clear hsm hb03 hb3
  go_wp2_with fail
  refine Hsm.out.mono ?_
  clear Hsm
  rintro e w4 ⟨rfl, hb4⟩
  go_wp2_with fail
  go_ret
  exact ⟨rfl, Hb03.out.trans (hb4.mono Hb03.out.size)⟩
end Go.Proofs.YtihhgmpanfboaaaGreatDoor

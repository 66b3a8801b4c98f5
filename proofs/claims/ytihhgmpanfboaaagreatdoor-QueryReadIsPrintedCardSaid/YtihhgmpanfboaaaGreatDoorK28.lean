/-
  Contracts and plain facts, one after another: QueryPrintedIsRead: the law's walk; The walk of QueryPrintedIsRead, as its row takes it.
-/
import Derived.Test.YtihhgmpanfboaaaGreatDoorK27
import Derived.Test.YtihhgmpanfboaaaGreatDoorQyCu
namespace Go.Proofs.YtihhgmpanfboaaaGreatDoor
open Go.RowKit
set_option linter.unusedVariables false
set_option maxRecDepth 100000 in
set_option maxHeartbeats 8000000 in
theorem qprinted_ok (v : Value) (q : Q) (f : Nat) (w : World) (hx : QAt f M0 w v q) (hbk : q.bulk ≤ 1048576) (hT : TabsU w) (hC : CutV w) : Calls Tryz.prog 5 #[v] w fun e w' => e = .returned (.bool true) ∧ Below w.heap.size w w' := by
  have hpp : (Q.printF q).2.1 ≠ 0 ∧ (Q.printF q).1 = [] ∨ Q.printF q = (Q.textF 8 q, 0, 0) ∧ (Q.textF 8 q).length ≤ 4000 ∧ Q.parseF (Q.textF 8 q) = (q, 0, 0) := by
    unfold Q.printF
    by_cases hf : (Q.fault q).1 = 0
    · rw [if_neg (by simpa using hf)]
      by_cases hl : 4000 < (Q.textF 8 q).length
      · rw [if_pos hl]; exact .inl ⟨by simp, rfl⟩
      · rw [if_neg hl]; exact .inr ⟨rfl, by omega, Q.parseF_text hf (by omega)⟩
    · rw [if_pos hf]; exact .inl ⟨hf, rfl⟩
  have hpr := fun V (hv : Below w.heap.size w V) => print_ok f q v V (hx.ext hv) (by omega) (hT.ext hv) (hC.ext hv)
  obtain ⟨va, vb, vc, vd, rfl, _, rfl, rfl, rfl, xA, xc, rfl⟩ := hx.cellsOf
  obtain ⟨xk, hxk⟩ : ∃ k, q.kind = k := ⟨_, rfl⟩
  obtain ⟨xt, hxt⟩ : ∃ k, bs q.text = k := ⟨_, rfl⟩
  obtain ⟨xn, hxn⟩ : ∃ k, q.num = k := ⟨_, rfl⟩
  obtain ⟨xl, hxl⟩ : ∃ k, q.parts.length = k := ⟨_, rfl⟩
  rw [hxk, hxt, hxn, hxl] at hx hpr ⊢
  obtain ⟨W1, g1, hW1, hg1, hs1, k1, hal1⟩ := boxA w #[.int .i64 xk, .string xt, .int .i64 xn, .slice xA xl xc] 24
  obtain ⟨⟨T, pa, pb⟩, hP⟩ : ∃ P, Q.printF q = P := ⟨_, rfl⟩
  simp only [hP] at hpr
  rw [hP] at hpp
  dsimp only at hpp
  have hex := qexample_ok W1 (hT.ext hal1) (hC.ext hal1)
  have Hx := Lib.hid (hx.ext hal1); have K1 := Lib.hid k1; have HW1 := Lib.hid hW1; have Hal := Lib.hid hal1; have Hpr := Lib.hid hpr; have Hpp := Lib.hid hpp; have HT := Lib.hid hT; have HC := Lib.hid hC; have Hex := Lib.hid hex
  clear hx k1 hW1 hs1 hal1 hpr hpp hT hC hP hex hbk hxk hxt hxn hxl
  go_enter Tryz.func5, Tryz.ntmps5
  go_wp2_with fail
  rw [HW1.out]
  try rw [hg1]
  refine Hex.out.mono ?_
  clear Hex
  rintro e w2 ⟨rfl, hb2⟩
  have hb02 := Hal.out.trans (hb2.mono Hal.out.size)
  obtain ⟨x0, x1, x2, x3, _⟩ := (K1.out.ext hb2).four
  have Hb2 := Lib.hid hb2; have Hb02 := Lib.hid hb02
  clear hb2 hb02
  go_wp2_with fail
  refine (Hpr.out w2 Hb02.out).mono ?_
  clear Hpr
  rintro e w3 ⟨rfl, hb3⟩
  obtain ⟨W3, g3, hW3, hg3, hs3, k3, hal3⟩ := boxA w3 #[.int .i64 pa, .int .i64 pb] 26
  have hb23 := hb3.trans (hal3.mono hb3.size)
  have hb03 := Hb02.out.trans (hb23.mono Hb02.out.size)
  have K13 := Lib.hid ((K1.out.ext Hb2.out).ext hb23); have Hx3 := Lib.hid ((Hx.out.ext Hb2.out).ext hb23); have Hb03 := Lib.hid hb03
  obtain ⟨z0, z1, _⟩ := k3.two
  clear hb3 hal3 hs3 k3 hb23 hb03 x0 x1 x2 x3
  rcases Hpp.out with ⟨h1, h2⟩ | ⟨h1, h2, h3⟩
  · subst h2
    have h1n : (pa != 0) = true := by simpa using h1
    have h1e : (pa == 0) = false := by simpa using h1
    clear h1 Hpp
    go_wp2_with fail
    go_ret
    exact ⟨rfl, Hb03.out⟩
  · injection h1 with e1 e2
    injection e2 with e2 e3
    have h1n : (pa != 0) = false := by rw [e2]; rfl
    have h1e : (pa == 0) = true := by rw [e2]; rfl
    clear e2 e3
    have hpa := fun V (hv : Below w.heap.size w V) => parse_ok T (by rw [e1]; unfold maxLen; omega) V (HT.out.ext hv)
    rw [← e1] at h3
    obtain ⟨ra, hra⟩ : ∃ x : Int, (0 : Int) = x := ⟨0, rfl⟩
    obtain ⟨rb, hrb⟩ : ∃ x : Int, (0 : Int) = x := ⟨0, rfl⟩
    rw [show ((q, 0, 0) : Q × Int × Int) = (q, ra, rb) from by rw [← hra, ← hrb]] at h3
    have h2n : (ra != 0) = false := by rw [← hra]; rfl
    have h2e : (ra == 0) = true := by rw [← hra]; rfl
    simp only [h3] at hpa
    clear hra hrb
    have Hpa := Lib.hid hpa
    clear hpa h3 h2 e1 Hpp
    go_wp2_with fail
    refine (Hpa.out W3 Hb03.out).mono ?_
    clear Hpa hW3 hg3 z0 z1
    rintro e w4 ⟨f4, v4, rfl, hy, hb4⟩
    dsimp only at hy ⊢
    replace hy : QAt f4 M0 w4 v4 q := hy.sub fun b _ h => h.elim
    obtain ⟨va, vb, vc, vd, rfl, _, rfl, rfl, rfl, yA, yc, rfl⟩ := hy.cellsOf
    obtain ⟨yk, hyk⟩ : ∃ k, q.kind = k := ⟨_, rfl⟩
    obtain ⟨yt, hyt⟩ : ∃ k, bs q.text = k := ⟨_, rfl⟩
    obtain ⟨yn, hyn⟩ : ∃ k, q.num = k := ⟨_, rfl⟩
    obtain ⟨yl, hyl⟩ : ∃ k, q.parts.length = k := ⟨_, rfl⟩
    rw [hyk, hyt, hyn, hyl] at hy ⊢
    obtain ⟨W5, g5, hW5, hg5, hs5, k5, m5, hal5⟩ := boxPair w4 #[.int .i64 yk, .string yt, .int .i64 yn, .slice yA yl yc] 24 #[.int .i64 ra, .int .i64 rb] 26
    have hb45 := hb4.trans (hal5.mono hb4.size)
    obtain ⟨x0, x1, x2, x3, _⟩ := (K13.out.ext hb45).four
    obtain ⟨y0, y1, y2, y3, _⟩ := k5.four
    obtain ⟨y4, y5, _⟩ := m5.two
    have hsm := same_true (hy.ext hal5) (Hx3.out.ext hb45) rfl
    have Hsm := Lib.hid hsm; have Hb05 := Lib.hid (Hb03.out.trans (hb45.mono Hb03.out.size))
    clear hsm hy hb4 hs5 k5 m5 hal5 hb45 hyk hyt hyn hyl
    go_wp2_with fail
    refine Hsm.out.mono ?_
    clear Hsm
    rintro e w6 ⟨rfl, hb6⟩
    go_wp2_with fail
    go_ret
    exact ⟨rfl, Hb05.out.trans (hb6.mono Hb05.out.size)⟩
end Go.Proofs.YtihhgmpanfboaaaGreatDoor
namespace Go.Proofs.YtihhgmpanfboaaaGreatDoor
open Go.RowKit
theorem qprinted_row (a : Array Value) (f : Nat) (p : Q) (w : World) (h : QAt f M0 w (.agg a) p) (hb : p.bulk ≤ 1048576) (hT : TabsU w) (hC : CutV w) :
    Calls Tryz.prog 5 #[.agg a] w fun e w' => e = .returned (.bool true) ∧ Below w.heap.size w w' := qprinted_ok _ p f w h hb hT hC
end Go.Proofs.YtihhgmpanfboaaaGreatDoor

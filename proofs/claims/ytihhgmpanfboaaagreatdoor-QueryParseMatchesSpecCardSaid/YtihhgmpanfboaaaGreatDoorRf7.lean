/-
  The reference of the reader: term, by its first byte.
-/
import Derived.Test.YtihhgmpanfboaaaGreatDoorK26
namespace Go.Proofs.YtihhgmpanfboaaaGreatDoor
open Go.RowKit
set_option linter.unusedVariables false
set_option maxRecDepth 100000 in
set_option maxHeartbeats 8000000 in
theorem fterm_minus (w0 : World) (hT : TabsU w0) (s : Str) (hs : s.length ≤ 4000) (n : Nat) (T : Str → Q.Res) (hTc : TermR w0 s n T) (t : Str) (w : World) (hr : (45 :: t) <:+ s) (hrn : t.length ≤ n) (hb0 : Below w0.heap.size w0 w) (R : Q.Res) (hR : (match T t with | .ok q u => Q.Res.ok (.node 8 [] 0 [q]) u | .err u => .err u) = R) :
    Calls Tryz.prog 61 #[.string (bs s), .int .i64 ((s.length - (45 :: t : Str).length : Nat) : Int)] w (FRes s w R) := by
  have hrl := hr.length_le
  obtain ⟨ht1, ht2⟩ := suf_tail hr
  obtain ⟨i, hi⟩ : ∃ i, s.length - (45 :: t : Str).length = i := ⟨_, rfl⟩
  rw [hi] at ht2 ⊢
  rw [List.length_cons] at hrl
  have hi2 := hi
  rw [List.length_cons] at hi2
  have hw : IntKind.i64.wrap ((i : Int) + 1) = ((i + 1 : Nat) : Int) := by rw [show (i : Int) + 1 = ((i + 1 : Nat) : Int) by omega]; exact IntWalk.i64_in _ (by omega)
  obtain ⟨W, gR, hW, hgR, hsR, kr, hal⟩ := boxA w #[.int .i64 0, .string ⟨#[]⟩, .int .i64 0, .slice none 0 0] 24
  have hWs : w.heap.size ≤ W.heap.size := hal.size
  have hgw : w.heap.size ≤ gR := by omega
  have hgB : gR < W.heap.size := by omega
  have HW := Lib.hid hW; have HgR := Lib.hid hgR; have Hk := Lib.hid kr; have HR := Lib.hid hR; have Hal := Lib.hid hal; have Hr := Lib.hid hr; have Hi := Lib.hid hi; have Ht1 := Lib.hid ht1; have Ht2 := Lib.hid ht2; have HT := Lib.hid hT
  have Hb0 := Lib.hid (hb0.trans (hal.mono hb0.size))
  have HTc := Lib.hid hTc
  clear hW hgR hsR kr hal hr hb0 hT hR hTc hi hi2 ht1 ht2
  go_enter Tryz.func61, Tryz.ntmps61
  go_wp2_with fail
  rw [HW.out]
  try rw [HgR.out]
  have his := fis_ok s (45 :: t) Hr.out hs 45 (by decide) W
  rw [Hi.out, show ((45 :: t : Str).headD 0 == 45) = true from by rw [List.headD_cons]; decide] at his
  refine his.mono ?_
  clear his
  rintro e w_1 ⟨rfl, hbx⟩
  have Hb_1 := Lib.hid (hbx)
  clear hbx
  have htc := HTc.out t w_1 Ht1.out hrn (Hb0.out.trans (Hb_1.out.mono Hb0.out.size))
  rw [Ht2.out] at htc
  have Htc := Lib.hid htc
  clear htc
  go_wp2_with fail
  refine Htc.out.mono ?_
  clear Htc
  rintro e w5 ⟨f5, v5, q4, u4, ok4, rfl, hq5, hu4, hb5, hres⟩
  obtain ⟨va, vb, vc, vd, rfl, _, rfl, rfl, rfl, Ap2, cp2, rfl⟩ := hq5.cellsOf
  obtain ⟨qk2, hqk⟩ : ∃ k, q4.kind = k := ⟨_, rfl⟩
  obtain ⟨qt2, hqt⟩ : ∃ k, bs q4.text = k := ⟨_, rfl⟩
  obtain ⟨qn2, hqn⟩ : ∃ k, q4.num = k := ⟨_, rfl⟩
  obtain ⟨ql2, hql⟩ : ∃ k, q4.parts.length = k := ⟨_, rfl⟩
  obtain ⟨j, hj⟩ : ∃ j, s.length - u4.length = j := ⟨_, rfl⟩
  rw [hqk, hqt, hqn, hql] at hq5 ⊢
  rw [hj]
  have hul4 := hu4.length_le
  have hR : R = okRes ok4 (.node 8 [] 0 [q4]) u4 := by
    rw [← HR.out, hres]
    cases ok4 <;> rfl
  obtain ⟨W2, g2, hW2, hg2, hs2, k2, hal2⟩ := boxA w5 #[.int .i64 qk2, .string qt2, .int .i64 qn2, .slice Ap2 ql2 cp2] 24
  have hb5W := hb5.trans (hal2.mono hb5.size)
  have hb2W := Hb_1.out.trans (hb5W.mono Hb_1.out.size)
  have hB2 : W.heap.size ≤ W2.heap.size := hb2W.size
  have hw01 : W.heap.size ≤ w_1.heap.size := Hb_1.out.size
  have hrdW : (qF (f5 + 1)).rd (fun b => b < W.heap.size) W2 [.int .i64 qk2, .string qt2, .int .i64 qn2, .slice Ap2 ql2 cp2] q4 := by
    have := ((hq5.ext hal2).sub (M' := fun b => b < W.heap.size) fun b _ (h : b < W.heap.size) => (by omega : b < w_1.heap.size)).rd; simpa [Value.cells] using this
  have own0 : Own (qF (f5 + 1)) (fun b => b < W.heap.size) (W2.alloc (.cells [.int .i64 qk2, .string qt2, .int .i64 qn2, .slice Ap2 ql2 cp2].toArray 24)) W.heap.size 24 (.slice (some ⟨W2.heap.size, 0, none⟩) [q4].length [q4].length) [q4] :=
    Own.built (w := W2) (C := qF (f5 + 1)) 24 (Els.single hrdW) hB2 (by simp [maxLen])
  obtain ⟨W3, g3, hW3, hg3, hs3, _, hal3⟩ := boxA W2 #[.int .i64 qk2, .string qt2, .int .i64 qn2, .slice Ap2 ql2 cp2] 24
  have hsl : (Value.slice (some ⟨W2.heap.size, 0, none⟩) [q4].length [q4].length) = .slice (some ⟨g3, 0, none⟩) 1 1 := by rw [hg3]; rfl
  rw [hsl] at own0
  rw [show (W2.alloc (.cells [.int .i64 qk2, .string qt2, .int .i64 qn2, .slice Ap2 ql2 cp2].toArray 24)) = W3 from hW3] at own0
  have hbW := hb2W.trans (hal3.mono hb2W.size)
  obtain ⟨x0, x1, x2, x3, _⟩ := k2.four
  have hqn9 : QAt (f5 + 1) (fun b => b < W.heap.size) W3 (.agg #[.int .i64 8, .string ⟨#[]⟩, .int .i64 0, .slice (some ⟨g3, 0, none⟩) 1 1]) (.node 8 [] 0 [q4]) :=
    ⟨_, _, rfl, by simp, by simp [maxLen], by simp, own0.readG (Nat.le_refl _)⟩
  have kR := Hk.out.ext hbW
  obtain ⟨z0, z1, z2, z3, _⟩ := kR.four
  have z4 := kR.frozen 0; have z5 := kR.frozen 1; have z6 := kR.frozen 2; have z7 := kR.frozen 3
  obtain ⟨W9, hW9, y0, y1, y2, y3, hfin⟩ := ffin (w := w) (ok := ok4) (.int .i64 8) (.string ⟨#[]⟩) (.int .i64 0) (.slice (some ⟨g3, 0, none⟩) 1 1) kR hgw (Hal.out.trans (hbW.mono hWs)) (hqn9) hgB hWs hu4 hR j hj
  have HW9 := Lib.hid hW9; have Hfin := Lib.hid hfin; have Hy := Lib.hid (And.intro y0 (And.intro y1 (And.intro y2 y3)))
  clear hW9 hfin kR hbW y0 y1 y2 y3 hqk hqt hqn hql hj hq5 own0 hb2W hb5W hb5 hal2 k2 hs2 hu4 hR hres hs3 hal3 hrdW hqn9 hsl HR
  go_wp2_with fail
  rw [HW9.out]
  obtain ⟨y0, y1, y2, y3⟩ := Hy.out
  exact bodyPost_ret (v := .tuple #[.agg #[.int .i64 8, .string ⟨#[]⟩, .int .i64 0, .slice (some ⟨g3, 0, none⟩) 1 1], .int .i64 (j : Int), .bool ok4]) (by simp [results, Tryz.results61, go_sem, y0, y1, y2, y3]) rfl Hfin.out
set_option maxRecDepth 100000 in
set_option maxHeartbeats 8000000 in
theorem fterm_paren (w0 : World) (hT : TabsU w0) (s : Str) (hs : s.length ≤ 4000) (n : Nat) (T : Str → Q.Res) (hTs : Q.Short T) (hTi : Q.Idle T) (hTc : TermR w0 s n T) (t : Str) (w : World) (hr : (40 :: t) <:+ s) (hrn : t.length ≤ n) (hb0 : Below w0.heap.size w0 w) (R : Q.Res) (hR : (match Q.eitherOf T t with | .ok q u => (if u.headD 0 = 41 then Q.Res.ok q u.tail else .err u) | .err u => .err u) = R) :
    Calls Tryz.prog 61 #[.string (bs s), .int .i64 ((s.length - (40 :: t : Str).length : Nat) : Int)] w (FRes s w R) := by
  have hrl := hr.length_le
  obtain ⟨ht1, ht2⟩ := suf_tail hr
  obtain ⟨i, hi⟩ : ∃ i, s.length - (40 :: t : Str).length = i := ⟨_, rfl⟩
  rw [hi] at ht2 ⊢
  rw [List.length_cons] at hrl
  have hi2 := hi
  rw [List.length_cons] at hi2
  have hw : IntKind.i64.wrap ((i : Int) + 1) = ((i + 1 : Nat) : Int) := by rw [show (i : Int) + 1 = ((i + 1 : Nat) : Int) by omega]; exact IntWalk.i64_in _ (by omega)
  obtain ⟨W, gR, hW, hgR, hsR, kr, hal⟩ := boxA w #[.int .i64 0, .string ⟨#[]⟩, .int .i64 0, .slice none 0 0] 24
  have hWs : w.heap.size ≤ W.heap.size := hal.size
  have hgw : w.heap.size ≤ gR := by omega
  have hgB : gR < W.heap.size := by omega
  have HW := Lib.hid hW; have HgR := Lib.hid hgR; have Hk := Lib.hid kr; have HR := Lib.hid hR; have Hal := Lib.hid hal; have Hr := Lib.hid hr; have Hi := Lib.hid hi; have Ht1 := Lib.hid ht1; have Ht2 := Lib.hid ht2; have HT := Lib.hid hT
  have Hb0 := Lib.hid (hb0.trans (hal.mono hb0.size))
  replace hR := (Q.fin_paren (Q.eitherOf T t)).trans hR
  replace HR := Lib.hid hR
  have HTc := Lib.hid hTc; have HTs := Lib.hid hTs; have HTi := Lib.hid hTi
  clear hW hgR hsR kr hal hr hb0 hT hR hTc hTs hTi hi hi2 ht1 ht2
  go_enter Tryz.func61, Tryz.ntmps61
  go_wp2_with fail
  rw [HW.out]
  try rw [HgR.out]
  have his := fis_ok s (40 :: t) Hr.out hs 45 (by decide) W
  rw [Hi.out, show ((40 :: t : Str).headD 0 == 45) = false from by rw [List.headD_cons]; decide] at his
  refine his.mono ?_
  clear his
  rintro e w_1 ⟨rfl, hbx⟩
  have Hb_1 := Lib.hid (hbx)
  clear hbx
  go_wp2_with fail
  have his := fis_ok s (40 :: t) Hr.out hs 40 (by decide) w_1
  rw [Hi.out, show ((40 :: t : Str).headD 0 == 40) = true from by rw [List.headD_cons]; decide] at his
  refine his.mono ?_
  clear his
  rintro e w_2 ⟨rfl, hbx⟩
  have Hb_2 := Lib.hid (Hb_1.out.trans (hbx.mono Hb_1.out.size))
  clear hbx
  have htc := fdisj_ok w0 HT.out s hs n T HTs.out HTi.out HTc.out t w_2 Ht1.out hrn (Hb0.out.trans (Hb_2.out.mono Hb0.out.size))
  rw [Ht2.out] at htc
  have Htc := Lib.hid htc
  clear htc
  go_wp2_with fail
  refine Htc.out.mono ?_
  clear Htc
  rintro e w5 ⟨f5, v5, q4, u4, ok4, rfl, hq5, hu4, hb5, hres⟩
  obtain ⟨va, vb, vc, vd, rfl, _, rfl, rfl, rfl, Ap2, cp2, rfl⟩ := hq5.cellsOf
  obtain ⟨qk2, hqk⟩ : ∃ k, q4.kind = k := ⟨_, rfl⟩
  obtain ⟨qt2, hqt⟩ : ∃ k, bs q4.text = k := ⟨_, rfl⟩
  obtain ⟨qn2, hqn⟩ : ∃ k, q4.num = k := ⟨_, rfl⟩
  obtain ⟨ql2, hql⟩ : ∃ k, q4.parts.length = k := ⟨_, rfl⟩
  obtain ⟨j, hj⟩ : ∃ j, s.length - u4.length = j := ⟨_, rfl⟩
  rw [hqk, hqt, hqn, hql] at hq5 ⊢
  rw [hj]
  have hul4 := hu4.length_le
  obtain ⟨W2, g2, hW2, hg2, hs2, k2, hal2⟩ := boxA w5 #[.int .i64 qk2, .string qt2, .int .i64 qn2, .slice Ap2 ql2 cp2] 24
  have hb5W := hb5.trans (hal2.mono hb5.size)
  have hb2W := Hb_2.out.trans (hb5W.mono Hb_2.out.size)
  have hw01 : W.heap.size ≤ w_2.heap.size := Hb_2.out.size
  have hq2 := (hq5.ext hal2).sub (M' := fun b => b < W.heap.size) fun b _ (h : b < W.heap.size) => (by omega : b < w_2.heap.size)
  have Hq2 := Lib.hid hq2; have Hb2W := Lib.hid hb2W; have Hu4 := Lib.hid hu4; have Hj := Lib.hid hj; have HK2 := Lib.hid k2
  obtain ⟨x0, x1, x2, x3, _⟩ := k2.four
  clear hqk hqt hqn hql hj hq5 hb5W hb2W hb5 hal2 k2 hs2 hu4 hq2
  cases ok4 with
  | false =>
    have hR : R = okRes false q4 u4 := by rw [← HR.out, hres]; rfl
    have hbW := Hb2W.out
    have kR := Hk.out.ext hbW
    obtain ⟨z0, z1, z2, z3, _⟩ := kR.four
    have z4 := kR.frozen 0; have z5 := kR.frozen 1; have z6 := kR.frozen 2; have z7 := kR.frozen 3
    obtain ⟨W9, hW9, y0, y1, y2, y3, hfin⟩ := ffin (w := w) (ok := false) (.int .i64 qk2) (.string qt2) (.int .i64 qn2) (.slice Ap2 ql2 cp2) kR hgw (Hal.out.trans (hbW.mono hWs)) (Hq2.out) hgB hWs Hu4.out hR j Hj.out
    have HW9 := Lib.hid hW9; have Hfin := Lib.hid hfin; have Hy := Lib.hid (And.intro y0 (And.intro y1 (And.intro y2 y3)))
    clear hW9 hfin kR hbW y0 y1 y2 y3 hR hres
    go_wp2_with fail
    rw [HW9.out]
    obtain ⟨y0, y1, y2, y3⟩ := Hy.out
    exact bodyPost_ret (v := .tuple #[.agg #[.int .i64 qk2, .string qt2, .int .i64 qn2, .slice Ap2 ql2 cp2], .int .i64 (j : Int), .bool false]) (by simp [results, Tryz.results61, go_sem, y0, y1, y2, y3]) rfl Hfin.out
  | true =>
    have his := fis_ok s u4 Hu4.out hs 41 (by decide) W2
    rw [Hj.out] at his
    have hR := HR.out
    change _ = Q.Res.ok q4 u4 at hres
    rw [hres] at hR
    dsimp only at hR
    by_cases h41 : u4.headD 0 = 41
    · obtain ⟨t2, rfl⟩ := headD_cons_of h41 (by decide)
      rw [if_pos h41, List.tail_cons] at hR
      rw [h41] at his
      obtain ⟨hu5, hu6⟩ := suf_tail Hu4.out
      rw [Hj.out] at hu6
      have hw2 : IntKind.i64.wrap ((j : Int) + 1) = ((j + 1 : Nat) : Int) := by rw [show (j : Int) + 1 = ((j + 1 : Nat) : Int) by omega]; exact IntWalk.i64_in _ (by have := Hj.out; omega)
      have HRx := Lib.hid (show R = okRes true q4 t2 from hR.symm)
      have His := Lib.hid his; have Hu5 := Lib.hid hu5; have Hu6 := Lib.hid hu6
      clear hR his hu5 hu6 h41 hres
      go_upto_region 6 with (fail)
      clear hW2
      go_wp2_with fail
      refine His.out.mono ?_
      clear His
      rintro e w6 ⟨rfl, hb6⟩
      have hbW := Hb2W.out.trans (hb6.mono Hb2W.out.size)
      have kR := Hk.out.ext hbW
      have hq6 := Hq2.out.ext hb6
      have k6 := HK2.out.ext hb6
      clear x0 x1 x2 x3
      obtain ⟨x0, x1, x2, x3, _⟩ := k6.four
      obtain ⟨z0, z1, z2, z3, _⟩ := kR.four
      have z4 := kR.frozen 0; have z5 := kR.frozen 1; have z6 := kR.frozen 2; have z7 := kR.frozen 3
      obtain ⟨W9, hW9, y0, y1, y2, y3, hfin⟩ := ffin (w := w) (ok := true) (.int .i64 qk2) (.string qt2) (.int .i64 qn2) (.slice Ap2 ql2 cp2) kR hgw (Hal.out.trans (hbW.mono hWs)) (hq6) hgB hWs Hu5.out HRx.out (j + 1) Hu6.out
      have HW9 := Lib.hid hW9; have Hfin := Lib.hid hfin; have Hy := Lib.hid (And.intro y0 (And.intro y1 (And.intro y2 y3)))
      clear hW9 hfin kR hbW y0 y1 y2 y3 hq6 k6 hb6
      go_wp2_with fail
      rw [HW9.out]
      obtain ⟨y0, y1, y2, y3⟩ := Hy.out
      exact bodyPost_ret (v := .tuple #[.agg #[.int .i64 qk2, .string qt2, .int .i64 qn2, .slice Ap2 ql2 cp2], .int .i64 ((j + 1 : Nat) : Int), .bool true]) (by simp [results, Tryz.results61, go_sem, y0, y1, y2, y3]) rfl Hfin.out
    · rw [if_neg h41] at hR
      rw [show (u4.headD 0 == 41) = false from by simpa using h41] at his
      have HRx := Lib.hid (show R = okRes false q4 u4 from hR.symm)
      have His := Lib.hid his
      clear hR his h41 hres
      go_upto_region 6 with (fail)
      clear hW2
      go_wp2_with fail
      refine His.out.mono ?_
      clear His
      rintro e w6 ⟨rfl, hb6⟩
      have hbW := Hb2W.out.trans (hb6.mono Hb2W.out.size)
      have kR := Hk.out.ext hbW
      have hq6 := Hq2.out.ext hb6
      have k6 := HK2.out.ext hb6
      clear x0 x1 x2 x3
      obtain ⟨x0, x1, x2, x3, _⟩ := k6.four
      obtain ⟨z0, z1, z2, z3, _⟩ := kR.four
      have z4 := kR.frozen 0; have z5 := kR.frozen 1; have z6 := kR.frozen 2; have z7 := kR.frozen 3
      obtain ⟨W9, hW9, y0, y1, y2, y3, hfin⟩ := ffin (w := w) (ok := false) (.int .i64 qk2) (.string qt2) (.int .i64 qn2) (.slice Ap2 ql2 cp2) kR hgw (Hal.out.trans (hbW.mono hWs)) (hq6) hgB hWs Hu4.out HRx.out j Hj.out
      have HW9 := Lib.hid hW9; have Hfin := Lib.hid hfin; have Hy := Lib.hid (And.intro y0 (And.intro y1 (And.intro y2 y3)))
      clear hW9 hfin kR hbW y0 y1 y2 y3 hq6 k6 hb6
      go_wp2_with fail
      rw [HW9.out]
      obtain ⟨y0, y1, y2, y3⟩ := Hy.out
      exact bodyPost_ret (v := .tuple #[.agg #[.int .i64 qk2, .string qt2, .int .i64 qn2, .slice Ap2 ql2 cp2], .int .i64 (j : Int), .bool false]) (by simp [results, Tryz.results61, go_sem, y0, y1, y2, y3]) rfl Hfin.out
set_option maxRecDepth 100000 in
set_option maxHeartbeats 8000000 in
theorem fterm_quote (w0 : World) (hT : TabsU w0) (s : Str) (hs : s.length ≤ 4000) (t : Str) (w : World) (hr : (34 :: t) <:+ s) (hb0 : Below w0.heap.size w0 w) (R : Q.Res) (hR : Q.quotedS t = R) :
    Calls Tryz.prog 61 #[.string (bs s), .int .i64 ((s.length - (34 :: t : Str).length : Nat) : Int)] w (FRes s w R) := by
  have hrl := hr.length_le
  obtain ⟨ht1, ht2⟩ := suf_tail hr
  obtain ⟨i, hi⟩ : ∃ i, s.length - (34 :: t : Str).length = i := ⟨_, rfl⟩
  rw [hi] at ht2 ⊢
  rw [List.length_cons] at hrl
  have hi2 := hi
  rw [List.length_cons] at hi2
  have hw : IntKind.i64.wrap ((i : Int) + 1) = ((i + 1 : Nat) : Int) := by rw [show (i : Int) + 1 = ((i + 1 : Nat) : Int) by omega]; exact IntWalk.i64_in _ (by omega)
  obtain ⟨W, gR, hW, hgR, hsR, kr, hal⟩ := boxA w #[.int .i64 0, .string ⟨#[]⟩, .int .i64 0, .slice none 0 0] 24
  have hWs : w.heap.size ≤ W.heap.size := hal.size
  have hgw : w.heap.size ≤ gR := by omega
  have hgB : gR < W.heap.size := by omega
  have HW := Lib.hid hW; have HgR := Lib.hid hgR; have Hk := Lib.hid kr; have HR := Lib.hid hR; have Hal := Lib.hid hal; have Hr := Lib.hid hr; have Hi := Lib.hid hi; have Ht1 := Lib.hid ht1; have Ht2 := Lib.hid ht2; have HT := Lib.hid hT
  have Hb0 := Lib.hid (hb0.trans (hal.mono hb0.size))
  clear hW hgR hsR kr hal hr hb0 hT hR hi hi2 ht1 ht2
  go_enter Tryz.func61, Tryz.ntmps61
  go_wp2_with fail
  rw [HW.out]
  try rw [HgR.out]
  have his := fis_ok s (34 :: t) Hr.out hs 45 (by decide) W
  rw [Hi.out, show ((34 :: t : Str).headD 0 == 45) = false from by rw [List.headD_cons]; decide] at his
  refine his.mono ?_
  clear his
  rintro e w_1 ⟨rfl, hbx⟩
  have Hb_1 := Lib.hid (hbx)
  clear hbx
  go_wp2_with fail
  have his := fis_ok s (34 :: t) Hr.out hs 40 (by decide) w_1
  rw [Hi.out, show ((34 :: t : Str).headD 0 == 40) = false from by rw [List.headD_cons]; decide] at his
  refine his.mono ?_
  clear his
  rintro e w_2 ⟨rfl, hbx⟩
  have Hb_2 := Lib.hid (Hb_1.out.trans (hbx.mono Hb_1.out.size))
  clear hbx
  go_wp2_with fail
  have his := fis_ok s (34 :: t) Hr.out hs 34 (by decide) w_2
  rw [Hi.out, show ((34 :: t : Str).headD 0 == 34) = true from by rw [List.headD_cons]; decide] at his
  refine his.mono ?_
  clear his
  rintro e w_3 ⟨rfl, hbx⟩
  have Hb_3 := Lib.hid (Hb_2.out.trans (hbx.mono Hb_2.out.size))
  clear hbx
  have htc := fquoted_ok w0 HT.out s hs t w_3 Ht1.out (Hb0.out.trans (Hb_3.out.mono Hb0.out.size))
  rw [Ht2.out] at htc
  have Htc := Lib.hid htc
  clear htc
  go_wp2_with fail
  refine Htc.out.mono ?_
  clear Htc
  rintro e w5 ⟨f5, v5, q4, u4, ok4, rfl, hq5, hu4, hb5, hres⟩
  obtain ⟨va, vb, vc, vd, rfl, _, rfl, rfl, rfl, Ap2, cp2, rfl⟩ := hq5.cellsOf
  obtain ⟨qk2, hqk⟩ : ∃ k, q4.kind = k := ⟨_, rfl⟩
  obtain ⟨qt2, hqt⟩ : ∃ k, bs q4.text = k := ⟨_, rfl⟩
  obtain ⟨qn2, hqn⟩ : ∃ k, q4.num = k := ⟨_, rfl⟩
  obtain ⟨ql2, hql⟩ : ∃ k, q4.parts.length = k := ⟨_, rfl⟩
  obtain ⟨j, hj⟩ : ∃ j, s.length - u4.length = j := ⟨_, rfl⟩
  rw [hqk, hqt, hqn, hql] at hq5 ⊢
  rw [hj]
  have hul4 := hu4.length_le
  have hR : R = okRes ok4 q4 u4 := by rw [← HR.out, hres]
  have hbW := Hb_3.out.trans (hb5.mono Hb_3.out.size)
  have hw01 : W.heap.size ≤ w_3.heap.size := Hb_3.out.size
  have hq2 := hq5.sub (M' := fun b => b < W.heap.size) fun b _ (h : b < W.heap.size) => (by omega : b < w_3.heap.size)
  have kR := Hk.out.ext hbW
  obtain ⟨z0, z1, z2, z3, _⟩ := kR.four
  have z4 := kR.frozen 0; have z5 := kR.frozen 1; have z6 := kR.frozen 2; have z7 := kR.frozen 3
  obtain ⟨W9, hW9, y0, y1, y2, y3, hfin⟩ := ffin (w := w) (ok := ok4) (.int .i64 qk2) (.string qt2) (.int .i64 qn2) (.slice Ap2 ql2 cp2) kR hgw (Hal.out.trans (hbW.mono hWs)) (hq2) hgB hWs hu4 hR j hj
  have HW9 := Lib.hid hW9; have Hfin := Lib.hid hfin; have Hy := Lib.hid (And.intro y0 (And.intro y1 (And.intro y2 y3)))
  clear hW9 hfin kR hbW y0 y1 y2 y3 hqk hqt hqn hql hj hq5 hb5 hu4 hR hres hq2 HR
  go_wp2_with fail
  rw [HW9.out]
  obtain ⟨y0, y1, y2, y3⟩ := Hy.out
  exact bodyPost_ret (v := .tuple #[.agg #[.int .i64 qk2, .string qt2, .int .i64 qn2, .slice Ap2 ql2 cp2], .int .i64 (j : Int), .bool ok4]) (by simp [results, Tryz.results61, go_sem, y0, y1, y2, y3]) rfl Hfin.out
set_option maxRecDepth 100000 in
set_option maxHeartbeats 8000000 in
theorem fterm_star (w0 : World) (hT : TabsU w0) (s : Str) (hs : s.length ≤ 4000) (t : Str) (w : World) (hr : (42 :: t) <:+ s) (hb0 : Below w0.heap.size w0 w) (R : Q.Res) (hR : Q.Res.ok (.node 1 [] 0 []) t = R) :
    Calls Tryz.prog 61 #[.string (bs s), .int .i64 ((s.length - (42 :: t : Str).length : Nat) : Int)] w (FRes s w R) := by
  have hrl := hr.length_le
  obtain ⟨ht1, ht2⟩ := suf_tail hr
  obtain ⟨i, hi⟩ : ∃ i, s.length - (42 :: t : Str).length = i := ⟨_, rfl⟩
  rw [hi] at ht2 ⊢
  rw [List.length_cons] at hrl
  have hi2 := hi
  rw [List.length_cons] at hi2
  have hw : IntKind.i64.wrap ((i : Int) + 1) = ((i + 1 : Nat) : Int) := by rw [show (i : Int) + 1 = ((i + 1 : Nat) : Int) by omega]; exact IntWalk.i64_in _ (by omega)
  obtain ⟨W, gR, hW, hgR, hsR, kr, hal⟩ := boxA w #[.int .i64 0, .string ⟨#[]⟩, .int .i64 0, .slice none 0 0] 24
  have hWs : w.heap.size ≤ W.heap.size := hal.size
  have hgw : w.heap.size ≤ gR := by omega
  have hgB : gR < W.heap.size := by omega
  have HW := Lib.hid hW; have HgR := Lib.hid hgR; have Hk := Lib.hid kr; have HR := Lib.hid hR; have Hal := Lib.hid hal; have Hr := Lib.hid hr; have Hi := Lib.hid hi; have Ht1 := Lib.hid ht1; have Ht2 := Lib.hid ht2; have HT := Lib.hid hT
  have Hb0 := Lib.hid (hb0.trans (hal.mono hb0.size))
  clear hW hgR hsR kr hal hr hb0 hT hR hi hi2 ht1 ht2
  go_enter Tryz.func61, Tryz.ntmps61
  go_wp2_with fail
  rw [HW.out]
  try rw [HgR.out]
  have his := fis_ok s (42 :: t) Hr.out hs 45 (by decide) W
  rw [Hi.out, show ((42 :: t : Str).headD 0 == 45) = false from by rw [List.headD_cons]; decide] at his
  refine his.mono ?_
  clear his
  rintro e w_1 ⟨rfl, hbx⟩
  have Hb_1 := Lib.hid (hbx)
  clear hbx
  go_wp2_with fail
  have his := fis_ok s (42 :: t) Hr.out hs 40 (by decide) w_1
  rw [Hi.out, show ((42 :: t : Str).headD 0 == 40) = false from by rw [List.headD_cons]; decide] at his
  refine his.mono ?_
  clear his
  rintro e w_2 ⟨rfl, hbx⟩
  have Hb_2 := Lib.hid (Hb_1.out.trans (hbx.mono Hb_1.out.size))
  clear hbx
  go_wp2_with fail
  have his := fis_ok s (42 :: t) Hr.out hs 34 (by decide) w_2
  rw [Hi.out, show ((42 :: t : Str).headD 0 == 34) = false from by rw [List.headD_cons]; decide] at his
  refine his.mono ?_
  clear his
  rintro e w_3 ⟨rfl, hbx⟩
  have Hb_3 := Lib.hid (Hb_2.out.trans (hbx.mono Hb_2.out.size))
  clear hbx
  go_wp2_with fail
  have his := fis_ok s (42 :: t) Hr.out hs 42 (by decide) w_3
  rw [Hi.out, show ((42 :: t : Str).headD 0 == 42) = true from by rw [List.headD_cons]; decide] at his
  refine his.mono ?_
  clear his
  rintro e w_4 ⟨rfl, hbx⟩
  have Hb_4 := Lib.hid (Hb_3.out.trans (hbx.mono Hb_3.out.size))
  clear hbx
  have hbW := Hb_4.out
  have kR := Hk.out.ext hbW
  have hR : R = okRes true (.node 1 [] 0 []) t := HR.out.symm
  have HRx := Lib.hid hR
  clear hR HR
  obtain ⟨z0, z1, z2, z3, _⟩ := kR.four
  have z4 := kR.frozen 0; have z5 := kR.frozen 1; have z6 := kR.frozen 2; have z7 := kR.frozen 3
  obtain ⟨W9, hW9, y0, y1, y2, y3, hfin⟩ := ffin (w := w) (ok := true) (.int .i64 1) (.string ⟨#[]⟩) (.int .i64 0) (.slice none 0 0) kR hgw (Hal.out.trans (hbW.mono hWs)) (QAt.leaf4 _ _ 1 0 [] (by omega) (by omega) (by simp)) hgB hWs Ht1.out HRx.out (i + 1) Ht2.out
  have HW9 := Lib.hid hW9; have Hfin := Lib.hid hfin; have Hy := Lib.hid (And.intro y0 (And.intro y1 (And.intro y2 y3)))
  clear hW9 hfin kR hbW y0 y1 y2 y3 
  go_wp2_with fail
  rw [HW9.out]
  obtain ⟨y0, y1, y2, y3⟩ := Hy.out
  exact bodyPost_ret (v := .tuple #[.agg #[.int .i64 1, .string ⟨#[]⟩, .int .i64 0, .slice none 0 0], .int .i64 ((i + 1 : Nat) : Int), .bool true]) (by simp [results, Tryz.results61, go_sem, y0, y1, y2, y3]) rfl Hfin.out
end Go.Proofs.YtihhgmpanfboaaaGreatDoor

/-
  The law's searchFault.
-/
import Derived.Test.YtnlhocbaighedaaGreatDoorSrQf
import Derived.Test.YtnlhocbaighedaaGreatDoorIxFt
import Derived.Test.YtnlhocbaighedaaGreatDoorR19
namespace Go.Proofs.YtnlhocbaighedaaGreatDoor
open Go.RowKit
set_option linter.unusedVariables false
theorem findR_fault (x : Ix.Idx) (q : Q) : (Sr.findR x q).2 = if (Ix.indexF x).1 ≠ 0 then Ix.indexF x else if (Q.fault q).1 ≠ 0 then ((Q.fault q).1, -5) else (0, 0) := by
 unfold Sr.findR
 split
 ·rfl
 ·split <;> rfl
set_option maxRecDepth 100000 in
set_option maxHeartbeats 8000000 in
theorem searchFault_ok (a b qv : Value) (ids : List Int) (ts : List Ix.Term) (f : Nat) (q : Q) (w : World) (h0 : SlR intC M0 w a ids) (h1 : SlR termC M0 w b ts) (hq : QAt f M0 w qv q) (hsz : SzIx ts) (hbk : q.bulk ≤ 1048576) (hT : TabsU w) :
  Calls Tryz.prog 8 #[.agg #[a, b], qv] w fun e w' => e = .returned (.agg #[.int .i64 (Sr.findR (ids, ts) q).2.1, .int .i64 (Sr.findR (ids, ts) q).2.2]) ∧ Below w.heap.size w w' := by
 obtain ⟨A0, c0, rfl, _, _⟩ := h0.form
 obtain ⟨A1, c1, rfl, _, _⟩ := h1.form
 have hqv := hq
 obtain ⟨Aq, cq, rfl, _, _, _, _⟩ := hq
 obtain ⟨ql, hql⟩ : ∃ n, q.parts.length = n := ⟨_, rfl⟩
 rw [hql] at hqv ⊢
 rw [findR_fault]
 obtain ⟨⟨fi, fj⟩, hfi⟩ : ∃ r, Ix.indexF (ids, ts) = r := ⟨_, rfl⟩
 obtain ⟨⟨qi, qj⟩, hqi⟩ : ∃ r, Q.fault q = r := ⟨_, rfl⟩
 have hz2 : fi = 0 → fj = 0 := fun h => by
  have := Ix.indexF_zero2 (x := (ids, ts)) (by rw [hfi]; exact h)
  rw [hfi] at this
  injection this
 obtain ⟨W0, g, hW, hg, hs, kx, kq, kr, hal⟩ := box3 w #[.slice A0 ids.length c0, .slice A1 ts.length c1] #[.int .i64 q.kind, .string (bs q.text), .int .i64 q.num, .slice Aq ql cq] #[.int .i64 0, .int .i64 0] 25 28 30
 have hif := indexFault_ok (.slice A0 ids.length c0) (.slice A1 ts.length c1) ids ts W0 (h0.ext hal) (h1.ext hal) hsz
 have hqf := fun W (hb : Below W0.heap.size W0 W) => queryFault_ok f q _ W ((hqv.ext hal).ext hb) (by omega) ((hT.ext hal).ext hb)
 rw [hfi] at hif ⊢
 simp only [hqi] at hqf ⊢
 dsimp only at hif ⊢
 obtain ⟨⟨rx, ry⟩, hR⟩ : ∃ r : Int × Int, (if fi ≠ 0 then (fi, fj) else if qi ≠ 0 then (qi, -5) else (0, 0)) = r := ⟨_, rfl⟩
 rw [hR]
 dsimp only
 have HR := Lib.hid hR
 clear hR
 obtain ⟨x0, x1, _⟩ := kx.two
 obtain ⟨p0, p1, p2, p3, _⟩ := kq.four
 rw [← hW] at x0 x1 p0 p1 p2 p3
 have Hif := Lib.hid hif; have Hqf := Lib.hid hqf; have HW := Lib.hid hW; have Hk := Lib.hid (And.intro kq (And.intro kr (And.intro hal hs))); have Hg := Lib.hid hg
 have Hz2 := Lib.hid hz2
 clear hif hqf hW hs hql hfi hqi h0 h1 hqv hT kx kq kr hal hz2
 go_enter Tryz.func8, Tryz.ntmps8
 go_wp2_with fail
 rw [HW.out]
 clear x0 x1 p0 p1 p2 p3
 refine Hif.out.mono ?_
 rintro e w1 ⟨rfl, hb1⟩
 obtain ⟨W1, g1, hW1, hg1, hs1, k1, hal1⟩ := boxA w1 #[.int .i64 fi, .int .i64 fj] 30
 obtain ⟨e0, e1, _, _, _⟩ := k1.two
 rw [← hW1, ← hg1] at e0 e1
 have hb01 := hb1.trans (hal1.mono hb1.size)
 have HW1 := Lib.hid hW1; have Hg1 := Lib.hid hg1; have Hb01 := Lib.hid hb01; have Hk1 := Lib.hid k1
 have Hfar : Hid (W0.heap.size ≤ g1) := Lib.hid (by have := hb1.size; omega)
 clear hW1 hs1 hb01 k1 hal1 hb1 Hif
 have wrap : ∀ (V : World) (u v : Int), Below W0.heap.size W0 V → Blk V (g + 1 + 1) 30 #[.int .i64 0, .int .i64 0] → ∃ V9, (V.setCell ⟨g + 1 + 1, 0, none⟩ (.int .i64 u)).setCell ⟨g + 1 + 1, 1, none⟩ (.int .i64 v) = V9 ∧ Blk V9 (g + 1 + 1) 30 #[.int .i64 u, .int .i64 v] ∧ Below w.heap.size w V9 := fun V u v hb hk => by
  refine ⟨_, rfl, (put2 hk _ _ rfl).1, below_put2 (Hk.out.2.2.1.trans (hb.mono Hk.out.2.2.1.size)) (by have := Hg.out; omega) _ _ rfl⟩
 have Wrap := Lib.hid wrap
 clear wrap
 by_cases hf : fi = 0
 ·subst hf
  have hj := Hz2.out rfl
  subst hj
  obtain ⟨p0, p1, p2, p3, _⟩ := (Hk.out.1.ext Hb01.out).four
  rw [← HW1.out] at p0 p1 p2 p3
  go_wp2_with fail
  rw [HW1.out]
  clear p0 p1 p2 p3 e0 e1
  refine (Hqf.out W1 Hb01.out).mono ?_
  rintro e w2 ⟨rfl, hb2⟩
  obtain ⟨W2, g2, hW2, hg2, hs2, k2, hal2⟩ := boxA w2 #[.int .i64 qi, .int .i64 qj] 30
  obtain ⟨e0, e1, _, _, _⟩ := k2.two
  rw [← hW2, ← hg2] at e0 e1
  have hb12 := hb2.trans (hal2.mono hb2.size)
  have Hk12 := Lib.hid (Hk1.out.ext hb12)
  have Hb02 := Lib.hid (Hb01.out.trans (hb12.mono Hb01.out.size))
  have HW2 := Lib.hid hW2; have Hg2 := Lib.hid hg2
  clear hW2 hs2 hb12 k2 hal2 hb2 Hqf
  by_cases hq : qi = 0
  ·subst hq
   have h9 : (rx, ry) = ((0 : Int), (0 : Int)) := by rw [← HR.out, if_neg (by decide), if_neg (by decide)]
   have H9 := Lib.hid h9
   clear h9
   obtain ⟨r0, r1, r2, r3, _⟩ := (Hk.out.2.1.ext Hb02.out).two
   obtain ⟨u0, u1, _, _, _⟩ := Hk12.out.two
   rw [← HW2.out] at u0 u1 r0 r1 r2 r3
   go_wp2_with fail
   rw [HW2.out]
   obtain ⟨V9, hV, hk9, hb9⟩ := Wrap.out W2 0 0 Hb02.out (Hk.out.2.1.ext Hb02.out)
   rw [hV]
   obtain ⟨z0, z1, _⟩ := hk9.two
   exact bodyPost_ret (v := .agg #[.int .i64 0, .int .i64 0]) (by simp [results, Tryz.results8, go_sem, z0, z1]) rfl ⟨by have h9 := H9.out; injection h9 with h1 h2; rw [h1, h2], hb9⟩
  ·have hqn : (qi != 0) = true := by simpa using hq
   have h9 : (rx, ry) = (qi, (-5 : Int)) := by rw [← HR.out, if_neg (by decide), if_pos hq]
   have H9 := Lib.hid h9
   clear h9
   go_wp2_with fail
   rw [HW2.out]
   clear e0 e1
   refine (at_ok qi (-5) W2).mono ?_
   rintro e w3 ⟨rfl, hb3⟩
   have hb03 := Hb02.out.trans (hb3.mono Hb02.out.size)
   have k13 := Hk12.out.ext hb3
   obtain ⟨u0, u1, u2, u3, _⟩ := k13.two
   obtain ⟨r0, r1, r2, r3, _⟩ := (Hk.out.2.1.ext hb03).two
   have hg12 : ¬ g1 = g + 1 + 1 := fun e => by have := Hfar.out; have := (Hk.out.2.1).lt; omega
   have hg21 : ¬ g + 1 + 1 = g1 := fun e => hg12 e.symm
   have Hb03 := Lib.hid hb03; have Hk13 := Lib.hid k13
   clear hb03 k13 hb3
   go_wp2_with fail
   obtain ⟨V8, hV8⟩ : ∃ V, (w3.setCell ⟨g1, 0, none⟩ (.int .i64 qi)).setCell ⟨g1, 1, none⟩ (.int .i64 (-5)) = V := ⟨_, rfl⟩
   obtain ⟨k8, kk8⟩ := put2 Hk13.out _ _ hV8
   have hb8 : Below W0.heap.size W0 V8 := below_put2 (w := W0) Hb03.out Hfar.out _ _ hV8
   obtain ⟨V9, hV, hk9, hb9⟩ := Wrap.out V8 qi (-5) hb8 (Hk.out.2.1.ext hb8)
   rw [hV8, hV]
   obtain ⟨z0, z1, _⟩ := hk9.two
   exact bodyPost_ret (v := .agg #[.int .i64 qi, .int .i64 (-5)]) (by simp [results, Tryz.results8, go_sem, z0, z1]) rfl ⟨by have h9 := H9.out; injection h9 with h1 h2; rw [h1, h2], hb9⟩
 ·have hfn : (fi == 0) = false := by simpa using hf
  have h9 : (rx, ry) = (fi, fj) := by rw [← HR.out, if_pos hf]
  have H9 := Lib.hid h9
  clear h9
  obtain ⟨r0, r1, r2, r3, _⟩ := (Hk.out.2.1.ext Hb01.out).two
  rw [← HW1.out] at r0 r1 r2 r3
  go_wp2_with fail
  rw [HW1.out]
  obtain ⟨V9, hV, hk9, hb9⟩ := Wrap.out W1 fi fj Hb01.out (Hk.out.2.1.ext Hb01.out)
  rw [hV]
  obtain ⟨z0, z1, _⟩ := hk9.two
  exact bodyPost_ret (v := .agg #[.int .i64 fi, .int .i64 fj]) (by simp [results, Tryz.results8, go_sem, z0, z1]) rfl ⟨by have h9 := H9.out; injection h9 with h1 h2; rw [h1, h2], hb9⟩
end Go.Proofs.YtnlhocbaighedaaGreatDoor

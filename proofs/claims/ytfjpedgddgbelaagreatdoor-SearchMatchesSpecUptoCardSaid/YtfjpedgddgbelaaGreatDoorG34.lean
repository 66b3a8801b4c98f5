/-
  Contracts and plain facts, one after another: The law's searchFault; SearchMatchesSpec: the law's walk; The walk of SearchMatchesSpec, as its row takes it.
-/
import Derived.Test.YtfjpedgddgbelaaGreatDoorSrQf
import Derived.Test.YtfjpedgddgbelaaGreatDoorIxFt
import Derived.Test.YtfjpedgddgbelaaGreatDoorG23
import Derived.Test.YtfjpedgddgbelaaGreatDoorG33
import Derived.Test.YtfjpedgddgbelaaGreatDoorG27
import Derived.Test.YtfjpedgddgbelaaGreatDoorIxH
import Derived.Test.YtfjpedgddgbelaaGreatDoorNeF
import Derived.Test.YtfjpedgddgbelaaGreatDoorG7
import Derived.Test.YtfjpedgddgbelaaGreatDoorQySh
namespace Go.Proofs.YtfjpedgddgbelaaGreatDoor
open Go.RowKit
set_option linter.unusedVariables false
theorem findR_fault (x : Ix.Idx) (q : Q) : (Sr.findR x q).2 = if (Ix.indexF x).1 ≠ 0 then Ix.indexF x else if (Q.fault q).1 ≠ 0 then ((Q.fault q).1, -5) else (0, 0) := by
  unfold Sr.findR
  split
  · rfl
  · split <;> rfl
set_option maxRecDepth 100000 in
set_option maxHeartbeats 8000000 in
theorem searchFault_ok (a b qv : Value) (ids : List Int) (ts : List Ix.Term) (f : Nat) (q : Q) (w : World) (h0 : SlR intC M0 w a ids) (h1 : SlR termC M0 w b ts) (hq : QAt f M0 w qv q) (hsz : SzIx ts) (hbk : q.bulk ≤ 1048576) (hT : TabsU w) :
    Calls Tryz.prog 32 #[.agg #[a, b], qv] w fun e w' => e = .returned (.agg #[.int .i64 (Sr.findR (ids, ts) q).2.1, .int .i64 (Sr.findR (ids, ts) q).2.2]) ∧ Below w.heap.size w w' := by
  obtain ⟨A0, c0, rfl, _, _⟩ := h0.form
  obtain ⟨A1, c1, rfl, _, _⟩ := h1.form
  have hqv := hq
  obtain ⟨Aq, cq, rfl, _, _, _, _⟩ := hq
  obtain ⟨ql, hql⟩ : ∃ n, q.parts.length = n := ⟨_, rfl⟩
  rw [hql] at hqv ⊢
  rw [findR_fault]
  obtain ⟨⟨fi, fj⟩, hfi⟩ : ∃ r, Ix.indexF (ids, ts) = r := ⟨_, rfl⟩
  obtain ⟨⟨qi, qj⟩, hqi⟩ : ∃ r, Q.fault q = r := ⟨_, rfl⟩
  have hz2 : fi = 0 → fj = 0 := fun h => by
    have := Ix.indexF_zero2 (x := (ids, ts)) (by rw [hfi]; exact h)
    rw [hfi] at this
    injection this
  obtain ⟨W0, g, hW, hg, hs, kx, kq, kr, hal⟩ := box3 w #[.slice A0 ids.length c0, .slice A1 ts.length c1] #[.int .i64 q.kind, .string (bs q.text), .int .i64 q.num, .slice Aq ql cq] #[.int .i64 0, .int .i64 0] 25 50 27
  have hif := indexFault_ok (.slice A0 ids.length c0) (.slice A1 ts.length c1) ids ts W0 (h0.ext hal) (h1.ext hal) hsz
  have hqf := fun W (hb : Below W0.heap.size W0 W) => queryFault_ok f q _ W ((hqv.ext hal).ext hb) hbk ((hT.ext hal).ext hb)
  rw [hfi] at hif ⊢
  simp only [hqi] at hqf ⊢
  dsimp only at hif ⊢
  obtain ⟨⟨rx, ry⟩, hR⟩ : ∃ r : Int × Int, (if fi ≠ 0 then (fi, fj) else if qi ≠ 0 then (qi, -5) else (0, 0)) = r := ⟨_, rfl⟩
  rw [hR]
  dsimp only
  have HR := Lib.hid hR
  clear hR
  obtain ⟨x0, x1, _⟩ := kx.two
  obtain ⟨p0, p1, p2, p3, _⟩ := kq.four
  rw [← hW] at x0 x1 p0 p1 p2 p3
  have Hif := Lib.hid hif; have Hqf := Lib.hid hqf; have HW := Lib.hid hW; have Hk := Lib.hid (And.intro kq (And.intro kr (And.intro hal hs))); have Hg := Lib.hid hg
  have Hz2 := Lib.hid hz2
  clear hif hqf hW hs hql hfi hqi h0 h1 hqv hT kx kq kr hal hz2
  go_enter Tryz.func32, Tryz.ntmps32
  go_wp2_with fail
  rw [HW.out]
  clear x0 x1 p0 p1 p2 p3
  refine Hif.out.mono ?_
  rintro e w1 ⟨rfl, hb1⟩
  obtain ⟨W1, g1, hW1, hg1, hs1, k1, hal1⟩ := boxA w1 #[.int .i64 fi, .int .i64 fj] 27
  obtain ⟨e0, e1, _, _, _⟩ := k1.two
  rw [← hW1, ← hg1] at e0 e1
  have hb01 := hb1.trans (hal1.mono hb1.size)
  have HW1 := Lib.hid hW1; have Hg1 := Lib.hid hg1; have Hb01 := Lib.hid hb01; have Hk1 := Lib.hid k1
  have Hfar : Hid (W0.heap.size ≤ g1) := Lib.hid (by have := hb1.size; omega)
  clear hW1 hs1 hb01 k1 hal1 hb1 Hif
  have wrap : ∀ (V : World) (u v : Int), Below W0.heap.size W0 V → Blk V (g + 1 + 1) 27 #[.int .i64 0, .int .i64 0] → ∃ V9, (V.setCell ⟨g + 1 + 1, 0, none⟩ (.int .i64 u)).setCell ⟨g + 1 + 1, 1, none⟩ (.int .i64 v) = V9 ∧ Blk V9 (g + 1 + 1) 27 #[.int .i64 u, .int .i64 v] ∧ Below w.heap.size w V9 := fun V u v hb hk => by
    refine ⟨_, rfl, (put2 hk _ _ rfl).1, below_put2 (Hk.out.2.2.1.trans (hb.mono Hk.out.2.2.1.size)) (by have := Hg.out; omega) _ _ rfl⟩
  have Wrap := Lib.hid wrap
  clear wrap
  by_cases hf : fi = 0
  · subst hf
    have hj := Hz2.out rfl
    subst hj
    obtain ⟨p0, p1, p2, p3, _⟩ := (Hk.out.1.ext Hb01.out).four
    rw [← HW1.out] at p0 p1 p2 p3
    go_wp2_with fail
    rw [HW1.out]
    clear p0 p1 p2 p3 e0 e1
    refine (Hqf.out W1 Hb01.out).mono ?_
    rintro e w2 ⟨rfl, hb2⟩
    obtain ⟨W2, g2, hW2, hg2, hs2, k2, hal2⟩ := boxA w2 #[.int .i64 qi, .int .i64 qj] 27
    obtain ⟨e0, e1, _, _, _⟩ := k2.two
    rw [← hW2, ← hg2] at e0 e1
    have hb12 := hb2.trans (hal2.mono hb2.size)
    have Hk12 := Lib.hid (Hk1.out.ext hb12)
    have Hb02 := Lib.hid (Hb01.out.trans (hb12.mono Hb01.out.size))
    have HW2 := Lib.hid hW2; have Hg2 := Lib.hid hg2
    clear hW2 hs2 hb12 k2 hal2 hb2 Hqf
    by_cases hq : qi = 0
    · subst hq
      have h9 : (rx, ry) = ((0 : Int), (0 : Int)) := by rw [← HR.out, if_neg (by decide), if_neg (by decide)]
      have H9 := Lib.hid h9
      clear h9
      obtain ⟨r0, r1, r2, r3, _⟩ := (Hk.out.2.1.ext Hb02.out).two
      obtain ⟨u0, u1, _, _, _⟩ := Hk12.out.two
      rw [← HW2.out] at u0 u1 r0 r1 r2 r3
      go_wp2_with fail
      rw [HW2.out]
      obtain ⟨V9, hV, hk9, hb9⟩ := Wrap.out W2 0 0 Hb02.out (Hk.out.2.1.ext Hb02.out)
      rw [hV]
      obtain ⟨z0, z1, _⟩ := hk9.two
      exact bodyPost_ret (v := .agg #[.int .i64 0, .int .i64 0]) (by simp [results, Tryz.results32, go_sem, z0, z1]) rfl ⟨by have h9 := H9.out; injection h9 with h1 h2; rw [h1, h2], hb9⟩
    · have hqn : (qi != 0) = true := by simpa using hq
      have h9 : (rx, ry) = (qi, (-5 : Int)) := by rw [← HR.out, if_neg (by decide), if_pos hq]
      have H9 := Lib.hid h9
      clear h9
      go_wp2_with fail
      rw [HW2.out]
      clear e0 e1
      refine (at_ok qi (-5) W2).mono ?_
      rintro e w3 ⟨rfl, hb3⟩
      have hb03 := Hb02.out.trans (hb3.mono Hb02.out.size)
      have k13 := Hk12.out.ext hb3
      obtain ⟨u0, u1, u2, u3, _⟩ := k13.two
      obtain ⟨r0, r1, r2, r3, _⟩ := (Hk.out.2.1.ext hb03).two
      have hg12 : ¬ g1 = g + 1 + 1 := fun e => by have := Hfar.out; have := (Hk.out.2.1).lt; omega
      have hg21 : ¬ g + 1 + 1 = g1 := fun e => hg12 e.symm
      have Hb03 := Lib.hid hb03; have Hk13 := Lib.hid k13
      clear hb03 k13 hb3
      go_wp2_with fail
      obtain ⟨V8, hV8⟩ : ∃ V, (w3.setCell ⟨g1, 0, none⟩ (.int .i64 qi)).setCell ⟨g1, 1, none⟩ (.int .i64 (-5)) = V := ⟨_, rfl⟩
      obtain ⟨k8, kk8⟩ := put2 Hk13.out _ _ hV8
      have hb8 : Below W0.heap.size W0 V8 := below_put2 (w := W0) Hb03.out Hfar.out _ _ hV8
      obtain ⟨V9, hV, hk9, hb9⟩ := Wrap.out V8 qi (-5) hb8 (Hk.out.2.1.ext hb8)
      rw [hV8, hV]
      obtain ⟨z0, z1, _⟩ := hk9.two
      exact bodyPost_ret (v := .agg #[.int .i64 qi, .int .i64 (-5)]) (by simp [results, Tryz.results32, go_sem, z0, z1]) rfl ⟨by have h9 := H9.out; injection h9 with h1 h2; rw [h1, h2], hb9⟩
  · have hfn : (fi == 0) = false := by simpa using hf
    have h9 : (rx, ry) = (fi, fj) := by rw [← HR.out, if_pos hf]
    have H9 := Lib.hid h9
    clear h9
    obtain ⟨r0, r1, r2, r3, _⟩ := (Hk.out.2.1.ext Hb01.out).two
    rw [← HW1.out] at r0 r1 r2 r3
    go_wp2_with fail
    rw [HW1.out]
    obtain ⟨V9, hV, hk9, hb9⟩ := Wrap.out W1 fi fj Hb01.out (Hk.out.2.1.ext Hb01.out)
    rw [hV]
    obtain ⟨z0, z1, _⟩ := hk9.two
    exact bodyPost_ret (v := .agg #[.int .i64 fi, .int .i64 fj]) (by simp [results, Tryz.results32, go_sem, z0, z1]) rfl ⟨by have h9 := H9.out; injection h9 with h1 h2; rw [h1, h2], hb9⟩
end Go.Proofs.YtfjpedgddgbelaaGreatDoor
namespace Go.Proofs.YtfjpedgddgbelaaGreatDoor
open Go.RowKit
set_option linter.unusedVariables false
theorem findR_parts {x : Ix.Idx} {q : Q} (h : (Sr.findR x q).2.1 = 0) : Ix.Canon x ∧ (Q.fault q).1 = 0 ∧ (Sr.findR x q).1 = Sr.foundF x q := by
  unfold Sr.findR at h ⊢
  by_cases h1 : (Ix.indexF x).1 ≠ 0
  · rw [if_pos h1] at h; exact absurd h h1
  · rw [if_neg h1] at h ⊢
    have h2 : (Ix.indexF x).1 = 0 := by simpa using h1
    by_cases h3 : (Q.fault q).1 ≠ 0
    · rw [if_pos h3] at h; exact absurd h h3
    · rw [if_neg h3]
      exact ⟨(Ix.indexF_zero x).1 h2, by simpa using h3, rfl⟩
theorem findR_nil {x : Ix.Idx} {q : Q} (h : (Sr.findR x q).2.1 ≠ 0) : (Sr.findR x q).1 = [] := by
  unfold Sr.findR at h ⊢
  by_cases h1 : (Ix.indexF x).1 ≠ 0
  · rw [if_pos h1]
  · rw [if_neg h1] at h ⊢
    by_cases h3 : (Q.fault q).1 ≠ 0
    · rw [if_pos h3]
    · rw [if_neg h3] at h; exact absurd rfl h
set_option maxRecDepth 100000 in
set_option maxHeartbeats 8000000 in
theorem smatch_ok (a b qv : Value) (ids : List Int) (ts : List Ix.Term) (f : Nat) (q : Q) (w : World) (h0 : SlR intC M0 w a ids) (h1 : SlR termC M0 w b ts) (hq0 : QAt f M0 w qv q) (hsz : SzIx ts) (hbk : q.bulk ≤ 1048576) (hK : Sr.costT ts ≤ 4000000000000) (hvl : ∀ t ∈ ts, t.1.length ≤ 1048576) (hT : TabsU w) :
    Calls Tryz.prog 4 #[.agg #[a, b], qv] w fun e w' => e = .returned (.bool true) ∧ Below w.heap.size w w' := by
  have hq := hq0.mono (g := max f 8) (Nat.le_max_left _ _)
  have hf8 : 8 ≤ max f 8 := Nat.le_max_right _ _
  generalize max f 8 = f at hq hf8
  clear hq0
  obtain ⟨A0, c0, rfl, _, _⟩ := h0.form
  obtain ⟨A1, c1, rfl, _, _⟩ := h1.form
  have hqv := hq
  have hfit := hq.fits
  obtain ⟨Aq, cq, rfl, _, _, _, _⟩ := hq
  obtain ⟨ql, hql⟩ : ∃ n, q.parts.length = n := ⟨_, rfl⟩
  rw [hql] at hqv ⊢
  have hpar := @findR_parts (ids, ts) q
  have hnil := @findR_nil (ids, ts) q
  obtain ⟨⟨Lf, fi, fj⟩, hR⟩ : ∃ r, Sr.findR (ids, ts) q = r := ⟨_, rfl⟩
  rw [hR] at hpar hnil
  dsimp only at hpar hnil
  obtain ⟨W0, g, hW, hg, hs, kx, kq, hal⟩ := boxPair w #[.slice A0 ids.length c0, .slice A1 ts.length c1] 25 #[.int .i64 q.kind, .string (bs q.text), .int .i64 q.num, .slice Aq ql cq] 50
  replace h0 := h0.ext hal
  replace h1 := h1.ext hal
  replace hqv := hqv.ext hal
  replace hT := hT.ext hal
  have hfind := sfind_ok (.slice A0 ids.length c0) (.slice A1 ts.length c1) _ (ids, ts) q f W0 h0 h1 hqv hsz (by omega) hT
  unfold SFindAt at hfind
  rw [hR] at hfind
  dsimp only at hfind
  have hsf := fun W (hb : Below W0.heap.size W0 W) => searchFault_ok (.slice A0 ids.length c0) (.slice A1 ts.length c1) _ ids ts f q W (h0.ext hb) (h1.ext hb) (hqv.ext hb) hsz hbk (hT.ext hb)
  simp only [hR] at hsf
  have hne : ∀ V : World, (binOp .neq 27 (.agg #[.int .i64 fi, .int .i64 fj]) (.agg #[.int .i64 fi, .int .i64 fj])).run Tryz.prog V = .ok (.bool false) V := fun V => by rw [run_neq_fault, beq_self_eq_true]; rfl
  obtain ⟨x0, x1, _⟩ := kx.two
  obtain ⟨p0, p1, p2, p3, _⟩ := kq.four
  rw [← hW] at x0 x1 p0 p1 p2 p3
  have HW := Lib.hid hW; have Hfind := Lib.hid hfind; have Hsf := Lib.hid hsf; have Hne := Lib.hid hne
  have Hk := Lib.hid (And.intro kx (And.intro kq (And.intro hal (And.intro h0 (And.intro h1 (And.intro hqv hT))))))
  have Hpar := Lib.hid hpar; have Hnil := Lib.hid hnil; have Hfit := Lib.hid hfit; have Hvl := Lib.hid hvl
  clear hW hs hfind hsf hne hpar hnil kx kq hal h0 h1 hqv hT hR hql hfit hvl
  go_enter Tryz.func4, Tryz.ntmps4
  go_wp2_with fail
  rw [HW.out]
  clear x0 x1 p0 p1 p2 p3
  refine Hfind.out.mono ?_
  rintro e w1 ⟨B1, d1, L, rfl, hL, own, hb1⟩
  have rl := own.read0
  obtain ⟨W1, g1, hW1, hg1, hs1, k1, hal1⟩ := boxA w1 #[.int .i64 fi, .int .i64 fj] 27
  have hb01 := hb1.trans (hal1.mono hb1.size)
  obtain ⟨x0, x1, _⟩ := (Hk.out.1.ext hb01).two
  obtain ⟨p0, p1, p2, p3, _⟩ := (Hk.out.2.1.ext hb01).four
  rw [← hW1] at x0 x1 p0 p1 p2 p3
  have HW1 := Lib.hid hW1; have Hb01 := Lib.hid hb01; have Hk1 := Lib.hid (And.intro k1 (rl.ext hal1))
  clear hW1 hs1 hb01 k1 hal1 hb1 own rl Hfind
  go_wp2_with fail
  rw [HW1.out]
  clear x0 x1 p0 p1 p2 p3
  refine (Hsf.out W1 Hb01.out).mono ?_
  rintro e w2 ⟨rfl, hb2⟩
  obtain ⟨W2, g2, hW2, hg2, hs2, k2, hal2⟩ := boxA w2 #[.int .i64 fi, .int .i64 fj] 27
  have hb12 := hb2.trans (hal2.mono hb2.size)
  have hb02 := Hb01.out.trans (hb12.mono Hb01.out.size)
  have HW2 := Lib.hid hW2
  have Hk2 := Lib.hid (And.intro (Hk1.out.1.ext hb12) (And.intro k2 (And.intro hb02 (Hk1.out.2.ext hb12))))
  clear hW2 hs2 hb12 hb02 k2 hal2 hb2 Hsf
  have hex := srchExample_ok W2 (Hk.out.2.2.2.2.2.2.ext Hk2.out.2.2.1)
  have Hex := Lib.hid hex
  clear hex
  go_wp2_with fail
  rw [HW2.out]
  refine Hex.out.mono ?_
  rintro e w3 ⟨rfl, hb3⟩
  obtain ⟨u0, u1, _⟩ := (Hk2.out.1.ext hb3).two
  obtain ⟨v0, v1, _⟩ := (Hk2.out.2.1.ext hb3).two
  have hne := Hne.out
  have hb03 := Hk2.out.2.2.1.trans (hb3.mono Hk2.out.2.2.1.size)
  have hrl := Hk2.out.2.2.2.ext hb3
  obtain ⟨x0, x1, _⟩ := (Hk.out.1.ext hb03).two
  have Hb03 := Lib.hid hb03; have Hrl := Lib.hid hrl
  have Hend : Hid (∀ W, Below w3.heap.size w3 W → Below w.heap.size w W) := Lib.hid fun W h => Hk.out.2.2.1.trans ((hb03.trans (h.mono hb03.size)).mono Hk.out.2.2.1.size)
  clear hb03 hrl hb3 Hex Hk1 Hk2
  by_cases hf : fi = 0
  · subst hf
    obtain ⟨hcan, hqf, hLf⟩ := Hpar.out rfl
    have hpl := plain_ok (.slice A0 ids.length c0) (.slice A1 ts.length c1) ids ts w3 (Hk.out.2.2.2.2.1.ext Hb03.out) Hvl.out
    have hpe := fun hp => @Sr.matches_eq (ids, ts) hcan hp
    obtain ⟨pl, hpl2⟩ : ∃ p, Sr.plainF (ids, ts) = p := ⟨_, rfl⟩
    rw [hpl2] at hpl
    simp only [hpl2] at hpe
    have Hpl := Lib.hid hpl; have Hpe := Lib.hid hpe; have Hcan := Lib.hid hcan; have Hqf := Lib.hid hqf; have HLf := Lib.hid hLf
    clear hpl hpe hpl2 hcan hqf hLf
    go_wp2_with fail
    refine Hpl.out.mono ?_
    rintro e w4 ⟨rfl, hb4⟩
    cases pl with
    | false =>
      go_wp2_with fail
      go_ret
      exact ⟨rfl, Hend.out _ hb4⟩
    | true =>
      have hb04 := Hb03.out.trans (hb4.mono Hb03.out.size)
      have hfo := refFound_ok (.slice A0 ids.length c0) (.slice A1 ts.length c1) _ ids ts f q w4 (Hk.out.2.2.2.1.ext hb04) (Hk.out.2.2.2.2.1.ext hb04) (fun t ht p hp n hn => ((Hcan.out.post t ht).2.2 p hp).2.2.2 n hn |>.1) (by have := Hcan.out.few; dsimp only at this; omega) hK Hvl.out (Hk.out.2.2.2.2.2.1.ext hb04) hbk (pre8 Hqf.out (by omega))
      have hsame : ids.filter (fun id => Sr.matchesF (f + 1) q (Sr.docF (ids, ts) id)) = Lf := by
        rw [HLf.out]
        exact List.filter_congr fun id _ => by
          rw [Hpe.out rfl id (f + 1) q Hfit.out (pre8 Hqf.out (by omega)), Sr.finds_up Hqf.out (by omega)]
      rw [hsame] at hfo
      obtain ⟨x0, x1, _⟩ := (Hk.out.1.ext hb04).two
      obtain ⟨p0, p1, p2, p3, _⟩ := (Hk.out.2.1.ext hb04).four
      have Hfo := Lib.hid hfo; have Hrl4 := Lib.hid (Hrl.out.ext hb4); have Hend4 : Hid (∀ W, Below w4.heap.size w4 W → Below w.heap.size w W) := Lib.hid fun W h => Hend.out _ (hb4.trans (h.mono hb4.size))
      clear hfo hsame hb04 hb4
      go_wp2_with fail
      clear x0 x1 p0 p1 p2 p3
      refine Hfo.out.mono ?_
      rintro e w5 ⟨A5, c5, L5, rfl, hL5, own5, hb5⟩
      have hin := ints_ok _ _ L L5 w5 (Hrl4.out.ext hb5) own5.read0
      rw [show (L == L5) = true from by rw [hL.out, hL5.out]; exact beq_self_eq_true _] at hin
      have Hin := Lib.hid hin
      clear hin
      go_wp2_with fail
      refine Hin.out.mono ?_
      rintro e w6 ⟨rfl, hb6⟩
      go_wp2_with fail
      go_ret
      exact ⟨rfl, Hend4.out _ (hb5.trans (hb6.mono hb5.size))⟩
  · have hfn : (fi != 0) = true := by simpa using hf
    have hl0 : L = [] := hL.out.trans (Hnil.out hf)
    subst hl0
    go_wp2_with fail
    go_ret
    exact ⟨rfl, Hend.out _ (Below.refl _ _)⟩
end Go.Proofs.YtfjpedgddgbelaaGreatDoor
namespace Go.Proofs.YtfjpedgddgbelaaGreatDoor
open Go.RowKit
theorem lens_sum (ps : List Ix.Post) : (ps.map fun p => p.2.length).sum ≤ bkPosts ps := by
  unfold bkPosts
  induction ps with
  | nil => simp
  | cons p ps ih =>
    simp only [List.map_cons, List.sum_cons] at ih ⊢
    have : p.2.length ≤ bkPost p := by
      unfold bkPost bkInts
      have h : ∀ l : List Int, (l.map fun _ => 1).sum = l.length := fun l => by
        induction l with
        | nil => rfl
        | cons a l ih => simp only [List.map_cons, List.sum_cons, ih, List.length_cons]; omega
      rw [h]; omega
    omega
theorem cost_bulk (B : Nat) : ∀ ts : List Ix.Term, (∀ t ∈ ts, t.1.length + 1 ≤ B) → Sr.costT ts ≤ (ts.map bkTerm).sum * B
  | [], _ => by simp [Sr.costT]
  | t :: ts, h => by
    have ih := cost_bulk B ts fun x hx => h x (.tail _ hx)
    have h1 := h t (.head _)
    have h2 : Sr.costP t.1 t.2 ≤ bkTerm t * B := by
      rw [Sr.costP_sum]
      refine Nat.mul_le_mul ?_ h1
      have := lens_sum t.2
      unfold bkTerm
      omega
    show Sr.costP t.1 t.2 + Sr.costT ts ≤ (bkTerm t + (ts.map bkTerm).sum) * B
    rw [Nat.add_mul]
    omega
theorem terms_bulk {ts : List Ix.Term} {t : Ix.Term} (h : t ∈ ts) : bkTerm t ≤ (ts.map bkTerm).sum := by
  induction ts with
  | nil => cases h
  | cons a ts ih =>
    simp only [List.map_cons, List.sum_cons]
    rcases List.mem_cons.1 h with rfl | h
    · omega
    · have := ih h; omega
theorem smatch_row (a0 : Array Value) (x0 : Ix.Idx) (qa : Array Value) (f : Nat) (q : Q) (w : World) (h0 : idxC.rd M0 w (Value.agg a0).cells.toList x0) (hq : QAt f M0 w (.agg qa) q) (z0 : szIdx x0) (bx : bkIdx x0 ≤ 1048576) (bq : q.bulk ≤ 1048576) (hT : TabsU w) :
    Calls Tryz.prog 4 #[.agg a0, .agg qa] w fun e w' => e = .returned (.bool true) ∧ Below w.heap.size w w' := by
  obtain ⟨u, v, e, h1, h2⟩ := idx_of_rd h0
  rw [e]
  have hs : (x0.2.map bkTerm).sum ≤ 1048576 := by unfold bkIdx bkTerms at bx; omega
  have hw : ∀ t ∈ x0.2, t.1.length + 1 ≤ 1048576 := fun t ht => by
    have h1 := terms_bulk ht
    have h2 : t.1.length + 1 ≤ bkTerm t := by unfold bkTerm bkStr; omega
    omega
  have hc := cost_bulk 1048576 x0.2 hw
  exact smatch_ok u v (.agg qa) x0.1 x0.2 f q w h1 h2 hq (szIdx_sz z0) bq (by omega) (fun t ht => by have := hw t ht; omega) hT
end Go.Proofs.YtfjpedgddgbelaaGreatDoor

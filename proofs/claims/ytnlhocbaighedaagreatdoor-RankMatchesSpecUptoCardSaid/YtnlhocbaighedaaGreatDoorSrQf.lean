/-
  The reference's QueryFault.
-/
import Derived.Test.YtnlhocbaighedaaGreatDoorR24
import Derived.Test.YtnlhocbaighedaaGreatDoorR5
import Derived.Test.YtnlhocbaighedaaGreatDoorR1
namespace Go.Proofs.YtnlhocbaighedaaGreatDoor
open Go.RowKit
set_option linter.unusedVariables false
theorem pre_more {q : Q} (h : Q.Fits 8 q) {f : Nat} (hf : 8 ≤ f) : Q.pre f q = Q.pre 8 q := by
 have key : ∀ n, Q.Fits (8 + n) q ∧ Q.pre (8 + n) q = Q.pre 8 q := by
  intro n
  induction n with
  | zero => exact ⟨h, rfl⟩
  | succ n ih => exact ⟨ih.1.succ, (Q.pre_fits ih.1).trans ih.2⟩
 obtain ⟨n, rfl⟩ : ∃ n, f = 8 + n := ⟨f - 8, by omega⟩
 exact (key n).2
theorem errGo_at {L : List Q} {i : Nat} (h : i < L.length) : Q.errGo (L.drop i) (i : Int) = if Q.errOf L[i] = 0 then Q.errGo (L.drop (i + 1)) ((i + 1 : Nat) : Int) else (Q.errOf L[i], (i : Int)) := by
 rw [List.drop_eq_getElem_cons h, Q.errGo]; rfl
theorem all_take_step (l : List Str) {k : Nat} (h : k < l.length) : (l.take (k + 1)).all Q.wordOk = ((l.take k).all Q.wordOk && Q.wordOk l[k]) := by
 rw [List.take_succ_eq_append_getElem h, List.all_append]; simp
set_option maxRecDepth 100000 in
set_option maxHeartbeats 16000000 in
theorem queryFault_ok (f : Nat) (q : Q) (v : Value) (w : World) (hq0 : QAt f M0 w v q) (hbk : q.bulk ≤ 1048580) (hT : TabsU w) :
  Calls Tryz.prog 17 #[v] w fun e w' => e = .returned (.agg #[.int .i64 (Q.fault q).1, .int .i64 (Q.fault q).2]) ∧ Below w.heap.size w w' := by
 have hq := hq0.mono (g := max f 8) (Nat.le_max_left _ _)
 have hf8 : 8 ≤ max f 8 := Nat.le_max_right _ _
 generalize max f 8 = f at hq hf8
 clear hq0
 have hqv := hq
 obtain ⟨A, c, rfl, _, _, _, _⟩ := hq
 obtain ⟨⟨rx, ry⟩, hR⟩ : ∃ r, Q.fault q = r := ⟨_, rfl⟩
 rw [hR]
 dsimp only
 have hF : (rx, ry) = if 8 < Q.lev 9 q then (2, -3) else if 60 < (Q.pre 9 q).length then (2, -2) else Q.errGo (Q.pre 9 q) 0 := by rw [← hR]; rfl
 have hlf := Q.lev_fits 8 q
 have hmb := Q.pre_mem_bulk (f + 1) q
 obtain ⟨ql, hql⟩ : ∃ n, q.parts.length = n := ⟨_, rfl⟩
 rw [hql] at hqv ⊢
 obtain ⟨W0, gq, gf, hW, hgq, hgf, hs1, kq, kf, hal⟩ := box2 w #[.int .i64 q.kind, .string (bs q.text), .int .i64 q.num, .slice A ql c] 28 #[.int .i64 0, .int .i64 0] 30
 replace hqv := hqv.ext hal
 replace hT := hT.ext hal
 obtain ⟨q0, q1, q2, q3, _⟩ := kq.four
 rw [← hW, ← hgq] at q0 q1 q2 q3
 have hlev : Calls Tryz.prog 37 #[.agg #[.int .i64 q.kind, .string (bs q.text), .int .i64 q.num, .slice A ql c], .int .i64 9] W0 fun r w' => r = .returned (.int .i64 (Q.lev 9 q : Nat)) ∧ Below W0.heap.size W0 w' := levels_ok 8 f q _ W0 (by omega) hqv
 have HF := Lib.hid hF; have Hlev := Lib.hid hlev; have HW := Lib.hid (And.intro hW (And.intro hgq (And.intro hgf hs1))); have Hkq := Lib.hid kq; have Hkf := Lib.hid kf; have Hal := Lib.hid hal; have Hqv := Lib.hid hqv; have Hlf := Lib.hid hlf; have Hmb := Lib.hid hmb; have HT := Lib.hid hT
 have Hat := Lib.hid (fun (x y : Int) (W : World) => at_ok x y W)
 have Hg : Hid (w.heap.size ≤ gf) := Lib.hid (by have := HW.out; omega)
 clear hF hlev hR hW hgq hgf hs1 kq kf hal hqv hlf hmb hT hql
 go_enter Tryz.func17, Tryz.ntmps17
 go_wp2_with fail
 rw [HW.out.1, HW.out.2.1]
 try rw [HW.out.2.2.1]
 refine Hlev.out.mono ?_
 rintro e w1 ⟨rfl, hb1⟩
 have Hb1 := Lib.hid hb1
 clear hb1 Hlev q0 q1 q2 q3
 by_cases hc1 : 8 < Q.lev 9 q
 ·have hd1 : (8 : Int) < ((Q.lev 9 q : Nat) : Int) := by omega
  go_wp2_with fail
  refine (Hat.out (2) (-3) _).mono ?_
  rintro e w9 ⟨rfl, hb9⟩
  have hbe9 := (Hb1.out).trans (hb9.mono (Hb1.out).size)
  have hk9 := Hkf.out.ext hbe9
  obtain ⟨v0, v1, v2, v3, _⟩ := hk9.two
  have Hbe := Lib.hid (Hal.out.trans (hbe9.mono Hal.out.size)); have Hk9 := Lib.hid hk9
  clear hb9 hbe9 hk9
  go_wp2
  obtain ⟨W9, hW9⟩ : ∃ W9, (w9.setCell ⟨gf, 0, none⟩ (.int .i64 (2))).setCell ⟨gf, 1, none⟩ (.int .i64 (-3)) = W9 := ⟨_, rfl⟩
  have hbe := below_put2 (w := w) Hbe.out Hg.out _ _ hW9
  obtain ⟨p7, hp7⟩ := put2 Hk9.out _ _ hW9
  rw [hW9]
  obtain ⟨e2, e3, _⟩ := p7.two
  refine bodyPost_ret (v := .agg #[.int .i64 (2), .int .i64 (-3)]) (by simp [results, Tryz.results17, go_sem, e2, e3]) rfl ?_
  have h9 : (rx, ry) = ((2 : Int), ((-3) : Int)) := by rw [HF.out, if_pos hc1]
  injection h9 with h91 h92
  exact ⟨by rw [h91, h92], hbe⟩
 have hd1 : ¬ (8 : Int) < ((Q.lev 9 q : Nat) : Int) := by omega
 have hfit : Q.Fits 8 q := Hlf.out.1 (by show Q.lev 9 q ≤ 8; omega)
 have hp9 := pre_more hfit (f := 9) (by omega)
 have hpf := pre_more hfit (f := f + 1) (by omega)
 have hF2 := HF.out
 rw [if_neg hc1, hp9] at hF2
 have hnd := nodes_ok f q _ 60 w1 M0 (by omega) (fun _ h => h.elim) (Hqv.out.ext Hb1.out) (by omega)
 rw [hpf] at hnd
 have hmb8 := Hmb.out
 rw [hpf] at hmb8
 obtain ⟨P, hP⟩ : ∃ P, Q.pre 8 q = P := ⟨_, rfl⟩
 have hpp := fun (p : Q) (hp : p ∈ Q.pre 8 q) => Q.pre_parts hfit p hp
 rw [hP] at hF2 hnd hmb8 hpp
 have Hnd := Lib.hid hnd; have HF2 := Lib.hid hF2; have Hpp := Lib.hid hpp; have Hmb8 := Lib.hid hmb8
 obtain ⟨q0, q1, q2, q3, _⟩ := (Hkq.out.ext Hb1.out).four
 obtain ⟨lv, hlv⟩ : ∃ lv, Q.lev 9 q = lv := ⟨_, rfl⟩
 rw [hlv] at hd1 ⊢
 clear hnd hF2 hpp hmb8 hp9 hpf hfit hP hc1 HF Hmb Hlf hlv
 go_wp2_with fail
 refine Hnd.out.mono ?_
 rintro e w3 ⟨A3, c3, L, rfl, hL, own, hb3⟩
 have hb13 := Hb1.out.trans (hb3.mono Hb1.out.size)
 have hcut := hL.out.of_le
 have rL := own.read0
 have Hb3 := Lib.hid hb13
 clear hb3 hb13 Hnd own q0 q1 q2 q3
 by_cases hc2 : 60 < L.length
 ·have hd2 : (60 : Int) < (L.length : Int) := by omega
  have hc3 := hcut.1.1 hc2
  have Hc3 := Lib.hid hc3
  clear hcut hc3 rL
  go_wp2_with fail
  refine (Hat.out (2) (-2) _).mono ?_
  rintro e w9 ⟨rfl, hb9⟩
  have hbe9 := (Hb3.out).trans (hb9.mono (Hb3.out).size)
  have hk9 := Hkf.out.ext hbe9
  obtain ⟨v0, v1, v2, v3, _⟩ := hk9.two
  have Hbe := Lib.hid (Hal.out.trans (hbe9.mono Hal.out.size)); have Hk9 := Lib.hid hk9
  clear hb9 hbe9 hk9
  go_wp2
  obtain ⟨W9, hW9⟩ : ∃ W9, (w9.setCell ⟨gf, 0, none⟩ (.int .i64 (2))).setCell ⟨gf, 1, none⟩ (.int .i64 (-2)) = W9 := ⟨_, rfl⟩
  have hbe := below_put2 (w := w) Hbe.out Hg.out _ _ hW9
  obtain ⟨p7, hp7⟩ := put2 Hk9.out _ _ hW9
  rw [hW9]
  obtain ⟨e2, e3, _⟩ := p7.two
  refine bodyPost_ret (v := .agg #[.int .i64 (2), .int .i64 (-2)]) (by simp [results, Tryz.results17, go_sem, e2, e3]) rfl ?_
  have h9 : (rx, ry) = ((2 : Int), ((-2) : Int)) := by rw [HF2.out, if_pos Hc3.out]
  injection h9 with h91 h92
  exact ⟨by rw [h91, h92], hbe⟩
 have hd2 : ¬ (60 : Int) < (L.length : Int) := by omega
 obtain rfl : L = P := hcut.2 (by omega)
 have hgo : Q.errGo (L.drop 0) ((0 : Nat) : Int) = (rx, ry) := by rw [HF2.out, if_neg hc2]; rfl
 have Hgo := Lib.hid hgo
 have hTw := HT.out.ext Hb3.out
 have HTw := Lib.hid hTw
 clear hcut HF2 hL hgo hTw HT
 go_wp2_with fail
 go_loopw [4] (fun iv wr => ∃ i : Nat, i ≤ L.length ∧ iv = .int .i64 (i : Int) ∧ Hid (Q.errGo (L.drop i) (i : Int) = (rx, ry)) ∧ Below w3.heap.size w3 wr) (fun iv _ => L.length - (intOf iv).toNat)
 case atStart => exact ⟨0, Nat.zero_le _, rfl, Hgo, Below.refl _ _⟩
 case round =>
  obtain ⟨i, hi, rfl, hgi, hbi⟩ := hrel
  obtain ⟨wi, rfl⟩ : ∃ W, W = wr := ⟨_, rfl⟩
  have hi0 : (0 : Int) ≤ (i : Int) := by omega
  by_cases hlt : i < L.length
  ·have hii : (i : Int) < (L.length : Int) := by omega
   obtain ⟨b, off, e, A2, c2, rfl, _, _, _, s0, s1, s2, s3, _⟩ := (rL.ext hbi).qAt hlt
   have hst := errGo_at hlt
   rw [hgi.out] at hst
   have hps := Hpp.out _ (List.getElem_mem hlt)
   have hbx := Hmb8.out _ (List.getElem_mem hlt)
   obtain ⟨⟨k, t, n, ps⟩, hx⟩ : ∃ x, x = L[i] := ⟨_, rfl⟩
   rw [← hx] at s0 s1 s2 s3 hst hps hbx
   rw [← Sr.refErr_eq (by omega)] at hst
   rw [Q.bulk_eq] at hbx
   simp only [Q.kind_node, Q.text_node, Q.num_node, Q.parts_node] at s0 s1 s2 s3 hps hbx
   obtain ⟨nl, hnl⟩ : ∃ m, ps.length = m := ⟨_, rfl⟩
   rw [hnl] at s3 hps
   rw [Sr.refErr_node, hnl] at hst
   obtain ⟨W5, g5, hW5, hg5, hs5, k5, hal5⟩ := boxA wi #[.int .i64 k, .string (bs t), .int .i64 n, .slice A2 nl c2] 28
   have hbc : Below W0.heap.size W0 W5 := Hb3.out.trans ((hbi.trans (hal5.mono hbi.size)).mono Hb3.out.size)
   have hb5 := hbi.trans (hal5.mono hbi.size)
   have Hst := Lib.hid hst; have Hnl := Lib.hid hnl; have HW5 := Lib.hid hW5; have Hbc := Lib.hid hbc; have Hk5 := Lib.hid k5; have Hb5 := Lib.hid hb5; have Hbi := Lib.hid hbi
   have Hnx : Hid (∀ W, Below W5.heap.size W5 W → Below w3.heap.size w3 W) := Lib.hid fun W h => hb5.trans (h.mono hb5.size)
   have Hbd : Hid (∀ W, Below W5.heap.size W5 W → Below W0.heap.size W0 W) := Lib.hid fun W h => hbc.trans (h.mono hbc.size)
   have htl : t.length ≤ 1048576 := by omega
   obtain ⟨y0, y1, y2, y3, _⟩ := k5.four
   rw [← hW5, ← hg5] at y0 y1 y2 y3
   clear hst hnl hW5 hs5 hbc k5 hb5 hal5 hx hbi hgi hbx
   by_cases h18 : 1 ≤ k ∧ k ≤ 8
   rotate_left
   ·have hin : (decide (1 ≤ k) && decide (k ≤ 8)) = false := by rw [Bool.eq_false_iff]; simp; omega
    have hinc := fun W => in_ok k 1 8 W
    simp only [hin] at hinc
    have Hin := Lib.hid hinc
    have herr : Sr.refE k t n nl = 4 := by unfold Sr.refE; rw [if_pos h18]
    have Herr := Lib.hid herr
    clear hinc herr hin
    go_wp2_with fail
    rw [HW5.out]
    clear s0 s1 s2 s3
    try rw [hg5]
    refine (Hin.out _).mono ?_
    rintro e w6 ⟨rfl, rfl⟩
    clear y0 y1 y2 y3
    go_wp2_with fail
    refine (Hat.out (4) (i : Int) _).mono ?_
    rintro e w9 ⟨rfl, hb9⟩
    have hbe9 := (Hbc.out).trans (hb9.mono (Hbc.out).size)
    have hk9 := Hkf.out.ext hbe9
    obtain ⟨v0, v1, v2, v3, _⟩ := hk9.two
    have Hbe := Lib.hid (Hal.out.trans (hbe9.mono Hal.out.size)); have Hk9 := Lib.hid hk9
    clear hb9 hbe9 hk9
    go_wp2
    obtain ⟨W9, hW9⟩ : ∃ W9, (w9.setCell ⟨gf, 0, none⟩ (.int .i64 (4))).setCell ⟨gf, 1, none⟩ (.int .i64 (i : Int)) = W9 := ⟨_, rfl⟩
    have hbe := below_put2 (w := w) Hbe.out Hg.out _ _ hW9
    obtain ⟨p7, hp7⟩ := put2 Hk9.out _ _ hW9
    rw [hW9]
    obtain ⟨e2, e3, _⟩ := p7.two
    refine bodyPost_ret (v := .agg #[.int .i64 (4), .int .i64 (i : Int)]) (by simp [results, Tryz.results17, go_sem, e2, e3]) rfl ?_
    have h9 : (rx, ry) = ((4 : Int), ((i : Int) : Int)) := by rw [Hst.out, Herr.out]; rfl
    injection h9 with h91 h92
    exact ⟨by rw [h91, h92], hbe⟩
   have hkk := kinds h18
   rcases hkk with rfl | rfl | rfl | rfl | rfl | rfl | rfl | rfl
   ·have hin1 := fun W => in_ok 1 1 8 W
    have hin2 := fun W => in_ok 1 2 5 W
    rw [show (decide ((1 : Int) ≤ 1) && decide ((1 : Int) ≤ 8)) = true from by decide] at hin1
    rw [show (decide ((2 : Int) ≤ 1) && decide ((1 : Int) ≤ 5)) = false from by decide] at hin2
    have Hin1 := Lib.hid hin1; have Hin2 := Lib.hid hin2
    clear hin1 hin2 h18
    go_wp2_with fail
    rw [HW5.out]
    clear s0 s1 s2 s3
    try rw [hg5]
    refine (Hin1.out _).mono ?_
    rintro e w6 ⟨rfl, rfl⟩
    clear y0 y1 y2 y3
    obtain ⟨y0, y1, y2, y3, _⟩ := Hk5.out.four
    go_wp2_with fail
    refine (Hin2.out _).mono ?_
    rintro e w6 ⟨rfl, rfl⟩
    clear Hin1 Hin2
    by_cases cc0 : 0 < nl
    ·have hn : (0 : Int) < (nl : Int) := by omega
     have herr : Sr.refE 1 t n nl = 5 := by
      unfold Sr.refE
      rw [if_neg (by omega), if_pos (by simp [cc0]; try omega)]
     have Herr := Lib.hid herr
     clear herr
     go_wp2_with fail
     refine (Hat.out (5) (i : Int) _).mono ?_
     rintro e w9 ⟨rfl, hb9⟩
     have hbe9 := (Hbc.out).trans (hb9.mono (Hbc.out).size)
     have hk9 := Hkf.out.ext hbe9
     obtain ⟨v0, v1, v2, v3, _⟩ := hk9.two
     have Hbe := Lib.hid (Hal.out.trans (hbe9.mono Hal.out.size)); have Hk9 := Lib.hid hk9
     clear hb9 hbe9 hk9
     go_wp2
     obtain ⟨W9, hW9⟩ : ∃ W9, (w9.setCell ⟨gf, 0, none⟩ (.int .i64 (5))).setCell ⟨gf, 1, none⟩ (.int .i64 (i : Int)) = W9 := ⟨_, rfl⟩
     have hbe := below_put2 (w := w) Hbe.out Hg.out _ _ hW9
     obtain ⟨p7, hp7⟩ := put2 Hk9.out _ _ hW9
     rw [hW9]
     obtain ⟨e2, e3, _⟩ := p7.two
     refine bodyPost_ret (v := .agg #[.int .i64 (5), .int .i64 (i : Int)]) (by simp [results, Tryz.results17, go_sem, e2, e3]) rfl ?_
     have h9 : (rx, ry) = ((5 : Int), ((i : Int) : Int)) := by rw [Hst.out, Herr.out]; rfl
     injection h9 with h91 h92
     exact ⟨by rw [h91, h92], hbe⟩
    have hn : ¬ (0 : Int) < (nl : Int) := by omega
    by_cases cc1 : n ≠ 0
    ·have hz : (n != 0) = true := by simp; omega
     have herr : Sr.refE 1 t n nl = 5 := by
      unfold Sr.refE
      rw [if_neg (by omega), if_pos (by simp [cc1]; try omega)]
     have Herr := Lib.hid herr
     clear herr
     go_wp2_with fail
     refine (Hat.out (5) (i : Int) _).mono ?_
     rintro e w9 ⟨rfl, hb9⟩
     have hbe9 := (Hbc.out).trans (hb9.mono (Hbc.out).size)
     have hk9 := Hkf.out.ext hbe9
     obtain ⟨v0, v1, v2, v3, _⟩ := hk9.two
     have Hbe := Lib.hid (Hal.out.trans (hbe9.mono Hal.out.size)); have Hk9 := Lib.hid hk9
     clear hb9 hbe9 hk9
     go_wp2
     obtain ⟨W9, hW9⟩ : ∃ W9, (w9.setCell ⟨gf, 0, none⟩ (.int .i64 (5))).setCell ⟨gf, 1, none⟩ (.int .i64 (i : Int)) = W9 := ⟨_, rfl⟩
     have hbe := below_put2 (w := w) Hbe.out Hg.out _ _ hW9
     obtain ⟨p7, hp7⟩ := put2 Hk9.out _ _ hW9
     rw [hW9]
     obtain ⟨e2, e3, _⟩ := p7.two
     refine bodyPost_ret (v := .agg #[.int .i64 (5), .int .i64 (i : Int)]) (by simp [results, Tryz.results17, go_sem, e2, e3]) rfl ?_
     have h9 : (rx, ry) = ((5 : Int), ((i : Int) : Int)) := by rw [Hst.out, Herr.out]; rfl
     injection h9 with h91 h92
     exact ⟨by rw [h91, h92], hbe⟩
    have hz : (n != 0) = false := by simpa using cc1
    by_cases cc2 : t ≠ []
    ·have ht : (t == []) = false := by simpa using cc2
     have herr : Sr.refE 1 t n nl = 5 := by
      unfold Sr.refE
      rw [if_neg (by omega), if_pos (by simp [cc2]; try omega)]
     have Herr := Lib.hid herr
     clear herr
     go_wp2_with fail
     refine (Hat.out (5) (i : Int) _).mono ?_
     rintro e w9 ⟨rfl, hb9⟩
     have hbe9 := (Hbc.out).trans (hb9.mono (Hbc.out).size)
     have hk9 := Hkf.out.ext hbe9
     obtain ⟨v0, v1, v2, v3, _⟩ := hk9.two
     have Hbe := Lib.hid (Hal.out.trans (hbe9.mono Hal.out.size)); have Hk9 := Lib.hid hk9
     clear hb9 hbe9 hk9
     go_wp2
     obtain ⟨W9, hW9⟩ : ∃ W9, (w9.setCell ⟨gf, 0, none⟩ (.int .i64 (5))).setCell ⟨gf, 1, none⟩ (.int .i64 (i : Int)) = W9 := ⟨_, rfl⟩
     have hbe := below_put2 (w := w) Hbe.out Hg.out _ _ hW9
     obtain ⟨p7, hp7⟩ := put2 Hk9.out _ _ hW9
     rw [hW9]
     obtain ⟨e2, e3, _⟩ := p7.two
     refine bodyPost_ret (v := .agg #[.int .i64 (5), .int .i64 (i : Int)]) (by simp [results, Tryz.results17, go_sem, e2, e3]) rfl ?_
     have h9 : (rx, ry) = ((5 : Int), ((i : Int) : Int)) := by rw [Hst.out, Herr.out]; rfl
     injection h9 with h91 h92
     exact ⟨by rw [h91, h92], hbe⟩
    have ht : (t == []) = true := by simpa using cc2
    have herr : Sr.refE 1 t n nl = 0 := by
     unfold Sr.refE
     rw [if_neg (by omega), if_neg (by simp [cc0, cc1, cc2]; try omega)]
     rw [if_neg (by omega), if_pos (by omega)]
    have hnext := Hst.out
    rw [if_pos herr] at hnext
    have Hnext := Lib.hid hnext
    clear herr hnext
    go_wp2_with fail
    go_roundw
    case rel => exact ⟨i + 1, by omega, by go_num, Lib.hid Hnext.out.symm, Hnx.out _ (Below.refl _ _)⟩
    case measure => simp [intOf]; omega
   ·have hin1 := fun W => in_ok 2 1 8 W
    have hin2 := fun W => in_ok 2 2 5 W
    rw [show (decide ((1 : Int) ≤ 2) && decide ((2 : Int) ≤ 8)) = true from by decide] at hin1
    rw [show (decide ((2 : Int) ≤ 2) && decide ((2 : Int) ≤ 5)) = true from by decide] at hin2
    have Hin1 := Lib.hid hin1; have Hin2 := Lib.hid hin2
    clear hin1 hin2 h18
    go_wp2_with fail
    rw [HW5.out]
    clear s0 s1 s2 s3
    try rw [hg5]
    refine (Hin1.out _).mono ?_
    rintro e w6 ⟨rfl, rfl⟩
    clear y0 y1 y2 y3
    obtain ⟨y0, y1, y2, y3, _⟩ := Hk5.out.four
    go_wp2_with fail
    refine (Hin2.out _).mono ?_
    rintro e w6 ⟨rfl, rfl⟩
    clear Hin1 Hin2
    by_cases cc0 : 0 < nl
    ·have hn : (0 : Int) < (nl : Int) := by omega
     have herr : Sr.refE 2 t n nl = 5 := by
      unfold Sr.refE
      rw [if_neg (by omega), if_pos (by simp [cc0]; try omega)]
     have Herr := Lib.hid herr
     clear herr
     go_wp2_with fail
     refine (Hat.out (5) (i : Int) _).mono ?_
     rintro e w9 ⟨rfl, hb9⟩
     have hbe9 := (Hbc.out).trans (hb9.mono (Hbc.out).size)
     have hk9 := Hkf.out.ext hbe9
     obtain ⟨v0, v1, v2, v3, _⟩ := hk9.two
     have Hbe := Lib.hid (Hal.out.trans (hbe9.mono Hal.out.size)); have Hk9 := Lib.hid hk9
     clear hb9 hbe9 hk9
     go_wp2
     obtain ⟨W9, hW9⟩ : ∃ W9, (w9.setCell ⟨gf, 0, none⟩ (.int .i64 (5))).setCell ⟨gf, 1, none⟩ (.int .i64 (i : Int)) = W9 := ⟨_, rfl⟩
     have hbe := below_put2 (w := w) Hbe.out Hg.out _ _ hW9
     obtain ⟨p7, hp7⟩ := put2 Hk9.out _ _ hW9
     rw [hW9]
     obtain ⟨e2, e3, _⟩ := p7.two
     refine bodyPost_ret (v := .agg #[.int .i64 (5), .int .i64 (i : Int)]) (by simp [results, Tryz.results17, go_sem, e2, e3]) rfl ?_
     have h9 : (rx, ry) = ((5 : Int), ((i : Int) : Int)) := by rw [Hst.out, Herr.out]; rfl
     injection h9 with h91 h92
     exact ⟨by rw [h91, h92], hbe⟩
    have hn : ¬ (0 : Int) < (nl : Int) := by omega
    by_cases cc1 : n ≠ 0
    ·have hz : (n != 0) = true := by simp; omega
     have herr : Sr.refE 2 t n nl = 5 := by
      unfold Sr.refE
      rw [if_neg (by omega), if_pos (by simp [cc1]; try omega)]
     have Herr := Lib.hid herr
     clear herr
     go_wp2_with fail
     refine (Hat.out (5) (i : Int) _).mono ?_
     rintro e w9 ⟨rfl, hb9⟩
     have hbe9 := (Hbc.out).trans (hb9.mono (Hbc.out).size)
     have hk9 := Hkf.out.ext hbe9
     obtain ⟨v0, v1, v2, v3, _⟩ := hk9.two
     have Hbe := Lib.hid (Hal.out.trans (hbe9.mono Hal.out.size)); have Hk9 := Lib.hid hk9
     clear hb9 hbe9 hk9
     go_wp2
     obtain ⟨W9, hW9⟩ : ∃ W9, (w9.setCell ⟨gf, 0, none⟩ (.int .i64 (5))).setCell ⟨gf, 1, none⟩ (.int .i64 (i : Int)) = W9 := ⟨_, rfl⟩
     have hbe := below_put2 (w := w) Hbe.out Hg.out _ _ hW9
     obtain ⟨p7, hp7⟩ := put2 Hk9.out _ _ hW9
     rw [hW9]
     obtain ⟨e2, e3, _⟩ := p7.two
     refine bodyPost_ret (v := .agg #[.int .i64 (5), .int .i64 (i : Int)]) (by simp [results, Tryz.results17, go_sem, e2, e3]) rfl ?_
     have h9 : (rx, ry) = ((5 : Int), ((i : Int) : Int)) := by rw [Hst.out, Herr.out]; rfl
     injection h9 with h91 h92
     exact ⟨by rw [h91, h92], hbe⟩
    have hz : (n != 0) = false := by simpa using cc1
    have hsp := refSplit_ok t (by omega) W5
    have Hsp := Lib.hid hsp
    clear hsp
    go_wp2_with fail
    refine Hsp.out.mono ?_
    rintro e w6 ⟨Aw, cw, Lw, rfl, hLw, ownw, hb6⟩
    have rw0 := ownw.read0
    replace y0 := (hb6.cell (World.block_lt_of_cell? _ _ y0)).trans y0
    have hwm : ∀ x ∈ Lw, x.length ≤ 1048576 := fun x hx => by rw [hLw.out] at hx; exact Nat.le_trans (splitS_lens hx) htl
    have Hwm := Lib.hid hwm; have Hb6 := Lib.hid hb6
    have hlw : Lw.length ≤ 1048577 := by rw [hLw.out]; exact Nat.le_trans (splitS_size t) (by omega)
    clear hwm hb6 ownw Hsp y1 y2 y3
    by_cases hl9 : Lw.length = 1
    ·have hl8 : ((Lw.length : Int) == 1) = true := by simp; omega
     have Hl9 := Lib.hid hl9
     clear hl9
     have htx : Sr.textE 2 t = true := by simp [Sr.textE, ← hLw.out, Hl9.out]
     have Htx := Lib.hid htx
     clear htx
     go_wp2_with fail
     clear y0
     go_loopw [10, 11] (fun ov jv wr => ∃ j : Nat, j ≤ Lw.length ∧ jv = .int .i64 (j : Int) ∧ ov = .bool (true && (Lw.take j).all Q.wordOk) ∧ Below w6.heap.size w6 wr) (fun _ jv _ => Lw.length - (intOf jv).toNat)
     case atStart => exact ⟨0, Nat.zero_le _, rfl, rfl, Below.refl _ _⟩
     case round =>
      obtain ⟨j, hj, rfl, rfl, hbj⟩ := hrel
      obtain ⟨wj, rfl⟩ : ∃ W, W = wr := ⟨_, rfl⟩
      have hj0 : (0 : Int) ≤ (j : Int) := by omega
      by_cases hlj : j < Lw.length
      ·have hjj : (j : Int) < (Lw.length : Int) := by omega
       have hstp := all_take_step Lw hlj
       obtain ⟨ac, hac⟩ : ∃ a, (true && (Lw.take j).all Q.wordOk) = a := ⟨_, rfl⟩
       have hstp2 : (true && (Lw.take (j + 1)).all Q.wordOk) = (ac && Q.wordOk Lw[j]) := by rw [hstp, ← hac, Bool.and_assoc]
       rw [hac]
       cases ac with
       | false =>
        have Hs := Lib.hid hstp2
        clear hstp hstp2 hac
        go_wp2_with fail
        go_roundw
        case rel => exact ⟨j + 1, by omega, by go_num, by rw [Hs.out]; rfl, hbj⟩
        case measure => simp [intOf]; omega
       | true =>
        obtain ⟨b7, o7, rfl, _, _, u0, _⟩ := (rw0.ext hbj).strAt hlj
        have hxl := Hwm.out _ (List.getElem_mem hlj)
        obtain ⟨z, hz9⟩ : ∃ z, z = Lw[j] := ⟨_, rfl⟩
        rw [← hz9] at u0 hxl hstp2
        have hiw := isWord_ok z (by omega) wj (HTw.out.ext (Hnx.out _ (Hb6.out.trans (hbj.mono Hb6.out.size))))
        obtain ⟨r9, hr9⟩ : ∃ r, Q.wordOk z = r := ⟨_, rfl⟩
        rw [hr9, Bool.true_and] at hstp2
        rw [hr9] at hiw
        have Hs := Lib.hid hstp2; have Hiw := Lib.hid hiw; have Hbj := Lib.hid hbj
        clear hstp hstp2 hac hz9 hr9 hiw hbj
        go_wp2_with fail
        refine Hiw.out.mono ?_
        rintro e w7 ⟨rfl, hb7⟩
        clear u0
        go_wp2_with fail
        go_roundw
        case rel => exact ⟨j + 1, by omega, by go_num, by first | (rw [Hs.out]; done) | (rw [Hs.out]; simp; done), Hbj.out.trans (hb7.mono Hbj.out.size)⟩
        case measure => simp [intOf]; omega
      ·obtain rfl : j = Lw.length := by omega
       rw [List.take_length]
       have hall : (Sr.textE 2 t && (splitS t).all Q.wordOk) = (true && Lw.all Q.wordOk) := by rw [Htx.out, hLw.out]
       obtain ⟨fin, hfin⟩ : ∃ a, (true && Lw.all Q.wordOk) = a := ⟨_, rfl⟩
       rw [hfin] at hall ⊢
       have Hall := Lib.hid hall
       have Hbj := Lib.hid hbj
       clear hall hfin hbj
       cases fin with
       | true =>
        have herr : Sr.refE 2 t n nl = 0 := by
         unfold Sr.refE
         rw [if_neg (by omega), if_neg (by simp [cc0, cc1]; try omega)]
         rw [if_neg (by omega), if_neg (by omega)]
         rw [if_pos Hall.out]
        have hnext := Hst.out
        rw [if_pos herr] at hnext
        have Hnext := Lib.hid hnext
        clear herr hnext
        go_wp2_with fail
        go_roundw
        case rel => exact ⟨i + 1, by omega, by go_num, Lib.hid Hnext.out.symm, Hnx.out _ (Hb6.out.trans (Hbj.out.mono Hb6.out.size))⟩
        case measure => simp [intOf]; omega
       | false =>
        have herr : Sr.refE 2 t n nl = 10 := by
         unfold Sr.refE
         rw [if_neg (by omega), if_neg (by simp [cc0, cc1]; try omega)]
         rw [if_neg (by omega), if_neg (by omega)]
         rw [if_neg (by rw [Hall.out]; decide)]
        have Herr := Lib.hid herr
        clear herr
        go_wp2_with fail
        refine (Hat.out (10) (i : Int) _).mono ?_
        rintro e w9 ⟨rfl, hb9⟩
        have hbe9 := ((Hbd.out _ (Hb6.out.trans (Hbj.out.mono Hb6.out.size)))).trans (hb9.mono ((Hbd.out _ (Hb6.out.trans (Hbj.out.mono Hb6.out.size)))).size)
        have hk9 := Hkf.out.ext hbe9
        obtain ⟨v0, v1, v2, v3, _⟩ := hk9.two
        have Hbe := Lib.hid (Hal.out.trans (hbe9.mono Hal.out.size)); have Hk9 := Lib.hid hk9
        clear hb9 hbe9 hk9
        go_wp2
        obtain ⟨W9, hW9⟩ : ∃ W9, (w9.setCell ⟨gf, 0, none⟩ (.int .i64 (10))).setCell ⟨gf, 1, none⟩ (.int .i64 (i : Int)) = W9 := ⟨_, rfl⟩
        have hbe := below_put2 (w := w) Hbe.out Hg.out _ _ hW9
        obtain ⟨p7, hp7⟩ := put2 Hk9.out _ _ hW9
        rw [hW9]
        obtain ⟨e2, e3, _⟩ := p7.two
        refine bodyPost_ret (v := .agg #[.int .i64 (10), .int .i64 (i : Int)]) (by simp [results, Tryz.results17, go_sem, e2, e3]) rfl ?_
        have h9 : (rx, ry) = ((10 : Int), ((i : Int) : Int)) := by rw [Hst.out, Herr.out]; rfl
        injection h9 with h91 h92
        exact ⟨by rw [h91, h92], hbe⟩
    ·have hl8 : ((Lw.length : Int) == 1) = false := beq_eq_false_iff_ne.2 (by omega)
     have Hl9 := Lib.hid hl9
     clear hl9
     have htx : Sr.textE 2 t = false := by simp [Sr.textE, ← hLw.out, Hl9.out]
     have Htx := Lib.hid htx
     clear htx
     go_wp2_with fail
     clear y0
     go_loopw [10, 11] (fun ov jv wr => ∃ j : Nat, j ≤ Lw.length ∧ jv = .int .i64 (j : Int) ∧ ov = .bool (false && (Lw.take j).all Q.wordOk) ∧ Below w6.heap.size w6 wr) (fun _ jv _ => Lw.length - (intOf jv).toNat)
     case atStart => exact ⟨0, Nat.zero_le _, rfl, rfl, Below.refl _ _⟩
     case round =>
      obtain ⟨j, hj, rfl, rfl, hbj⟩ := hrel
      obtain ⟨wj, rfl⟩ : ∃ W, W = wr := ⟨_, rfl⟩
      have hj0 : (0 : Int) ≤ (j : Int) := by omega
      by_cases hlj : j < Lw.length
      ·have hjj : (j : Int) < (Lw.length : Int) := by omega
       have hstp := all_take_step Lw hlj
       obtain ⟨ac, hac⟩ : ∃ a, (false && (Lw.take j).all Q.wordOk) = a := ⟨_, rfl⟩
       have hstp2 : (false && (Lw.take (j + 1)).all Q.wordOk) = (ac && Q.wordOk Lw[j]) := by rw [hstp, ← hac, Bool.and_assoc]
       rw [hac]
       cases ac with
       | false =>
        have Hs := Lib.hid hstp2
        clear hstp hstp2 hac
        go_wp2_with fail
        go_roundw
        case rel => exact ⟨j + 1, by omega, by go_num, by rw [Hs.out]; rfl, hbj⟩
        case measure => simp [intOf]; omega
       | true =>
        obtain ⟨b7, o7, rfl, _, _, u0, _⟩ := (rw0.ext hbj).strAt hlj
        have hxl := Hwm.out _ (List.getElem_mem hlj)
        obtain ⟨z, hz9⟩ : ∃ z, z = Lw[j] := ⟨_, rfl⟩
        rw [← hz9] at u0 hxl hstp2
        have hiw := isWord_ok z (by omega) wj (HTw.out.ext (Hnx.out _ (Hb6.out.trans (hbj.mono Hb6.out.size))))
        obtain ⟨r9, hr9⟩ : ∃ r, Q.wordOk z = r := ⟨_, rfl⟩
        rw [hr9, Bool.true_and] at hstp2
        rw [hr9] at hiw
        have Hs := Lib.hid hstp2; have Hiw := Lib.hid hiw; have Hbj := Lib.hid hbj
        clear hstp hstp2 hac hz9 hr9 hiw hbj
        go_wp2_with fail
        refine Hiw.out.mono ?_
        rintro e w7 ⟨rfl, hb7⟩
        clear u0
        go_wp2_with fail
        go_roundw
        case rel => exact ⟨j + 1, by omega, by go_num, by first | (rw [Hs.out]; done) | (rw [Hs.out]; simp; done), Hbj.out.trans (hb7.mono Hbj.out.size)⟩
        case measure => simp [intOf]; omega
      ·obtain rfl : j = Lw.length := by omega
       rw [List.take_length]
       have hall : (Sr.textE 2 t && (splitS t).all Q.wordOk) = (false && Lw.all Q.wordOk) := by rw [Htx.out, hLw.out]
       obtain ⟨fin, hfin⟩ : ∃ a, (false && Lw.all Q.wordOk) = a := ⟨_, rfl⟩
       rw [hfin] at hall ⊢
       have Hall := Lib.hid hall
       have Hbj := Lib.hid hbj
       clear hall hfin hbj
       cases fin with
       | true =>
        have herr : Sr.refE 2 t n nl = 0 := by
         unfold Sr.refE
         rw [if_neg (by omega), if_neg (by simp [cc0, cc1]; try omega)]
         rw [if_neg (by omega), if_neg (by omega)]
         rw [if_pos Hall.out]
        have hnext := Hst.out
        rw [if_pos herr] at hnext
        have Hnext := Lib.hid hnext
        clear herr hnext
        go_wp2_with fail
        go_roundw
        case rel => exact ⟨i + 1, by omega, by go_num, Lib.hid Hnext.out.symm, Hnx.out _ (Hb6.out.trans (Hbj.out.mono Hb6.out.size))⟩
        case measure => simp [intOf]; omega
       | false =>
        have herr : Sr.refE 2 t n nl = 10 := by
         unfold Sr.refE
         rw [if_neg (by omega), if_neg (by simp [cc0, cc1]; try omega)]
         rw [if_neg (by omega), if_neg (by omega)]
         rw [if_neg (by rw [Hall.out]; decide)]
        have Herr := Lib.hid herr
        clear herr
        go_wp2_with fail
        refine (Hat.out (10) (i : Int) _).mono ?_
        rintro e w9 ⟨rfl, hb9⟩
        have hbe9 := ((Hbd.out _ (Hb6.out.trans (Hbj.out.mono Hb6.out.size)))).trans (hb9.mono ((Hbd.out _ (Hb6.out.trans (Hbj.out.mono Hb6.out.size)))).size)
        have hk9 := Hkf.out.ext hbe9
        obtain ⟨v0, v1, v2, v3, _⟩ := hk9.two
        have Hbe := Lib.hid (Hal.out.trans (hbe9.mono Hal.out.size)); have Hk9 := Lib.hid hk9
        clear hb9 hbe9 hk9
        go_wp2
        obtain ⟨W9, hW9⟩ : ∃ W9, (w9.setCell ⟨gf, 0, none⟩ (.int .i64 (10))).setCell ⟨gf, 1, none⟩ (.int .i64 (i : Int)) = W9 := ⟨_, rfl⟩
        have hbe := below_put2 (w := w) Hbe.out Hg.out _ _ hW9
        obtain ⟨p7, hp7⟩ := put2 Hk9.out _ _ hW9
        rw [hW9]
        obtain ⟨e2, e3, _⟩ := p7.two
        refine bodyPost_ret (v := .agg #[.int .i64 (10), .int .i64 (i : Int)]) (by simp [results, Tryz.results17, go_sem, e2, e3]) rfl ?_
        have h9 : (rx, ry) = ((10 : Int), ((i : Int) : Int)) := by rw [Hst.out, Herr.out]; rfl
        injection h9 with h91 h92
        exact ⟨by rw [h91, h92], hbe⟩
   ·have hin1 := fun W => in_ok 3 1 8 W
    have hin2 := fun W => in_ok 3 2 5 W
    rw [show (decide ((1 : Int) ≤ 3) && decide ((3 : Int) ≤ 8)) = true from by decide] at hin1
    rw [show (decide ((2 : Int) ≤ 3) && decide ((3 : Int) ≤ 5)) = true from by decide] at hin2
    have Hin1 := Lib.hid hin1; have Hin2 := Lib.hid hin2
    clear hin1 hin2 h18
    go_wp2_with fail
    rw [HW5.out]
    clear s0 s1 s2 s3
    try rw [hg5]
    refine (Hin1.out _).mono ?_
    rintro e w6 ⟨rfl, rfl⟩
    clear y0 y1 y2 y3
    obtain ⟨y0, y1, y2, y3, _⟩ := Hk5.out.four
    go_wp2_with fail
    refine (Hin2.out _).mono ?_
    rintro e w6 ⟨rfl, rfl⟩
    clear Hin1 Hin2
    by_cases cc0 : 0 < nl
    ·have hn : (0 : Int) < (nl : Int) := by omega
     have herr : Sr.refE 3 t n nl = 5 := by
      unfold Sr.refE
      rw [if_neg (by omega), if_pos (by simp [cc0]; try omega)]
     have Herr := Lib.hid herr
     clear herr
     go_wp2_with fail
     refine (Hat.out (5) (i : Int) _).mono ?_
     rintro e w9 ⟨rfl, hb9⟩
     have hbe9 := (Hbc.out).trans (hb9.mono (Hbc.out).size)
     have hk9 := Hkf.out.ext hbe9
     obtain ⟨v0, v1, v2, v3, _⟩ := hk9.two
     have Hbe := Lib.hid (Hal.out.trans (hbe9.mono Hal.out.size)); have Hk9 := Lib.hid hk9
     clear hb9 hbe9 hk9
     go_wp2
     obtain ⟨W9, hW9⟩ : ∃ W9, (w9.setCell ⟨gf, 0, none⟩ (.int .i64 (5))).setCell ⟨gf, 1, none⟩ (.int .i64 (i : Int)) = W9 := ⟨_, rfl⟩
     have hbe := below_put2 (w := w) Hbe.out Hg.out _ _ hW9
     obtain ⟨p7, hp7⟩ := put2 Hk9.out _ _ hW9
     rw [hW9]
     obtain ⟨e2, e3, _⟩ := p7.two
     refine bodyPost_ret (v := .agg #[.int .i64 (5), .int .i64 (i : Int)]) (by simp [results, Tryz.results17, go_sem, e2, e3]) rfl ?_
     have h9 : (rx, ry) = ((5 : Int), ((i : Int) : Int)) := by rw [Hst.out, Herr.out]; rfl
     injection h9 with h91 h92
     exact ⟨by rw [h91, h92], hbe⟩
    have hn : ¬ (0 : Int) < (nl : Int) := by omega
    by_cases cc1 : n ≠ 0
    ·have hz : (n != 0) = true := by simp; omega
     have herr : Sr.refE 3 t n nl = 5 := by
      unfold Sr.refE
      rw [if_neg (by omega), if_pos (by simp [cc1]; try omega)]
     have Herr := Lib.hid herr
     clear herr
     go_wp2_with fail
     refine (Hat.out (5) (i : Int) _).mono ?_
     rintro e w9 ⟨rfl, hb9⟩
     have hbe9 := (Hbc.out).trans (hb9.mono (Hbc.out).size)
     have hk9 := Hkf.out.ext hbe9
     obtain ⟨v0, v1, v2, v3, _⟩ := hk9.two
     have Hbe := Lib.hid (Hal.out.trans (hbe9.mono Hal.out.size)); have Hk9 := Lib.hid hk9
     clear hb9 hbe9 hk9
     go_wp2
     obtain ⟨W9, hW9⟩ : ∃ W9, (w9.setCell ⟨gf, 0, none⟩ (.int .i64 (5))).setCell ⟨gf, 1, none⟩ (.int .i64 (i : Int)) = W9 := ⟨_, rfl⟩
     have hbe := below_put2 (w := w) Hbe.out Hg.out _ _ hW9
     obtain ⟨p7, hp7⟩ := put2 Hk9.out _ _ hW9
     rw [hW9]
     obtain ⟨e2, e3, _⟩ := p7.two
     refine bodyPost_ret (v := .agg #[.int .i64 (5), .int .i64 (i : Int)]) (by simp [results, Tryz.results17, go_sem, e2, e3]) rfl ?_
     have h9 : (rx, ry) = ((5 : Int), ((i : Int) : Int)) := by rw [Hst.out, Herr.out]; rfl
     injection h9 with h91 h92
     exact ⟨by rw [h91, h92], hbe⟩
    have hz : (n != 0) = false := by simpa using cc1
    have hsp := refSplit_ok t (by omega) W5
    have Hsp := Lib.hid hsp
    clear hsp
    go_wp2_with fail
    refine Hsp.out.mono ?_
    rintro e w6 ⟨Aw, cw, Lw, rfl, hLw, ownw, hb6⟩
    have rw0 := ownw.read0
    replace y0 := (hb6.cell (World.block_lt_of_cell? _ _ y0)).trans y0
    have hwm : ∀ x ∈ Lw, x.length ≤ 1048576 := fun x hx => by rw [hLw.out] at hx; exact Nat.le_trans (splitS_lens hx) htl
    have Hwm := Lib.hid hwm; have Hb6 := Lib.hid hb6
    have hlw : Lw.length ≤ 1048577 := by rw [hLw.out]; exact Nat.le_trans (splitS_size t) (by omega)
    clear hwm hb6 ownw Hsp y1 y2 y3
    by_cases hl9 : Lw.length = 1
    ·have hl8 : ((Lw.length : Int) == 1) = true := by simp; omega
     have Hl9 := Lib.hid hl9
     clear hl9
     have htx : Sr.textE 3 t = true := by simp [Sr.textE, ← hLw.out, Hl9.out]
     have Htx := Lib.hid htx
     clear htx
     go_wp2_with fail
     clear y0
     go_loopw [10, 11] (fun ov jv wr => ∃ j : Nat, j ≤ Lw.length ∧ jv = .int .i64 (j : Int) ∧ ov = .bool (true && (Lw.take j).all Q.wordOk) ∧ Below w6.heap.size w6 wr) (fun _ jv _ => Lw.length - (intOf jv).toNat)
     case atStart => exact ⟨0, Nat.zero_le _, rfl, rfl, Below.refl _ _⟩
     case round =>
      obtain ⟨j, hj, rfl, rfl, hbj⟩ := hrel
      obtain ⟨wj, rfl⟩ : ∃ W, W = wr := ⟨_, rfl⟩
      have hj0 : (0 : Int) ≤ (j : Int) := by omega
      by_cases hlj : j < Lw.length
      ·have hjj : (j : Int) < (Lw.length : Int) := by omega
       have hstp := all_take_step Lw hlj
       obtain ⟨ac, hac⟩ : ∃ a, (true && (Lw.take j).all Q.wordOk) = a := ⟨_, rfl⟩
       have hstp2 : (true && (Lw.take (j + 1)).all Q.wordOk) = (ac && Q.wordOk Lw[j]) := by rw [hstp, ← hac, Bool.and_assoc]
       rw [hac]
       cases ac with
       | false =>
        have Hs := Lib.hid hstp2
        clear hstp hstp2 hac
        go_wp2_with fail
        go_roundw
        case rel => exact ⟨j + 1, by omega, by go_num, by rw [Hs.out]; rfl, hbj⟩
        case measure => simp [intOf]; omega
       | true =>
        obtain ⟨b7, o7, rfl, _, _, u0, _⟩ := (rw0.ext hbj).strAt hlj
        have hxl := Hwm.out _ (List.getElem_mem hlj)
        obtain ⟨z, hz9⟩ : ∃ z, z = Lw[j] := ⟨_, rfl⟩
        rw [← hz9] at u0 hxl hstp2
        have hiw := isWord_ok z (by omega) wj (HTw.out.ext (Hnx.out _ (Hb6.out.trans (hbj.mono Hb6.out.size))))
        obtain ⟨r9, hr9⟩ : ∃ r, Q.wordOk z = r := ⟨_, rfl⟩
        rw [hr9, Bool.true_and] at hstp2
        rw [hr9] at hiw
        have Hs := Lib.hid hstp2; have Hiw := Lib.hid hiw; have Hbj := Lib.hid hbj
        clear hstp hstp2 hac hz9 hr9 hiw hbj
        go_wp2_with fail
        refine Hiw.out.mono ?_
        rintro e w7 ⟨rfl, hb7⟩
        clear u0
        go_wp2_with fail
        go_roundw
        case rel => exact ⟨j + 1, by omega, by go_num, by first | (rw [Hs.out]; done) | (rw [Hs.out]; simp; done), Hbj.out.trans (hb7.mono Hbj.out.size)⟩
        case measure => simp [intOf]; omega
      ·obtain rfl : j = Lw.length := by omega
       rw [List.take_length]
       have hall : (Sr.textE 3 t && (splitS t).all Q.wordOk) = (true && Lw.all Q.wordOk) := by rw [Htx.out, hLw.out]
       obtain ⟨fin, hfin⟩ : ∃ a, (true && Lw.all Q.wordOk) = a := ⟨_, rfl⟩
       rw [hfin] at hall ⊢
       have Hall := Lib.hid hall
       have Hbj := Lib.hid hbj
       clear hall hfin hbj
       cases fin with
       | true =>
        have herr : Sr.refE 3 t n nl = 0 := by
         unfold Sr.refE
         rw [if_neg (by omega), if_neg (by simp [cc0, cc1]; try omega)]
         rw [if_neg (by omega), if_neg (by omega)]
         rw [if_pos Hall.out]
        have hnext := Hst.out
        rw [if_pos herr] at hnext
        have Hnext := Lib.hid hnext
        clear herr hnext
        go_wp2_with fail
        go_roundw
        case rel => exact ⟨i + 1, by omega, by go_num, Lib.hid Hnext.out.symm, Hnx.out _ (Hb6.out.trans (Hbj.out.mono Hb6.out.size))⟩
        case measure => simp [intOf]; omega
       | false =>
        have herr : Sr.refE 3 t n nl = 10 := by
         unfold Sr.refE
         rw [if_neg (by omega), if_neg (by simp [cc0, cc1]; try omega)]
         rw [if_neg (by omega), if_neg (by omega)]
         rw [if_neg (by rw [Hall.out]; decide)]
        have Herr := Lib.hid herr
        clear herr
        go_wp2_with fail
        refine (Hat.out (10) (i : Int) _).mono ?_
        rintro e w9 ⟨rfl, hb9⟩
        have hbe9 := ((Hbd.out _ (Hb6.out.trans (Hbj.out.mono Hb6.out.size)))).trans (hb9.mono ((Hbd.out _ (Hb6.out.trans (Hbj.out.mono Hb6.out.size)))).size)
        have hk9 := Hkf.out.ext hbe9
        obtain ⟨v0, v1, v2, v3, _⟩ := hk9.two
        have Hbe := Lib.hid (Hal.out.trans (hbe9.mono Hal.out.size)); have Hk9 := Lib.hid hk9
        clear hb9 hbe9 hk9
        go_wp2
        obtain ⟨W9, hW9⟩ : ∃ W9, (w9.setCell ⟨gf, 0, none⟩ (.int .i64 (10))).setCell ⟨gf, 1, none⟩ (.int .i64 (i : Int)) = W9 := ⟨_, rfl⟩
        have hbe := below_put2 (w := w) Hbe.out Hg.out _ _ hW9
        obtain ⟨p7, hp7⟩ := put2 Hk9.out _ _ hW9
        rw [hW9]
        obtain ⟨e2, e3, _⟩ := p7.two
        refine bodyPost_ret (v := .agg #[.int .i64 (10), .int .i64 (i : Int)]) (by simp [results, Tryz.results17, go_sem, e2, e3]) rfl ?_
        have h9 : (rx, ry) = ((10 : Int), ((i : Int) : Int)) := by rw [Hst.out, Herr.out]; rfl
        injection h9 with h91 h92
        exact ⟨by rw [h91, h92], hbe⟩
    ·have hl8 : ((Lw.length : Int) == 1) = false := beq_eq_false_iff_ne.2 (by omega)
     have Hl9 := Lib.hid hl9
     clear hl9
     have htx : Sr.textE 3 t = false := by simp [Sr.textE, ← hLw.out, Hl9.out]
     have Htx := Lib.hid htx
     clear htx
     go_wp2_with fail
     clear y0
     go_loopw [10, 11] (fun ov jv wr => ∃ j : Nat, j ≤ Lw.length ∧ jv = .int .i64 (j : Int) ∧ ov = .bool (false && (Lw.take j).all Q.wordOk) ∧ Below w6.heap.size w6 wr) (fun _ jv _ => Lw.length - (intOf jv).toNat)
     case atStart => exact ⟨0, Nat.zero_le _, rfl, rfl, Below.refl _ _⟩
     case round =>
      obtain ⟨j, hj, rfl, rfl, hbj⟩ := hrel
      obtain ⟨wj, rfl⟩ : ∃ W, W = wr := ⟨_, rfl⟩
      have hj0 : (0 : Int) ≤ (j : Int) := by omega
      by_cases hlj : j < Lw.length
      ·have hjj : (j : Int) < (Lw.length : Int) := by omega
       have hstp := all_take_step Lw hlj
       obtain ⟨ac, hac⟩ : ∃ a, (false && (Lw.take j).all Q.wordOk) = a := ⟨_, rfl⟩
       have hstp2 : (false && (Lw.take (j + 1)).all Q.wordOk) = (ac && Q.wordOk Lw[j]) := by rw [hstp, ← hac, Bool.and_assoc]
       rw [hac]
       cases ac with
       | false =>
        have Hs := Lib.hid hstp2
        clear hstp hstp2 hac
        go_wp2_with fail
        go_roundw
        case rel => exact ⟨j + 1, by omega, by go_num, by rw [Hs.out]; rfl, hbj⟩
        case measure => simp [intOf]; omega
       | true =>
        obtain ⟨b7, o7, rfl, _, _, u0, _⟩ := (rw0.ext hbj).strAt hlj
        have hxl := Hwm.out _ (List.getElem_mem hlj)
        obtain ⟨z, hz9⟩ : ∃ z, z = Lw[j] := ⟨_, rfl⟩
        rw [← hz9] at u0 hxl hstp2
        have hiw := isWord_ok z (by omega) wj (HTw.out.ext (Hnx.out _ (Hb6.out.trans (hbj.mono Hb6.out.size))))
        obtain ⟨r9, hr9⟩ : ∃ r, Q.wordOk z = r := ⟨_, rfl⟩
        rw [hr9, Bool.true_and] at hstp2
        rw [hr9] at hiw
        have Hs := Lib.hid hstp2; have Hiw := Lib.hid hiw; have Hbj := Lib.hid hbj
        clear hstp hstp2 hac hz9 hr9 hiw hbj
        go_wp2_with fail
        refine Hiw.out.mono ?_
        rintro e w7 ⟨rfl, hb7⟩
        clear u0
        go_wp2_with fail
        go_roundw
        case rel => exact ⟨j + 1, by omega, by go_num, by first | (rw [Hs.out]; done) | (rw [Hs.out]; simp; done), Hbj.out.trans (hb7.mono Hbj.out.size)⟩
        case measure => simp [intOf]; omega
      ·obtain rfl : j = Lw.length := by omega
       rw [List.take_length]
       have hall : (Sr.textE 3 t && (splitS t).all Q.wordOk) = (false && Lw.all Q.wordOk) := by rw [Htx.out, hLw.out]
       obtain ⟨fin, hfin⟩ : ∃ a, (false && Lw.all Q.wordOk) = a := ⟨_, rfl⟩
       rw [hfin] at hall ⊢
       have Hall := Lib.hid hall
       have Hbj := Lib.hid hbj
       clear hall hfin hbj
       cases fin with
       | true =>
        have herr : Sr.refE 3 t n nl = 0 := by
         unfold Sr.refE
         rw [if_neg (by omega), if_neg (by simp [cc0, cc1]; try omega)]
         rw [if_neg (by omega), if_neg (by omega)]
         rw [if_pos Hall.out]
        have hnext := Hst.out
        rw [if_pos herr] at hnext
        have Hnext := Lib.hid hnext
        clear herr hnext
        go_wp2_with fail
        go_roundw
        case rel => exact ⟨i + 1, by omega, by go_num, Lib.hid Hnext.out.symm, Hnx.out _ (Hb6.out.trans (Hbj.out.mono Hb6.out.size))⟩
        case measure => simp [intOf]; omega
       | false =>
        have herr : Sr.refE 3 t n nl = 10 := by
         unfold Sr.refE
         rw [if_neg (by omega), if_neg (by simp [cc0, cc1]; try omega)]
         rw [if_neg (by omega), if_neg (by omega)]
         rw [if_neg (by rw [Hall.out]; decide)]
        have Herr := Lib.hid herr
        clear herr
        go_wp2_with fail
        refine (Hat.out (10) (i : Int) _).mono ?_
        rintro e w9 ⟨rfl, hb9⟩
        have hbe9 := ((Hbd.out _ (Hb6.out.trans (Hbj.out.mono Hb6.out.size)))).trans (hb9.mono ((Hbd.out _ (Hb6.out.trans (Hbj.out.mono Hb6.out.size)))).size)
        have hk9 := Hkf.out.ext hbe9
        obtain ⟨v0, v1, v2, v3, _⟩ := hk9.two
        have Hbe := Lib.hid (Hal.out.trans (hbe9.mono Hal.out.size)); have Hk9 := Lib.hid hk9
        clear hb9 hbe9 hk9
        go_wp2
        obtain ⟨W9, hW9⟩ : ∃ W9, (w9.setCell ⟨gf, 0, none⟩ (.int .i64 (10))).setCell ⟨gf, 1, none⟩ (.int .i64 (i : Int)) = W9 := ⟨_, rfl⟩
        have hbe := below_put2 (w := w) Hbe.out Hg.out _ _ hW9
        obtain ⟨p7, hp7⟩ := put2 Hk9.out _ _ hW9
        rw [hW9]
        obtain ⟨e2, e3, _⟩ := p7.two
        refine bodyPost_ret (v := .agg #[.int .i64 (10), .int .i64 (i : Int)]) (by simp [results, Tryz.results17, go_sem, e2, e3]) rfl ?_
        have h9 : (rx, ry) = ((10 : Int), ((i : Int) : Int)) := by rw [Hst.out, Herr.out]; rfl
        injection h9 with h91 h92
        exact ⟨by rw [h91, h92], hbe⟩
   ·have hin1 := fun W => in_ok 4 1 8 W
    have hin2 := fun W => in_ok 4 2 5 W
    rw [show (decide ((1 : Int) ≤ 4) && decide ((4 : Int) ≤ 8)) = true from by decide] at hin1
    rw [show (decide ((2 : Int) ≤ 4) && decide ((4 : Int) ≤ 5)) = true from by decide] at hin2
    have Hin1 := Lib.hid hin1; have Hin2 := Lib.hid hin2
    clear hin1 hin2 h18
    go_wp2_with fail
    rw [HW5.out]
    clear s0 s1 s2 s3
    try rw [hg5]
    refine (Hin1.out _).mono ?_
    rintro e w6 ⟨rfl, rfl⟩
    clear y0 y1 y2 y3
    obtain ⟨y0, y1, y2, y3, _⟩ := Hk5.out.four
    go_wp2_with fail
    refine (Hin2.out _).mono ?_
    rintro e w6 ⟨rfl, rfl⟩
    clear Hin1 Hin2
    by_cases cc0 : 0 < nl
    ·have hn : (0 : Int) < (nl : Int) := by omega
     have herr : Sr.refE 4 t n nl = 5 := by
      unfold Sr.refE
      rw [if_neg (by omega), if_pos (by simp [cc0]; try omega)]
     have Herr := Lib.hid herr
     clear herr
     go_wp2_with fail
     refine (Hat.out (5) (i : Int) _).mono ?_
     rintro e w9 ⟨rfl, hb9⟩
     have hbe9 := (Hbc.out).trans (hb9.mono (Hbc.out).size)
     have hk9 := Hkf.out.ext hbe9
     obtain ⟨v0, v1, v2, v3, _⟩ := hk9.two
     have Hbe := Lib.hid (Hal.out.trans (hbe9.mono Hal.out.size)); have Hk9 := Lib.hid hk9
     clear hb9 hbe9 hk9
     go_wp2
     obtain ⟨W9, hW9⟩ : ∃ W9, (w9.setCell ⟨gf, 0, none⟩ (.int .i64 (5))).setCell ⟨gf, 1, none⟩ (.int .i64 (i : Int)) = W9 := ⟨_, rfl⟩
     have hbe := below_put2 (w := w) Hbe.out Hg.out _ _ hW9
     obtain ⟨p7, hp7⟩ := put2 Hk9.out _ _ hW9
     rw [hW9]
     obtain ⟨e2, e3, _⟩ := p7.two
     refine bodyPost_ret (v := .agg #[.int .i64 (5), .int .i64 (i : Int)]) (by simp [results, Tryz.results17, go_sem, e2, e3]) rfl ?_
     have h9 : (rx, ry) = ((5 : Int), ((i : Int) : Int)) := by rw [Hst.out, Herr.out]; rfl
     injection h9 with h91 h92
     exact ⟨by rw [h91, h92], hbe⟩
    have hn : ¬ (0 : Int) < (nl : Int) := by omega
    by_cases cc1 : n ≠ 0
    ·have hz : (n != 0) = true := by simp; omega
     have herr : Sr.refE 4 t n nl = 5 := by
      unfold Sr.refE
      rw [if_neg (by omega), if_pos (by simp [cc1]; try omega)]
     have Herr := Lib.hid herr
     clear herr
     go_wp2_with fail
     refine (Hat.out (5) (i : Int) _).mono ?_
     rintro e w9 ⟨rfl, hb9⟩
     have hbe9 := (Hbc.out).trans (hb9.mono (Hbc.out).size)
     have hk9 := Hkf.out.ext hbe9
     obtain ⟨v0, v1, v2, v3, _⟩ := hk9.two
     have Hbe := Lib.hid (Hal.out.trans (hbe9.mono Hal.out.size)); have Hk9 := Lib.hid hk9
     clear hb9 hbe9 hk9
     go_wp2
     obtain ⟨W9, hW9⟩ : ∃ W9, (w9.setCell ⟨gf, 0, none⟩ (.int .i64 (5))).setCell ⟨gf, 1, none⟩ (.int .i64 (i : Int)) = W9 := ⟨_, rfl⟩
     have hbe := below_put2 (w := w) Hbe.out Hg.out _ _ hW9
     obtain ⟨p7, hp7⟩ := put2 Hk9.out _ _ hW9
     rw [hW9]
     obtain ⟨e2, e3, _⟩ := p7.two
     refine bodyPost_ret (v := .agg #[.int .i64 (5), .int .i64 (i : Int)]) (by simp [results, Tryz.results17, go_sem, e2, e3]) rfl ?_
     have h9 : (rx, ry) = ((5 : Int), ((i : Int) : Int)) := by rw [Hst.out, Herr.out]; rfl
     injection h9 with h91 h92
     exact ⟨by rw [h91, h92], hbe⟩
    have hz : (n != 0) = false := by simpa using cc1
    have hsp := refSplit_ok t (by omega) W5
    have Hsp := Lib.hid hsp
    clear hsp
    go_wp2_with fail
    refine Hsp.out.mono ?_
    rintro e w6 ⟨Aw, cw, Lw, rfl, hLw, ownw, hb6⟩
    have rw0 := ownw.read0
    replace y0 := (hb6.cell (World.block_lt_of_cell? _ _ y0)).trans y0
    have hwm : ∀ x ∈ Lw, x.length ≤ 1048576 := fun x hx => by rw [hLw.out] at hx; exact Nat.le_trans (splitS_lens hx) htl
    have Hwm := Lib.hid hwm; have Hb6 := Lib.hid hb6
    have hlw : Lw.length ≤ 1048577 := by rw [hLw.out]; exact Nat.le_trans (splitS_size t) (by omega)
    clear hwm hb6 ownw Hsp y1 y2 y3
    have htx : Sr.textE 4 t = true := by simp [Sr.textE]
    have Htx := Lib.hid htx
    clear htx
    go_wp2_with fail
    clear y0
    go_loopw [10, 11] (fun ov jv wr => ∃ j : Nat, j ≤ Lw.length ∧ jv = .int .i64 (j : Int) ∧ ov = .bool (true && (Lw.take j).all Q.wordOk) ∧ Below w6.heap.size w6 wr) (fun _ jv _ => Lw.length - (intOf jv).toNat)
    case atStart => exact ⟨0, Nat.zero_le _, rfl, rfl, Below.refl _ _⟩
    case round =>
     obtain ⟨j, hj, rfl, rfl, hbj⟩ := hrel
     obtain ⟨wj, rfl⟩ : ∃ W, W = wr := ⟨_, rfl⟩
     have hj0 : (0 : Int) ≤ (j : Int) := by omega
     by_cases hlj : j < Lw.length
     ·have hjj : (j : Int) < (Lw.length : Int) := by omega
      have hstp := all_take_step Lw hlj
      obtain ⟨ac, hac⟩ : ∃ a, (true && (Lw.take j).all Q.wordOk) = a := ⟨_, rfl⟩
      have hstp2 : (true && (Lw.take (j + 1)).all Q.wordOk) = (ac && Q.wordOk Lw[j]) := by rw [hstp, ← hac, Bool.and_assoc]
      rw [hac]
      cases ac with
      | false =>
       have Hs := Lib.hid hstp2
       clear hstp hstp2 hac
       go_wp2_with fail
       go_roundw
       case rel => exact ⟨j + 1, by omega, by go_num, by rw [Hs.out]; rfl, hbj⟩
       case measure => simp [intOf]; omega
      | true =>
       obtain ⟨b7, o7, rfl, _, _, u0, _⟩ := (rw0.ext hbj).strAt hlj
       have hxl := Hwm.out _ (List.getElem_mem hlj)
       obtain ⟨z, hz9⟩ : ∃ z, z = Lw[j] := ⟨_, rfl⟩
       rw [← hz9] at u0 hxl hstp2
       have hiw := isWord_ok z (by omega) wj (HTw.out.ext (Hnx.out _ (Hb6.out.trans (hbj.mono Hb6.out.size))))
       obtain ⟨r9, hr9⟩ : ∃ r, Q.wordOk z = r := ⟨_, rfl⟩
       rw [hr9, Bool.true_and] at hstp2
       rw [hr9] at hiw
       have Hs := Lib.hid hstp2; have Hiw := Lib.hid hiw; have Hbj := Lib.hid hbj
       clear hstp hstp2 hac hz9 hr9 hiw hbj
       go_wp2_with fail
       refine Hiw.out.mono ?_
       rintro e w7 ⟨rfl, hb7⟩
       clear u0
       go_wp2_with fail
       go_roundw
       case rel => exact ⟨j + 1, by omega, by go_num, by first | (rw [Hs.out]; done) | (rw [Hs.out]; simp; done), Hbj.out.trans (hb7.mono Hbj.out.size)⟩
       case measure => simp [intOf]; omega
     ·obtain rfl : j = Lw.length := by omega
      rw [List.take_length]
      have hall : (Sr.textE 4 t && (splitS t).all Q.wordOk) = (true && Lw.all Q.wordOk) := by rw [Htx.out, hLw.out]
      obtain ⟨fin, hfin⟩ : ∃ a, (true && Lw.all Q.wordOk) = a := ⟨_, rfl⟩
      rw [hfin] at hall ⊢
      have Hall := Lib.hid hall
      have Hbj := Lib.hid hbj
      clear hall hfin hbj
      cases fin with
      | true =>
       have herr : Sr.refE 4 t n nl = 0 := by
        unfold Sr.refE
        rw [if_neg (by omega), if_neg (by simp [cc0, cc1]; try omega)]
        rw [if_neg (by omega), if_neg (by omega)]
        rw [if_pos Hall.out]
       have hnext := Hst.out
       rw [if_pos herr] at hnext
       have Hnext := Lib.hid hnext
       clear herr hnext
       go_wp2_with fail
       go_roundw
       case rel => exact ⟨i + 1, by omega, by go_num, Lib.hid Hnext.out.symm, Hnx.out _ (Hb6.out.trans (Hbj.out.mono Hb6.out.size))⟩
       case measure => simp [intOf]; omega
      | false =>
       have herr : Sr.refE 4 t n nl = 10 := by
        unfold Sr.refE
        rw [if_neg (by omega), if_neg (by simp [cc0, cc1]; try omega)]
        rw [if_neg (by omega), if_neg (by omega)]
        rw [if_neg (by rw [Hall.out]; decide)]
       have Herr := Lib.hid herr
       clear herr
       go_wp2_with fail
       refine (Hat.out (10) (i : Int) _).mono ?_
       rintro e w9 ⟨rfl, hb9⟩
       have hbe9 := ((Hbd.out _ (Hb6.out.trans (Hbj.out.mono Hb6.out.size)))).trans (hb9.mono ((Hbd.out _ (Hb6.out.trans (Hbj.out.mono Hb6.out.size)))).size)
       have hk9 := Hkf.out.ext hbe9
       obtain ⟨v0, v1, v2, v3, _⟩ := hk9.two
       have Hbe := Lib.hid (Hal.out.trans (hbe9.mono Hal.out.size)); have Hk9 := Lib.hid hk9
       clear hb9 hbe9 hk9
       go_wp2
       obtain ⟨W9, hW9⟩ : ∃ W9, (w9.setCell ⟨gf, 0, none⟩ (.int .i64 (10))).setCell ⟨gf, 1, none⟩ (.int .i64 (i : Int)) = W9 := ⟨_, rfl⟩
       have hbe := below_put2 (w := w) Hbe.out Hg.out _ _ hW9
       obtain ⟨p7, hp7⟩ := put2 Hk9.out _ _ hW9
       rw [hW9]
       obtain ⟨e2, e3, _⟩ := p7.two
       refine bodyPost_ret (v := .agg #[.int .i64 (10), .int .i64 (i : Int)]) (by simp [results, Tryz.results17, go_sem, e2, e3]) rfl ?_
       have h9 : (rx, ry) = ((10 : Int), ((i : Int) : Int)) := by rw [Hst.out, Herr.out]; rfl
       injection h9 with h91 h92
       exact ⟨by rw [h91, h92], hbe⟩
   ·have hin1 := fun W => in_ok 5 1 8 W
    have hin2 := fun W => in_ok 5 2 5 W
    rw [show (decide ((1 : Int) ≤ 5) && decide ((5 : Int) ≤ 8)) = true from by decide] at hin1
    rw [show (decide ((2 : Int) ≤ 5) && decide ((5 : Int) ≤ 5)) = true from by decide] at hin2
    have Hin1 := Lib.hid hin1; have Hin2 := Lib.hid hin2
    clear hin1 hin2 h18
    go_wp2_with fail
    rw [HW5.out]
    clear s0 s1 s2 s3
    try rw [hg5]
    refine (Hin1.out _).mono ?_
    rintro e w6 ⟨rfl, rfl⟩
    clear y0 y1 y2 y3
    obtain ⟨y0, y1, y2, y3, _⟩ := Hk5.out.four
    go_wp2_with fail
    refine (Hin2.out _).mono ?_
    rintro e w6 ⟨rfl, rfl⟩
    clear Hin1 Hin2
    by_cases cc0 : 0 < nl
    ·have hn : (0 : Int) < (nl : Int) := by omega
     have herr : Sr.refE 5 t n nl = 5 := by
      unfold Sr.refE
      rw [if_neg (by omega), if_pos (by simp [cc0]; try omega)]
     have Herr := Lib.hid herr
     clear herr
     go_wp2_with fail
     refine (Hat.out (5) (i : Int) _).mono ?_
     rintro e w9 ⟨rfl, hb9⟩
     have hbe9 := (Hbc.out).trans (hb9.mono (Hbc.out).size)
     have hk9 := Hkf.out.ext hbe9
     obtain ⟨v0, v1, v2, v3, _⟩ := hk9.two
     have Hbe := Lib.hid (Hal.out.trans (hbe9.mono Hal.out.size)); have Hk9 := Lib.hid hk9
     clear hb9 hbe9 hk9
     go_wp2
     obtain ⟨W9, hW9⟩ : ∃ W9, (w9.setCell ⟨gf, 0, none⟩ (.int .i64 (5))).setCell ⟨gf, 1, none⟩ (.int .i64 (i : Int)) = W9 := ⟨_, rfl⟩
     have hbe := below_put2 (w := w) Hbe.out Hg.out _ _ hW9
     obtain ⟨p7, hp7⟩ := put2 Hk9.out _ _ hW9
     rw [hW9]
     obtain ⟨e2, e3, _⟩ := p7.two
     refine bodyPost_ret (v := .agg #[.int .i64 (5), .int .i64 (i : Int)]) (by simp [results, Tryz.results17, go_sem, e2, e3]) rfl ?_
     have h9 : (rx, ry) = ((5 : Int), ((i : Int) : Int)) := by rw [Hst.out, Herr.out]; rfl
     injection h9 with h91 h92
     exact ⟨by rw [h91, h92], hbe⟩
    have hn : ¬ (0 : Int) < (nl : Int) := by omega
    have hin3 := fun W => in_ok n 1 50 W
    by_cases hr : 1 ≤ n ∧ n ≤ 50
    rotate_left
    ·rw [show (decide (1 ≤ n) && decide (n ≤ 50)) = false from by rw [Bool.eq_false_iff]; simp; omega] at hin3
     have herr : Sr.refE 5 t n nl = 3 := by
      unfold Sr.refE
      rw [if_neg (by omega), if_neg (by simp [cc0]; try omega)]
      rw [if_pos ⟨rfl, hr⟩]
     have Herr := Lib.hid herr; have Hin3 := Lib.hid hin3
     clear herr hin3 hr
     by_cases hz0 : n = 0
     ·have hz : (n != 0) = false := by simpa using hz0
      subst hz0
      go_wp2_with fail
      refine (Hin3.out _).mono ?_
      rintro e w6 ⟨rfl, rfl⟩
      go_wp2_with fail
      refine (Hat.out (3) (i : Int) _).mono ?_
      rintro e w9 ⟨rfl, hb9⟩
      have hbe9 := (Hbc.out).trans (hb9.mono (Hbc.out).size)
      have hk9 := Hkf.out.ext hbe9
      obtain ⟨v0, v1, v2, v3, _⟩ := hk9.two
      have Hbe := Lib.hid (Hal.out.trans (hbe9.mono Hal.out.size)); have Hk9 := Lib.hid hk9
      clear hb9 hbe9 hk9
      go_wp2
      obtain ⟨W9, hW9⟩ : ∃ W9, (w9.setCell ⟨gf, 0, none⟩ (.int .i64 (3))).setCell ⟨gf, 1, none⟩ (.int .i64 (i : Int)) = W9 := ⟨_, rfl⟩
      have hbe := below_put2 (w := w) Hbe.out Hg.out _ _ hW9
      obtain ⟨p7, hp7⟩ := put2 Hk9.out _ _ hW9
      rw [hW9]
      obtain ⟨e2, e3, _⟩ := p7.two
      refine bodyPost_ret (v := .agg #[.int .i64 (3), .int .i64 (i : Int)]) (by simp [results, Tryz.results17, go_sem, e2, e3]) rfl ?_
      have h9 : (rx, ry) = ((3 : Int), ((i : Int) : Int)) := by rw [Hst.out, Herr.out]; rfl
      injection h9 with h91 h92
      exact ⟨by rw [h91, h92], hbe⟩
     ·have hz : (n != 0) = true := by simpa using hz0
      clear hz0
      go_wp2_with fail
      refine (Hin3.out _).mono ?_
      rintro e w6 ⟨rfl, rfl⟩
      go_wp2_with fail
      refine (Hat.out (3) (i : Int) _).mono ?_
      rintro e w9 ⟨rfl, hb9⟩
      have hbe9 := (Hbc.out).trans (hb9.mono (Hbc.out).size)
      have hk9 := Hkf.out.ext hbe9
      obtain ⟨v0, v1, v2, v3, _⟩ := hk9.two
      have Hbe := Lib.hid (Hal.out.trans (hbe9.mono Hal.out.size)); have Hk9 := Lib.hid hk9
      clear hb9 hbe9 hk9
      go_wp2
      obtain ⟨W9, hW9⟩ : ∃ W9, (w9.setCell ⟨gf, 0, none⟩ (.int .i64 (3))).setCell ⟨gf, 1, none⟩ (.int .i64 (i : Int)) = W9 := ⟨_, rfl⟩
      have hbe := below_put2 (w := w) Hbe.out Hg.out _ _ hW9
      obtain ⟨p7, hp7⟩ := put2 Hk9.out _ _ hW9
      rw [hW9]
      obtain ⟨e2, e3, _⟩ := p7.two
      refine bodyPost_ret (v := .agg #[.int .i64 (3), .int .i64 (i : Int)]) (by simp [results, Tryz.results17, go_sem, e2, e3]) rfl ?_
      have h9 : (rx, ry) = ((3 : Int), ((i : Int) : Int)) := by rw [Hst.out, Herr.out]; rfl
      injection h9 with h91 h92
      exact ⟨by rw [h91, h92], hbe⟩
    rw [show (decide (1 ≤ n) && decide (n ≤ 50)) = true from by simp; omega] at hin3
    have hz : (n != 0) = true := by simp; omega
    have Hin3 := Lib.hid hin3; have Hrr := Lib.hid hr
    clear hin3 hr
    go_wp2_with fail
    refine (Hin3.out _).mono ?_
    rintro e w6 ⟨rfl, rfl⟩
    clear Hin3
    have hsp := refSplit_ok t (by omega) W5
    have Hsp := Lib.hid hsp
    clear hsp
    go_wp2_with fail
    refine Hsp.out.mono ?_
    rintro e w6 ⟨Aw, cw, Lw, rfl, hLw, ownw, hb6⟩
    have rw0 := ownw.read0
    replace y0 := (hb6.cell (World.block_lt_of_cell? _ _ y0)).trans y0
    have hwm : ∀ x ∈ Lw, x.length ≤ 1048576 := fun x hx => by rw [hLw.out] at hx; exact Nat.le_trans (splitS_lens hx) htl
    have Hwm := Lib.hid hwm; have Hb6 := Lib.hid hb6
    have hlw : Lw.length ≤ 1048577 := by rw [hLw.out]; exact Nat.le_trans (splitS_size t) (by omega)
    clear hwm hb6 ownw Hsp y1 y2 y3
    by_cases hl9 : Lw.length = 2
    ·have hl8 : ((Lw.length : Int) == 2) = true := by simp; omega
     have Hl9 := Lib.hid hl9
     clear hl9
     have htx : Sr.textE 5 t = true := by simp [Sr.textE, ← hLw.out, Hl9.out]
     have Htx := Lib.hid htx
     clear htx
     go_wp2_with fail
     clear y0
     go_loopw [10, 11] (fun ov jv wr => ∃ j : Nat, j ≤ Lw.length ∧ jv = .int .i64 (j : Int) ∧ ov = .bool (true && (Lw.take j).all Q.wordOk) ∧ Below w6.heap.size w6 wr) (fun _ jv _ => Lw.length - (intOf jv).toNat)
     case atStart => exact ⟨0, Nat.zero_le _, rfl, rfl, Below.refl _ _⟩
     case round =>
      obtain ⟨j, hj, rfl, rfl, hbj⟩ := hrel
      obtain ⟨wj, rfl⟩ : ∃ W, W = wr := ⟨_, rfl⟩
      have hj0 : (0 : Int) ≤ (j : Int) := by omega
      by_cases hlj : j < Lw.length
      ·have hjj : (j : Int) < (Lw.length : Int) := by omega
       have hstp := all_take_step Lw hlj
       obtain ⟨ac, hac⟩ : ∃ a, (true && (Lw.take j).all Q.wordOk) = a := ⟨_, rfl⟩
       have hstp2 : (true && (Lw.take (j + 1)).all Q.wordOk) = (ac && Q.wordOk Lw[j]) := by rw [hstp, ← hac, Bool.and_assoc]
       rw [hac]
       cases ac with
       | false =>
        have Hs := Lib.hid hstp2
        clear hstp hstp2 hac
        go_wp2_with fail
        go_roundw
        case rel => exact ⟨j + 1, by omega, by go_num, by rw [Hs.out]; rfl, hbj⟩
        case measure => simp [intOf]; omega
       | true =>
        obtain ⟨b7, o7, rfl, _, _, u0, _⟩ := (rw0.ext hbj).strAt hlj
        have hxl := Hwm.out _ (List.getElem_mem hlj)
        obtain ⟨z, hz9⟩ : ∃ z, z = Lw[j] := ⟨_, rfl⟩
        rw [← hz9] at u0 hxl hstp2
        have hiw := isWord_ok z (by omega) wj (HTw.out.ext (Hnx.out _ (Hb6.out.trans (hbj.mono Hb6.out.size))))
        obtain ⟨r9, hr9⟩ : ∃ r, Q.wordOk z = r := ⟨_, rfl⟩
        rw [hr9, Bool.true_and] at hstp2
        rw [hr9] at hiw
        have Hs := Lib.hid hstp2; have Hiw := Lib.hid hiw; have Hbj := Lib.hid hbj
        clear hstp hstp2 hac hz9 hr9 hiw hbj
        go_wp2_with fail
        refine Hiw.out.mono ?_
        rintro e w7 ⟨rfl, hb7⟩
        clear u0
        go_wp2_with fail
        go_roundw
        case rel => exact ⟨j + 1, by omega, by go_num, by first | (rw [Hs.out]; done) | (rw [Hs.out]; simp; done), Hbj.out.trans (hb7.mono Hbj.out.size)⟩
        case measure => simp [intOf]; omega
      ·obtain rfl : j = Lw.length := by omega
       rw [List.take_length]
       have hall : (Sr.textE 5 t && (splitS t).all Q.wordOk) = (true && Lw.all Q.wordOk) := by rw [Htx.out, hLw.out]
       obtain ⟨fin, hfin⟩ : ∃ a, (true && Lw.all Q.wordOk) = a := ⟨_, rfl⟩
       rw [hfin] at hall ⊢
       have Hall := Lib.hid hall
       have Hbj := Lib.hid hbj
       clear hall hfin hbj
       cases fin with
       | true =>
        have herr : Sr.refE 5 t n nl = 0 := by
         have hr := Hrr.out
         unfold Sr.refE
         rw [if_neg (by omega), if_neg (by simp [cc0]; try omega)]
         rw [if_neg (by simp; omega), if_neg (by omega)]
         rw [if_pos Hall.out]
        have hnext := Hst.out
        rw [if_pos herr] at hnext
        have Hnext := Lib.hid hnext
        clear herr hnext
        go_wp2_with fail
        go_roundw
        case rel => exact ⟨i + 1, by omega, by go_num, Lib.hid Hnext.out.symm, Hnx.out _ (Hb6.out.trans (Hbj.out.mono Hb6.out.size))⟩
        case measure => simp [intOf]; omega
       | false =>
        have herr : Sr.refE 5 t n nl = 10 := by
         have hr := Hrr.out
         unfold Sr.refE
         rw [if_neg (by omega), if_neg (by simp [cc0]; try omega)]
         rw [if_neg (by simp; omega), if_neg (by omega)]
         rw [if_neg (by rw [Hall.out]; decide)]
        have Herr := Lib.hid herr
        clear herr
        go_wp2_with fail
        refine (Hat.out (10) (i : Int) _).mono ?_
        rintro e w9 ⟨rfl, hb9⟩
        have hbe9 := ((Hbd.out _ (Hb6.out.trans (Hbj.out.mono Hb6.out.size)))).trans (hb9.mono ((Hbd.out _ (Hb6.out.trans (Hbj.out.mono Hb6.out.size)))).size)
        have hk9 := Hkf.out.ext hbe9
        obtain ⟨v0, v1, v2, v3, _⟩ := hk9.two
        have Hbe := Lib.hid (Hal.out.trans (hbe9.mono Hal.out.size)); have Hk9 := Lib.hid hk9
        clear hb9 hbe9 hk9
        go_wp2
        obtain ⟨W9, hW9⟩ : ∃ W9, (w9.setCell ⟨gf, 0, none⟩ (.int .i64 (10))).setCell ⟨gf, 1, none⟩ (.int .i64 (i : Int)) = W9 := ⟨_, rfl⟩
        have hbe := below_put2 (w := w) Hbe.out Hg.out _ _ hW9
        obtain ⟨p7, hp7⟩ := put2 Hk9.out _ _ hW9
        rw [hW9]
        obtain ⟨e2, e3, _⟩ := p7.two
        refine bodyPost_ret (v := .agg #[.int .i64 (10), .int .i64 (i : Int)]) (by simp [results, Tryz.results17, go_sem, e2, e3]) rfl ?_
        have h9 : (rx, ry) = ((10 : Int), ((i : Int) : Int)) := by rw [Hst.out, Herr.out]; rfl
        injection h9 with h91 h92
        exact ⟨by rw [h91, h92], hbe⟩
    ·have hl8 : ((Lw.length : Int) == 2) = false := beq_eq_false_iff_ne.2 (by omega)
     have Hl9 := Lib.hid hl9
     clear hl9
     have htx : Sr.textE 5 t = false := by simp [Sr.textE, ← hLw.out, Hl9.out]
     have Htx := Lib.hid htx
     clear htx
     go_wp2_with fail
     clear y0
     go_loopw [10, 11] (fun ov jv wr => ∃ j : Nat, j ≤ Lw.length ∧ jv = .int .i64 (j : Int) ∧ ov = .bool (false && (Lw.take j).all Q.wordOk) ∧ Below w6.heap.size w6 wr) (fun _ jv _ => Lw.length - (intOf jv).toNat)
     case atStart => exact ⟨0, Nat.zero_le _, rfl, rfl, Below.refl _ _⟩
     case round =>
      obtain ⟨j, hj, rfl, rfl, hbj⟩ := hrel
      obtain ⟨wj, rfl⟩ : ∃ W, W = wr := ⟨_, rfl⟩
      have hj0 : (0 : Int) ≤ (j : Int) := by omega
      by_cases hlj : j < Lw.length
      ·have hjj : (j : Int) < (Lw.length : Int) := by omega
       have hstp := all_take_step Lw hlj
       obtain ⟨ac, hac⟩ : ∃ a, (false && (Lw.take j).all Q.wordOk) = a := ⟨_, rfl⟩
       have hstp2 : (false && (Lw.take (j + 1)).all Q.wordOk) = (ac && Q.wordOk Lw[j]) := by rw [hstp, ← hac, Bool.and_assoc]
       rw [hac]
       cases ac with
       | false =>
        have Hs := Lib.hid hstp2
        clear hstp hstp2 hac
        go_wp2_with fail
        go_roundw
        case rel => exact ⟨j + 1, by omega, by go_num, by rw [Hs.out]; rfl, hbj⟩
        case measure => simp [intOf]; omega
       | true =>
        obtain ⟨b7, o7, rfl, _, _, u0, _⟩ := (rw0.ext hbj).strAt hlj
        have hxl := Hwm.out _ (List.getElem_mem hlj)
        obtain ⟨z, hz9⟩ : ∃ z, z = Lw[j] := ⟨_, rfl⟩
        rw [← hz9] at u0 hxl hstp2
        have hiw := isWord_ok z (by omega) wj (HTw.out.ext (Hnx.out _ (Hb6.out.trans (hbj.mono Hb6.out.size))))
        obtain ⟨r9, hr9⟩ : ∃ r, Q.wordOk z = r := ⟨_, rfl⟩
        rw [hr9, Bool.true_and] at hstp2
        rw [hr9] at hiw
        have Hs := Lib.hid hstp2; have Hiw := Lib.hid hiw; have Hbj := Lib.hid hbj
        clear hstp hstp2 hac hz9 hr9 hiw hbj
        go_wp2_with fail
        refine Hiw.out.mono ?_
        rintro e w7 ⟨rfl, hb7⟩
        clear u0
        go_wp2_with fail
        go_roundw
        case rel => exact ⟨j + 1, by omega, by go_num, by first | (rw [Hs.out]; done) | (rw [Hs.out]; simp; done), Hbj.out.trans (hb7.mono Hbj.out.size)⟩
        case measure => simp [intOf]; omega
      ·obtain rfl : j = Lw.length := by omega
       rw [List.take_length]
       have hall : (Sr.textE 5 t && (splitS t).all Q.wordOk) = (false && Lw.all Q.wordOk) := by rw [Htx.out, hLw.out]
       obtain ⟨fin, hfin⟩ : ∃ a, (false && Lw.all Q.wordOk) = a := ⟨_, rfl⟩
       rw [hfin] at hall ⊢
       have Hall := Lib.hid hall
       have Hbj := Lib.hid hbj
       clear hall hfin hbj
       cases fin with
       | true =>
        have herr : Sr.refE 5 t n nl = 0 := by
         have hr := Hrr.out
         unfold Sr.refE
         rw [if_neg (by omega), if_neg (by simp [cc0]; try omega)]
         rw [if_neg (by simp; omega), if_neg (by omega)]
         rw [if_pos Hall.out]
        have hnext := Hst.out
        rw [if_pos herr] at hnext
        have Hnext := Lib.hid hnext
        clear herr hnext
        go_wp2_with fail
        go_roundw
        case rel => exact ⟨i + 1, by omega, by go_num, Lib.hid Hnext.out.symm, Hnx.out _ (Hb6.out.trans (Hbj.out.mono Hb6.out.size))⟩
        case measure => simp [intOf]; omega
       | false =>
        have herr : Sr.refE 5 t n nl = 10 := by
         have hr := Hrr.out
         unfold Sr.refE
         rw [if_neg (by omega), if_neg (by simp [cc0]; try omega)]
         rw [if_neg (by simp; omega), if_neg (by omega)]
         rw [if_neg (by rw [Hall.out]; decide)]
        have Herr := Lib.hid herr
        clear herr
        go_wp2_with fail
        refine (Hat.out (10) (i : Int) _).mono ?_
        rintro e w9 ⟨rfl, hb9⟩
        have hbe9 := ((Hbd.out _ (Hb6.out.trans (Hbj.out.mono Hb6.out.size)))).trans (hb9.mono ((Hbd.out _ (Hb6.out.trans (Hbj.out.mono Hb6.out.size)))).size)
        have hk9 := Hkf.out.ext hbe9
        obtain ⟨v0, v1, v2, v3, _⟩ := hk9.two
        have Hbe := Lib.hid (Hal.out.trans (hbe9.mono Hal.out.size)); have Hk9 := Lib.hid hk9
        clear hb9 hbe9 hk9
        go_wp2
        obtain ⟨W9, hW9⟩ : ∃ W9, (w9.setCell ⟨gf, 0, none⟩ (.int .i64 (10))).setCell ⟨gf, 1, none⟩ (.int .i64 (i : Int)) = W9 := ⟨_, rfl⟩
        have hbe := below_put2 (w := w) Hbe.out Hg.out _ _ hW9
        obtain ⟨p7, hp7⟩ := put2 Hk9.out _ _ hW9
        rw [hW9]
        obtain ⟨e2, e3, _⟩ := p7.two
        refine bodyPost_ret (v := .agg #[.int .i64 (10), .int .i64 (i : Int)]) (by simp [results, Tryz.results17, go_sem, e2, e3]) rfl ?_
        have h9 : (rx, ry) = ((10 : Int), ((i : Int) : Int)) := by rw [Hst.out, Herr.out]; rfl
        injection h9 with h91 h92
        exact ⟨by rw [h91, h92], hbe⟩
   ·have hin1 := fun W => in_ok 6 1 8 W
    have hin2 := fun W => in_ok 6 2 5 W
    rw [show (decide ((1 : Int) ≤ 6) && decide ((6 : Int) ≤ 8)) = true from by decide] at hin1
    rw [show (decide ((2 : Int) ≤ 6) && decide ((6 : Int) ≤ 5)) = false from by decide] at hin2
    have Hin1 := Lib.hid hin1; have Hin2 := Lib.hid hin2
    clear hin1 hin2 h18
    go_wp2_with fail
    rw [HW5.out]
    clear s0 s1 s2 s3
    try rw [hg5]
    refine (Hin1.out _).mono ?_
    rintro e w6 ⟨rfl, rfl⟩
    clear y0 y1 y2 y3
    obtain ⟨y0, y1, y2, y3, _⟩ := Hk5.out.four
    go_wp2_with fail
    refine (Hin2.out _).mono ?_
    rintro e w6 ⟨rfl, rfl⟩
    clear Hin1 Hin2
    by_cases cc0 : nl < 2
    ·have hn : (nl : Int) < 2 := by omega
     have herr : Sr.refE 6 t n nl = 5 := by
      unfold Sr.refE
      rw [if_neg (by omega), if_pos (by simp [cc0]; try omega)]
     have Herr := Lib.hid herr
     clear herr
     go_wp2_with fail
     refine (Hat.out (5) (i : Int) _).mono ?_
     rintro e w9 ⟨rfl, hb9⟩
     have hbe9 := (Hbc.out).trans (hb9.mono (Hbc.out).size)
     have hk9 := Hkf.out.ext hbe9
     obtain ⟨v0, v1, v2, v3, _⟩ := hk9.two
     have Hbe := Lib.hid (Hal.out.trans (hbe9.mono Hal.out.size)); have Hk9 := Lib.hid hk9
     clear hb9 hbe9 hk9
     go_wp2
     obtain ⟨W9, hW9⟩ : ∃ W9, (w9.setCell ⟨gf, 0, none⟩ (.int .i64 (5))).setCell ⟨gf, 1, none⟩ (.int .i64 (i : Int)) = W9 := ⟨_, rfl⟩
     have hbe := below_put2 (w := w) Hbe.out Hg.out _ _ hW9
     obtain ⟨p7, hp7⟩ := put2 Hk9.out _ _ hW9
     rw [hW9]
     obtain ⟨e2, e3, _⟩ := p7.two
     refine bodyPost_ret (v := .agg #[.int .i64 (5), .int .i64 (i : Int)]) (by simp [results, Tryz.results17, go_sem, e2, e3]) rfl ?_
     have h9 : (rx, ry) = ((5 : Int), ((i : Int) : Int)) := by rw [Hst.out, Herr.out]; rfl
     injection h9 with h91 h92
     exact ⟨by rw [h91, h92], hbe⟩
    have hn : ¬ (nl : Int) < 2 := by omega
    by_cases cc1 : n ≠ 0
    ·have hz : (n != 0) = true := by simp; omega
     have herr : Sr.refE 6 t n nl = 5 := by
      unfold Sr.refE
      rw [if_neg (by omega), if_pos (by simp [cc1]; try omega)]
     have Herr := Lib.hid herr
     clear herr
     go_wp2_with fail
     refine (Hat.out (5) (i : Int) _).mono ?_
     rintro e w9 ⟨rfl, hb9⟩
     have hbe9 := (Hbc.out).trans (hb9.mono (Hbc.out).size)
     have hk9 := Hkf.out.ext hbe9
     obtain ⟨v0, v1, v2, v3, _⟩ := hk9.two
     have Hbe := Lib.hid (Hal.out.trans (hbe9.mono Hal.out.size)); have Hk9 := Lib.hid hk9
     clear hb9 hbe9 hk9
     go_wp2
     obtain ⟨W9, hW9⟩ : ∃ W9, (w9.setCell ⟨gf, 0, none⟩ (.int .i64 (5))).setCell ⟨gf, 1, none⟩ (.int .i64 (i : Int)) = W9 := ⟨_, rfl⟩
     have hbe := below_put2 (w := w) Hbe.out Hg.out _ _ hW9
     obtain ⟨p7, hp7⟩ := put2 Hk9.out _ _ hW9
     rw [hW9]
     obtain ⟨e2, e3, _⟩ := p7.two
     refine bodyPost_ret (v := .agg #[.int .i64 (5), .int .i64 (i : Int)]) (by simp [results, Tryz.results17, go_sem, e2, e3]) rfl ?_
     have h9 : (rx, ry) = ((5 : Int), ((i : Int) : Int)) := by rw [Hst.out, Herr.out]; rfl
     injection h9 with h91 h92
     exact ⟨by rw [h91, h92], hbe⟩
    have hz : (n != 0) = false := by simpa using cc1
    by_cases cc2 : t ≠ []
    ·have ht : (t == []) = false := by simpa using cc2
     have herr : Sr.refE 6 t n nl = 5 := by
      unfold Sr.refE
      rw [if_neg (by omega), if_pos (by simp [cc2]; try omega)]
     have Herr := Lib.hid herr
     clear herr
     go_wp2_with fail
     refine (Hat.out (5) (i : Int) _).mono ?_
     rintro e w9 ⟨rfl, hb9⟩
     have hbe9 := (Hbc.out).trans (hb9.mono (Hbc.out).size)
     have hk9 := Hkf.out.ext hbe9
     obtain ⟨v0, v1, v2, v3, _⟩ := hk9.two
     have Hbe := Lib.hid (Hal.out.trans (hbe9.mono Hal.out.size)); have Hk9 := Lib.hid hk9
     clear hb9 hbe9 hk9
     go_wp2
     obtain ⟨W9, hW9⟩ : ∃ W9, (w9.setCell ⟨gf, 0, none⟩ (.int .i64 (5))).setCell ⟨gf, 1, none⟩ (.int .i64 (i : Int)) = W9 := ⟨_, rfl⟩
     have hbe := below_put2 (w := w) Hbe.out Hg.out _ _ hW9
     obtain ⟨p7, hp7⟩ := put2 Hk9.out _ _ hW9
     rw [hW9]
     obtain ⟨e2, e3, _⟩ := p7.two
     refine bodyPost_ret (v := .agg #[.int .i64 (5), .int .i64 (i : Int)]) (by simp [results, Tryz.results17, go_sem, e2, e3]) rfl ?_
     have h9 : (rx, ry) = ((5 : Int), ((i : Int) : Int)) := by rw [Hst.out, Herr.out]; rfl
     injection h9 with h91 h92
     exact ⟨by rw [h91, h92], hbe⟩
    have ht : (t == []) = true := by simpa using cc2
    have herr : Sr.refE 6 t n nl = 0 := by
     unfold Sr.refE
     rw [if_neg (by omega), if_neg (by simp [cc0, cc1, cc2]; try omega)]
     rw [if_neg (by omega), if_pos (by omega)]
    have hnext := Hst.out
    rw [if_pos herr] at hnext
    have Hnext := Lib.hid hnext
    clear herr hnext
    go_wp2_with fail
    go_roundw
    case rel => exact ⟨i + 1, by omega, by go_num, Lib.hid Hnext.out.symm, Hnx.out _ (Below.refl _ _)⟩
    case measure => simp [intOf]; omega
   ·have hin1 := fun W => in_ok 7 1 8 W
    have hin2 := fun W => in_ok 7 2 5 W
    rw [show (decide ((1 : Int) ≤ 7) && decide ((7 : Int) ≤ 8)) = true from by decide] at hin1
    rw [show (decide ((2 : Int) ≤ 7) && decide ((7 : Int) ≤ 5)) = false from by decide] at hin2
    have Hin1 := Lib.hid hin1; have Hin2 := Lib.hid hin2
    clear hin1 hin2 h18
    go_wp2_with fail
    rw [HW5.out]
    clear s0 s1 s2 s3
    try rw [hg5]
    refine (Hin1.out _).mono ?_
    rintro e w6 ⟨rfl, rfl⟩
    clear y0 y1 y2 y3
    obtain ⟨y0, y1, y2, y3, _⟩ := Hk5.out.four
    go_wp2_with fail
    refine (Hin2.out _).mono ?_
    rintro e w6 ⟨rfl, rfl⟩
    clear Hin1 Hin2
    by_cases cc0 : nl < 2
    ·have hn : (nl : Int) < 2 := by omega
     have herr : Sr.refE 7 t n nl = 5 := by
      unfold Sr.refE
      rw [if_neg (by omega), if_pos (by simp [cc0]; try omega)]
     have Herr := Lib.hid herr
     clear herr
     go_wp2_with fail
     refine (Hat.out (5) (i : Int) _).mono ?_
     rintro e w9 ⟨rfl, hb9⟩
     have hbe9 := (Hbc.out).trans (hb9.mono (Hbc.out).size)
     have hk9 := Hkf.out.ext hbe9
     obtain ⟨v0, v1, v2, v3, _⟩ := hk9.two
     have Hbe := Lib.hid (Hal.out.trans (hbe9.mono Hal.out.size)); have Hk9 := Lib.hid hk9
     clear hb9 hbe9 hk9
     go_wp2
     obtain ⟨W9, hW9⟩ : ∃ W9, (w9.setCell ⟨gf, 0, none⟩ (.int .i64 (5))).setCell ⟨gf, 1, none⟩ (.int .i64 (i : Int)) = W9 := ⟨_, rfl⟩
     have hbe := below_put2 (w := w) Hbe.out Hg.out _ _ hW9
     obtain ⟨p7, hp7⟩ := put2 Hk9.out _ _ hW9
     rw [hW9]
     obtain ⟨e2, e3, _⟩ := p7.two
     refine bodyPost_ret (v := .agg #[.int .i64 (5), .int .i64 (i : Int)]) (by simp [results, Tryz.results17, go_sem, e2, e3]) rfl ?_
     have h9 : (rx, ry) = ((5 : Int), ((i : Int) : Int)) := by rw [Hst.out, Herr.out]; rfl
     injection h9 with h91 h92
     exact ⟨by rw [h91, h92], hbe⟩
    have hn : ¬ (nl : Int) < 2 := by omega
    by_cases cc1 : n ≠ 0
    ·have hz : (n != 0) = true := by simp; omega
     have herr : Sr.refE 7 t n nl = 5 := by
      unfold Sr.refE
      rw [if_neg (by omega), if_pos (by simp [cc1]; try omega)]
     have Herr := Lib.hid herr
     clear herr
     go_wp2_with fail
     refine (Hat.out (5) (i : Int) _).mono ?_
     rintro e w9 ⟨rfl, hb9⟩
     have hbe9 := (Hbc.out).trans (hb9.mono (Hbc.out).size)
     have hk9 := Hkf.out.ext hbe9
     obtain ⟨v0, v1, v2, v3, _⟩ := hk9.two
     have Hbe := Lib.hid (Hal.out.trans (hbe9.mono Hal.out.size)); have Hk9 := Lib.hid hk9
     clear hb9 hbe9 hk9
     go_wp2
     obtain ⟨W9, hW9⟩ : ∃ W9, (w9.setCell ⟨gf, 0, none⟩ (.int .i64 (5))).setCell ⟨gf, 1, none⟩ (.int .i64 (i : Int)) = W9 := ⟨_, rfl⟩
     have hbe := below_put2 (w := w) Hbe.out Hg.out _ _ hW9
     obtain ⟨p7, hp7⟩ := put2 Hk9.out _ _ hW9
     rw [hW9]
     obtain ⟨e2, e3, _⟩ := p7.two
     refine bodyPost_ret (v := .agg #[.int .i64 (5), .int .i64 (i : Int)]) (by simp [results, Tryz.results17, go_sem, e2, e3]) rfl ?_
     have h9 : (rx, ry) = ((5 : Int), ((i : Int) : Int)) := by rw [Hst.out, Herr.out]; rfl
     injection h9 with h91 h92
     exact ⟨by rw [h91, h92], hbe⟩
    have hz : (n != 0) = false := by simpa using cc1
    by_cases cc2 : t ≠ []
    ·have ht : (t == []) = false := by simpa using cc2
     have herr : Sr.refE 7 t n nl = 5 := by
      unfold Sr.refE
      rw [if_neg (by omega), if_pos (by simp [cc2]; try omega)]
     have Herr := Lib.hid herr
     clear herr
     go_wp2_with fail
     refine (Hat.out (5) (i : Int) _).mono ?_
     rintro e w9 ⟨rfl, hb9⟩
     have hbe9 := (Hbc.out).trans (hb9.mono (Hbc.out).size)
     have hk9 := Hkf.out.ext hbe9
     obtain ⟨v0, v1, v2, v3, _⟩ := hk9.two
     have Hbe := Lib.hid (Hal.out.trans (hbe9.mono Hal.out.size)); have Hk9 := Lib.hid hk9
     clear hb9 hbe9 hk9
     go_wp2
     obtain ⟨W9, hW9⟩ : ∃ W9, (w9.setCell ⟨gf, 0, none⟩ (.int .i64 (5))).setCell ⟨gf, 1, none⟩ (.int .i64 (i : Int)) = W9 := ⟨_, rfl⟩
     have hbe := below_put2 (w := w) Hbe.out Hg.out _ _ hW9
     obtain ⟨p7, hp7⟩ := put2 Hk9.out _ _ hW9
     rw [hW9]
     obtain ⟨e2, e3, _⟩ := p7.two
     refine bodyPost_ret (v := .agg #[.int .i64 (5), .int .i64 (i : Int)]) (by simp [results, Tryz.results17, go_sem, e2, e3]) rfl ?_
     have h9 : (rx, ry) = ((5 : Int), ((i : Int) : Int)) := by rw [Hst.out, Herr.out]; rfl
     injection h9 with h91 h92
     exact ⟨by rw [h91, h92], hbe⟩
    have ht : (t == []) = true := by simpa using cc2
    have herr : Sr.refE 7 t n nl = 0 := by
     unfold Sr.refE
     rw [if_neg (by omega), if_neg (by simp [cc0, cc1, cc2]; try omega)]
     rw [if_neg (by omega), if_pos (by omega)]
    have hnext := Hst.out
    rw [if_pos herr] at hnext
    have Hnext := Lib.hid hnext
    clear herr hnext
    go_wp2_with fail
    go_roundw
    case rel => exact ⟨i + 1, by omega, by go_num, Lib.hid Hnext.out.symm, Hnx.out _ (Below.refl _ _)⟩
    case measure => simp [intOf]; omega
   ·have hin1 := fun W => in_ok 8 1 8 W
    have hin2 := fun W => in_ok 8 2 5 W
    rw [show (decide ((1 : Int) ≤ 8) && decide ((8 : Int) ≤ 8)) = true from by decide] at hin1
    rw [show (decide ((2 : Int) ≤ 8) && decide ((8 : Int) ≤ 5)) = false from by decide] at hin2
    have Hin1 := Lib.hid hin1; have Hin2 := Lib.hid hin2
    clear hin1 hin2 h18
    go_wp2_with fail
    rw [HW5.out]
    clear s0 s1 s2 s3
    try rw [hg5]
    refine (Hin1.out _).mono ?_
    rintro e w6 ⟨rfl, rfl⟩
    clear y0 y1 y2 y3
    obtain ⟨y0, y1, y2, y3, _⟩ := Hk5.out.four
    go_wp2_with fail
    refine (Hin2.out _).mono ?_
    rintro e w6 ⟨rfl, rfl⟩
    clear Hin1 Hin2
    by_cases cc0 : nl ≠ 1
    ·have hn : ((nl : Int) != 1) = true := by simp; omega
     have herr : Sr.refE 8 t n nl = 5 := by
      unfold Sr.refE
      rw [if_neg (by omega), if_pos (by simp [cc0]; try omega)]
     have Herr := Lib.hid herr
     clear herr
     go_wp2_with fail
     refine (Hat.out (5) (i : Int) _).mono ?_
     rintro e w9 ⟨rfl, hb9⟩
     have hbe9 := (Hbc.out).trans (hb9.mono (Hbc.out).size)
     have hk9 := Hkf.out.ext hbe9
     obtain ⟨v0, v1, v2, v3, _⟩ := hk9.two
     have Hbe := Lib.hid (Hal.out.trans (hbe9.mono Hal.out.size)); have Hk9 := Lib.hid hk9
     clear hb9 hbe9 hk9
     go_wp2
     obtain ⟨W9, hW9⟩ : ∃ W9, (w9.setCell ⟨gf, 0, none⟩ (.int .i64 (5))).setCell ⟨gf, 1, none⟩ (.int .i64 (i : Int)) = W9 := ⟨_, rfl⟩
     have hbe := below_put2 (w := w) Hbe.out Hg.out _ _ hW9
     obtain ⟨p7, hp7⟩ := put2 Hk9.out _ _ hW9
     rw [hW9]
     obtain ⟨e2, e3, _⟩ := p7.two
     refine bodyPost_ret (v := .agg #[.int .i64 (5), .int .i64 (i : Int)]) (by simp [results, Tryz.results17, go_sem, e2, e3]) rfl ?_
     have h9 : (rx, ry) = ((5 : Int), ((i : Int) : Int)) := by rw [Hst.out, Herr.out]; rfl
     injection h9 with h91 h92
     exact ⟨by rw [h91, h92], hbe⟩
    have hn : ((nl : Int) != 1) = false := by simp; omega
    by_cases cc1 : n ≠ 0
    ·have hz : (n != 0) = true := by simp; omega
     have herr : Sr.refE 8 t n nl = 5 := by
      unfold Sr.refE
      rw [if_neg (by omega), if_pos (by simp [cc1]; try omega)]
     have Herr := Lib.hid herr
     clear herr
     go_wp2_with fail
     refine (Hat.out (5) (i : Int) _).mono ?_
     rintro e w9 ⟨rfl, hb9⟩
     have hbe9 := (Hbc.out).trans (hb9.mono (Hbc.out).size)
     have hk9 := Hkf.out.ext hbe9
     obtain ⟨v0, v1, v2, v3, _⟩ := hk9.two
     have Hbe := Lib.hid (Hal.out.trans (hbe9.mono Hal.out.size)); have Hk9 := Lib.hid hk9
     clear hb9 hbe9 hk9
     go_wp2
     obtain ⟨W9, hW9⟩ : ∃ W9, (w9.setCell ⟨gf, 0, none⟩ (.int .i64 (5))).setCell ⟨gf, 1, none⟩ (.int .i64 (i : Int)) = W9 := ⟨_, rfl⟩
     have hbe := below_put2 (w := w) Hbe.out Hg.out _ _ hW9
     obtain ⟨p7, hp7⟩ := put2 Hk9.out _ _ hW9
     rw [hW9]
     obtain ⟨e2, e3, _⟩ := p7.two
     refine bodyPost_ret (v := .agg #[.int .i64 (5), .int .i64 (i : Int)]) (by simp [results, Tryz.results17, go_sem, e2, e3]) rfl ?_
     have h9 : (rx, ry) = ((5 : Int), ((i : Int) : Int)) := by rw [Hst.out, Herr.out]; rfl
     injection h9 with h91 h92
     exact ⟨by rw [h91, h92], hbe⟩
    have hz : (n != 0) = false := by simpa using cc1
    by_cases cc2 : t ≠ []
    ·have ht : (t == []) = false := by simpa using cc2
     have herr : Sr.refE 8 t n nl = 5 := by
      unfold Sr.refE
      rw [if_neg (by omega), if_pos (by simp [cc2]; try omega)]
     have Herr := Lib.hid herr
     clear herr
     go_wp2_with fail
     refine (Hat.out (5) (i : Int) _).mono ?_
     rintro e w9 ⟨rfl, hb9⟩
     have hbe9 := (Hbc.out).trans (hb9.mono (Hbc.out).size)
     have hk9 := Hkf.out.ext hbe9
     obtain ⟨v0, v1, v2, v3, _⟩ := hk9.two
     have Hbe := Lib.hid (Hal.out.trans (hbe9.mono Hal.out.size)); have Hk9 := Lib.hid hk9
     clear hb9 hbe9 hk9
     go_wp2
     obtain ⟨W9, hW9⟩ : ∃ W9, (w9.setCell ⟨gf, 0, none⟩ (.int .i64 (5))).setCell ⟨gf, 1, none⟩ (.int .i64 (i : Int)) = W9 := ⟨_, rfl⟩
     have hbe := below_put2 (w := w) Hbe.out Hg.out _ _ hW9
     obtain ⟨p7, hp7⟩ := put2 Hk9.out _ _ hW9
     rw [hW9]
     obtain ⟨e2, e3, _⟩ := p7.two
     refine bodyPost_ret (v := .agg #[.int .i64 (5), .int .i64 (i : Int)]) (by simp [results, Tryz.results17, go_sem, e2, e3]) rfl ?_
     have h9 : (rx, ry) = ((5 : Int), ((i : Int) : Int)) := by rw [Hst.out, Herr.out]; rfl
     injection h9 with h91 h92
     exact ⟨by rw [h91, h92], hbe⟩
    have ht : (t == []) = true := by simpa using cc2
    have herr : Sr.refE 8 t n nl = 0 := by
     unfold Sr.refE
     rw [if_neg (by omega), if_neg (by simp [cc0, cc1, cc2]; try omega)]
     rw [if_neg (by omega), if_pos (by omega)]
    have hnext := Hst.out
    rw [if_pos herr] at hnext
    have Hnext := Lib.hid hnext
    clear herr hnext
    go_wp2_with fail
    go_roundw
    case rel => exact ⟨i + 1, by omega, by go_num, Lib.hid Hnext.out.symm, Hnx.out _ (Below.refl _ _)⟩
    case measure => simp [intOf]; omega
  ·obtain rfl : i = L.length := by omega
   have hz : (rx, ry) = (0, 0) := by rw [← hgi.out, List.drop_length]; rfl
   injection hz with hz1 hz2
   subst hz1 hz2
   have hbe := Hb3.out.trans (hbi.mono Hb3.out.size)
   obtain ⟨v0, v1, v2, v3, _⟩ := (Hkf.out.ext hbe).two
   have Hk9 := Lib.hid (Hkf.out.ext hbe); have Hbe := Lib.hid (Hal.out.trans (hbe.mono Hal.out.size))
   clear hbe
   go_wp2
   obtain ⟨W9, hW9⟩ : ∃ W9, (wi.setCell ⟨gf, 0, none⟩ (.int .i64 0)).setCell ⟨gf, 1, none⟩ (.int .i64 0) = W9 := ⟨_, rfl⟩
   have hbe := below_put2 (w := w) Hbe.out Hg.out _ _ hW9
   obtain ⟨p7, hp7⟩ := put2 Hk9.out _ _ hW9
   rw [hW9]
   obtain ⟨e2, e3, _⟩ := p7.two
   exact bodyPost_ret (v := .agg #[.int .i64 0, .int .i64 0]) (by simp [results, Tryz.results17, go_sem, e2, e3]) rfl ⟨rfl, hbe⟩
end Go.Proofs.YtnlhocbaighedaaGreatDoor

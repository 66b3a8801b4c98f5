/-
  Contracts and plain facts, one after another: The reader of queries: Parse, where something is read; The reader of queries: Parse, where a query is handed back; Parse whole.
-/
import Derived.Test.YtihhgmpanfboaaaGreatDoorK18
import Derived.Deep.RegionWith
namespace Go.Proofs.YtihhgmpanfboaaaGreatDoor
open Go.RowKit
set_option linter.unusedVariables false
theorem QAt.keepAll {f n0 : Nat} {w w' : World} {v : Value} {q : Q} (h : QAt f (fun b => b < n0) w v q) (hk : ∀ b, n0 ≤ b → b < w.heap.size → w'.heap[b]? = w.heap[b]?) (hs : w.heap.size ≤ w'.heap.size) : QAt f (fun b => b < n0) w' v q := by
  obtain ⟨A, c, e, h1, h2, h3, hv⟩ := h
  exact ⟨A, c, e, h1, h2, h3, hv.keep (fun b hlt hn => hk b (by omega) hlt) hs⟩
set_option maxRecDepth 100000 in
set_option maxHeartbeats 8000000 in
theorem parse_tail (s : Str) (hs : s.length ≤ 4000) (w : World) (hT : TabsU w) (q : Q) (u : Str) (he : Q.topS s = .ok q u) (i : Nat) (hi : s.length - u.length = i) (hu0 : u ≠ []) : Calls Tryz.prog 13 #[.string (bs s)] w (Parsed w (.node 0 [] 0 [], 11, (i : Int))) := by
  have hmf : ∀ (fn : Fn) (first cap : Array Value) (w : World), (Instr.makeFunc fn first cap).run Tryz.prog w = .ok (.func fn first cap) w := fun _ _ _ _ => rfl
  have hg : ¬ (4000 : Int) < (s.length : Int) := by omega
  obtain ⟨W, gQ, hW, hgQ, hsW, kQ, kF, hb⟩ := boxPair w #[.int .i64 0, .string ⟨#[]⟩, .int .i64 0, .slice none 0 0] 24 #[.int .i64 0, .int .i64 0] 26
  obtain ⟨W2, g, hW2, hgg, hsW2, kr, hb2⟩ := boxA W #[.string (bs s), .int .i64 0] 54
  obtain rfl : g = gQ + 1 + 1 := by omega
  have hwg : w.heap.size ≤ gQ + 1 + 1 := by have := hb.size; omega
  have hbw2 : Below w.heap.size w W2 := hb.trans (hb2.mono hb.size)
  have hrd : Rd W2 (gQ + 1 + 1) s s := ⟨by rw [Nat.sub_self]; exact kr, List.suffix_refl _⟩
  have hei := reither_ok w hT (gQ + 1 + 1) hwg s hs s.length (Q.termS (s.length + 1)) (Q.termS_short _) (rterm_ok w hT (gQ + 1 + 1) hwg s hs (s.length + 1) s.length (by omega)) s W2 hrd (Nat.le_refl _) hbw2
  have hne : gQ ≠ gQ + 1 := by omega
  have hng : gQ ≠ gQ + 1 + 1 := by omega
  have hng1 : gQ + 1 ≠ gQ + 1 + 1 := by omega
  have hQ0 : w.heap.size ≤ gQ := by omega
  have HQ := Lib.hid (Blk.ext kQ hb2); have HF := Lib.hid (Blk.ext kF hb2); have Hb := Lib.hid hbw2; have Hei := Lib.hid hei; have HT := Lib.hid hT; have HW2 := Lib.hid hW2; have Hgg := Lib.hid hgg; have HW := Lib.hid hW; have HgQ := Lib.hid hgQ
  clear kQ kF hb hsW hb2 hrd hei hT kr hbw2 hsW2 hW2 hgg hW hgQ
  go_enter_defers Tryz.func13, Tryz.ntmps13
  go_wp2_with fail
  rw [HW.out]
  try rw [HgQ.out]
  rw [HW2.out]
  have hq2 : w.heap.size ≤ W2.heap.size := Hb.out.size
  have hQW : gQ < W2.heap.size := HQ.out.lt
  have hFW : gQ + 1 < W2.heap.size := HF.out.lt
  have htc := Hei.out
  rw [show Q.eitherOf (Q.termS (s.length + 1)) s = Q.Res.ok q u from he] at htc
  refine htc.mono ?_
  clear htc Hei
  rintro e w3 ⟨fq, v, rfl, hq, hr3, hall⟩
  obtain ⟨va, vb, vc, vd, rfl, _, rfl, rfl, rfl, Ap, cp, rfl⟩ := hq.cellsOf
  obtain ⟨qk, hqk⟩ : ∃ k, q.kind = k := ⟨_, rfl⟩
  obtain ⟨qt, hqt⟩ : ∃ k, bs q.text = k := ⟨_, rfl⟩
  obtain ⟨qn, hqn⟩ : ∃ k, q.num = k := ⟨_, rfl⟩
  obtain ⟨ql, hql⟩ : ∃ k, q.parts.length = k := ⟨_, rfl⟩
  rw [hqk, hqt, hqn, hql] at hq ⊢
  obtain ⟨V4, g5, hV4, hg5, hs5, k5, hbV4⟩ := boxA w3 #[.int .i64 qk, .string qt, .int .i64 qn, .slice Ap ql cp] 24
  have hq4 := hq.ext hbV4
  have hr4 := hr3.ext hbV4
  have hall4 := hall.trans (But.of_below (gQ + 1 + 1) hbV4)
  obtain ⟨r0, r1, r2, r3, _⟩ := hr4.1.two
  rw [hi] at r1
  have hul := hr4.2.length_le
  have hg5w : W2.heap.size ≤ g5 := by have := hall.size; omega
  have Hk5 := Lib.hid k5; have Hq4 := Lib.hid hq4; have Hall4 := Lib.hid hall4
  clear hs5 k5 hbV4 hq4 hr4 hall4 hq hr3 hall hqk hqt hqn hql
  have hup := List.length_pos_iff.2 hu0
  have hlt : (i : Int) < (s.length : Int) := by omega
  go_wp2_with fail
  refine (fail_ok i V4).mono ?_
  rintro e w6 ⟨rfl, rfl⟩
  go_wp2_with fail
  have hall := Hall4.out
  have kQ := hall.blk HQ.out hng
  have kF := hall.blk HF.out hng1
  unfold thrown
  refine leaves_cons (f := 29) (fv := .func 29) (cap := #[.pointer (some ⟨gQ, 0, none⟩), .pointer (some ⟨gQ + 1, 0, none⟩)]) (dargs := #[]) (args := #[.pointer (some ⟨gQ, 0, none⟩), .pointer (some ⟨gQ + 1, 0, none⟩)]) (by simp) (inv_caught _ _ _) ?_
  refine (caught_thrown gQ (gQ + 1) (i) [] _ _ _ _ _ _ _ kQ kF hne).mono ?_
  rintro e u' w9 ⟨rfl, rfl, kQ9, kF9, hb9⟩
  have hlow : Below w.heap.size w w9 := (hall.below Hb.out hwg).trans (hb9 w.heap.size hQ0 (by omega) (hall.below Hb.out hwg).size)
  show Leaves _ _ _ _ [] .returning w9
  dsimp only
  refine read_end (gQ := gQ) (gF := gQ + 1) ?_ kQ9 kF9 (QAt.zero _ _) hlow
  clear hmf
  intro W a b c d x y h0 h1 h2 h3 h4 h5
  simp [results, Tryz.results13, go_sem, h0, h1, h2, h3, h4, h5]
set_option maxRecDepth 100000 in
set_option maxHeartbeats 8000000 in
theorem parse_bad (s : Str) (hs : s.length ≤ 4000) (w : World) (hT : TabsU w) (q : Q) (u : Str) (he : Q.topS s = .ok q u) (hu0 : u = []) (hf : (Q.fault q).1 ≠ 0) : Calls Tryz.prog 13 #[.string (bs s)] w (Parsed w (.node 0 [] 0 [], Q.fault q)) := by
  obtain ⟨i, hi⟩ : ∃ i, s.length - u.length = i := ⟨_, rfl⟩
  subst hu0
  have hmf : ∀ (fn : Fn) (first cap : Array Value) (w : World), (Instr.makeFunc fn first cap).run Tryz.prog w = .ok (.func fn first cap) w := fun _ _ _ _ => rfl
  have hg : ¬ (4000 : Int) < (s.length : Int) := by omega
  obtain ⟨W, gQ, hW, hgQ, hsW, kQ, kF, hb⟩ := boxPair w #[.int .i64 0, .string ⟨#[]⟩, .int .i64 0, .slice none 0 0] 24 #[.int .i64 0, .int .i64 0] 26
  obtain ⟨W2, g, hW2, hgg, hsW2, kr, hb2⟩ := boxA W #[.string (bs s), .int .i64 0] 54
  obtain rfl : g = gQ + 1 + 1 := by omega
  have hwg : w.heap.size ≤ gQ + 1 + 1 := by have := hb.size; omega
  have hbw2 : Below w.heap.size w W2 := hb.trans (hb2.mono hb.size)
  have hrd : Rd W2 (gQ + 1 + 1) s s := ⟨by rw [Nat.sub_self]; exact kr, List.suffix_refl _⟩
  have hei := reither_ok w hT (gQ + 1 + 1) hwg s hs s.length (Q.termS (s.length + 1)) (Q.termS_short _) (rterm_ok w hT (gQ + 1 + 1) hwg s hs (s.length + 1) s.length (by omega)) s W2 hrd (Nat.le_refl _) hbw2
  have hne : gQ ≠ gQ + 1 := by omega
  have hng : gQ ≠ gQ + 1 + 1 := by omega
  have hng1 : gQ + 1 ≠ gQ + 1 + 1 := by omega
  have hQ0 : w.heap.size ≤ gQ := by omega
  have HQ := Lib.hid (Blk.ext kQ hb2); have HF := Lib.hid (Blk.ext kF hb2); have Hb := Lib.hid hbw2; have Hei := Lib.hid hei; have HT := Lib.hid hT; have HW2 := Lib.hid hW2; have Hgg := Lib.hid hgg; have HW := Lib.hid hW; have HgQ := Lib.hid hgQ
  clear kQ kF hb hsW hb2 hrd hei hT kr hbw2 hsW2 hW2 hgg hW hgQ
  go_enter_defers Tryz.func13, Tryz.ntmps13
  go_wp2_with fail
  rw [HW.out]
  try rw [HgQ.out]
  rw [HW2.out]
  have hq2 : w.heap.size ≤ W2.heap.size := Hb.out.size
  have hQW : gQ < W2.heap.size := HQ.out.lt
  have hFW : gQ + 1 < W2.heap.size := HF.out.lt
  have htc := Hei.out
  rw [show Q.eitherOf (Q.termS (s.length + 1)) s = Q.Res.ok q [] from he] at htc
  refine htc.mono ?_
  clear htc Hei
  rintro e w3 ⟨fq, v, rfl, hq, hr3, hall⟩
  obtain ⟨va, vb, vc, vd, rfl, _, rfl, rfl, rfl, Ap, cp, rfl⟩ := hq.cellsOf
  obtain ⟨qk, hqk⟩ : ∃ k, q.kind = k := ⟨_, rfl⟩
  obtain ⟨qt, hqt⟩ : ∃ k, bs q.text = k := ⟨_, rfl⟩
  obtain ⟨qn, hqn⟩ : ∃ k, q.num = k := ⟨_, rfl⟩
  obtain ⟨ql, hql⟩ : ∃ k, q.parts.length = k := ⟨_, rfl⟩
  rw [hqk, hqt, hqn, hql] at hq ⊢
  obtain ⟨V4, g5, hV4, hg5, hs5, k5, hbV4⟩ := boxA w3 #[.int .i64 qk, .string qt, .int .i64 qn, .slice Ap ql cp] 24
  have hq4 := hq.ext hbV4
  have hr4 := hr3.ext hbV4
  have hall4 := hall.trans (But.of_below (gQ + 1 + 1) hbV4)
  obtain ⟨r0, r1, r2, r3, _⟩ := hr4.1.two
  rw [hi] at r1
  have hul := hr4.2.length_le
  have hg5w : W2.heap.size ≤ g5 := by have := hall.size; omega
  have Hk5 := Lib.hid k5; have Hq4 := Lib.hid hq4; have Hall4 := Lib.hid hall4
  clear hs5 k5 hbV4 hq4 hr4 hall4 hq hr3 hall hqk hqt hqn hql
  obtain rfl : i = s.length := by rw [← hi]; simp
  have hnlt : ¬ (s.length : Int) < (s.length : Int) := by omega
  obtain ⟨j0, j1, j2, j3, _⟩ := Hk5.out.four
  have hb04 : Below w.heap.size w V4 := Hall4.out.below Hb.out hwg
  have hva := qvalidate_ok fq q _ V4 (Hq4.out.sub (M' := M0) fun b _ h => h.elim) (by have := Q.topS_bulk he; omega) (HT.out.ext hb04)
  obtain ⟨fa, hfa⟩ : ∃ x, (Q.fault q).1 = x := ⟨_, rfl⟩
  obtain ⟨fb, hfb⟩ : ∃ x, (Q.fault q).2 = x := ⟨_, rfl⟩
  rw [hfa, hfb] at hva
  have Hva := Lib.hid hva; have Hfa := Lib.hid hfa; have Hfb := Lib.hid hfb; have Hb04 := Lib.hid hb04
  clear hva hfb hb04
  go_wp2_with fail
  refine Hva.out.mono ?_
  clear Hva hV4 hg5
  rintro e w5 ⟨rfl, hb5⟩
  obtain ⟨W6, g6, hW6, hg6, hs6, k6, hb6⟩ := boxA w5 #[.int .i64 fa, .int .i64 fb] 26
  obtain ⟨i0, i1, _⟩ := k6.two
  have hb46 := hb5.trans (hb6.mono hb5.size)
  have Hk6 := Lib.hid k6; have Hb46 := Lib.hid hb46
  have hg6w : V4.heap.size ≤ g6 := by have := hb5.size; omega
  clear hs6 k6 hb6 hb5 hb46 r0 r1 r2 r3
  go_wp2_with fail
  refine (failed_ok fa fb W6).mono ?_
  clear hW6 hg6
  rintro e w7 ⟨rfl, hb7⟩
  have hb47 := Hb46.out.trans (hb7.mono Hb46.out.size)
  have k6 := Hk6.out.ext hb7
  have k5 := Hk5.out.ext hb47
  have kQ := (Hall4.out.blk HQ.out hng).ext hb47
  have kF := (Hall4.out.blk HF.out hng1).ext hb47
  obtain ⟨i0, i1, _⟩ := k6.two
  obtain ⟨j0, j1, j2, j3, _⟩ := k5.four
  obtain ⟨z0, z1, z2, z3, hz⟩ := kQ.four
  obtain ⟨y0, y1, y2, y3, _⟩ := kF.two
  have f0 := kQ.frozen 0; have f1 := kQ.frozen 1; have f2 := kQ.frozen 2; have f3 := kQ.frozen 3
  have hq7 := Hq4.out.ext hb47
  have hb07 := Hb04.out.trans (hb47.mono Hb04.out.size)
  have hfa0 : (fa != 0) = true := by rw [← hfa]; simpa using hf
  have Hk := Lib.hid kQ; have HkF := Lib.hid kF; have Hb07 := Lib.hid hb07
  clear k5 kQ kF k6 hq7 hb47 hb7 hb07 hf hfa
  go_wp2_with fail
  go_region
  go_wp2_with fail
  have hq0w : w.heap.size ≤ gQ + 1 := by omega
  obtain ⟨V, hV, kQ9, kF9, _, _, hV5⟩ := stored Hk.out HkF.out hne (.int .i64 0) (.string ⟨#[]⟩) (.int .i64 0) (.slice none 0 0) (.int .i64 fa) (.int .i64 fb)
  have hbV : Below w.heap.size w V.drew := (hV5 w.heap.size w hQ0 hq0w Hb07.out).drew
  have hQ9 : Blk V.drew gQ 24 _ := kQ9
  have hF9 : Blk V.drew (gQ + 1) 26 _ := kF9
  have HQ9 := Lib.hid hQ9; have HF9 := Lib.hid hF9; have HbV := Lib.hid hbV
  show Leaves _ _ _ _ [_] .returning _
  rw [hV]
  refine leaves_cons (f := 29) (fv := .func 29) (cap := #[.pointer (some ⟨gQ, 0, none⟩), .pointer (some ⟨gQ + 1, 0, none⟩)]) (dargs := #[]) (args := #[.pointer (some ⟨gQ, 0, none⟩), .pointer (some ⟨gQ + 1, 0, none⟩)]) (by simp) (inv_caught _ _ _) ?_
  refine (caught_idle gQ (gQ + 1) _).mono ?_
  rintro e u' w9 ⟨rfl, rfl, hb9⟩
  show Leaves _ _ _ _ [] .returning w9
  dsimp only
  rw [show Q.fault q = (fa, fb) from by rw [← Hfa.out, ← Hfb.out]]
  refine read_end (gQ := gQ) (gF := gQ + 1) ?_ (HQ9.out.ext hb9) (HF9.out.ext hb9) (QAt.zero _ _) (HbV.out.trans (hb9.mono HbV.out.size))
  clear hmf
  intro W a b c d x y h0 h1 h2 h3 h4 h5
  simp [results, Tryz.results13, go_sem, h0, h1, h2, h3, h4, h5]
end Go.Proofs.YtihhgmpanfboaaaGreatDoor
namespace Go.Proofs.YtihhgmpanfboaaaGreatDoor
open Go.RowKit
set_option linter.unusedVariables false
set_option maxRecDepth 100000 in
set_option maxHeartbeats 8000000 in
theorem parse_good (s : Str) (hs : s.length ≤ 4000) (w : World) (hT : TabsU w) (q : Q) (u : Str) (he : Q.topS s = .ok q u) (hu0 : u = []) (hf : (Q.fault q).1 = 0) : Calls Tryz.prog 13 #[.string (bs s)] w (Parsed w (q, 0, 0)) := by
  obtain ⟨i, hi⟩ : ∃ i, s.length - u.length = i := ⟨_, rfl⟩
  subst hu0
  have hmf : ∀ (fn : Fn) (first cap : Array Value) (w : World), (Instr.makeFunc fn first cap).run Tryz.prog w = .ok (.func fn first cap) w := fun _ _ _ _ => rfl
  have hg : ¬ (4000 : Int) < (s.length : Int) := by omega
  obtain ⟨W, gQ, hW, hgQ, hsW, kQ, kF, hb⟩ := boxPair w #[.int .i64 0, .string ⟨#[]⟩, .int .i64 0, .slice none 0 0] 24 #[.int .i64 0, .int .i64 0] 26
  obtain ⟨W2, g, hW2, hgg, hsW2, kr, hb2⟩ := boxA W #[.string (bs s), .int .i64 0] 54
  obtain rfl : g = gQ + 1 + 1 := by omega
  have hwg : w.heap.size ≤ gQ + 1 + 1 := by have := hb.size; omega
  have hbw2 : Below w.heap.size w W2 := hb.trans (hb2.mono hb.size)
  have hrd : Rd W2 (gQ + 1 + 1) s s := ⟨by rw [Nat.sub_self]; exact kr, List.suffix_refl _⟩
  have hei := reither_ok w hT (gQ + 1 + 1) hwg s hs s.length (Q.termS (s.length + 1)) (Q.termS_short _) (rterm_ok w hT (gQ + 1 + 1) hwg s hs (s.length + 1) s.length (by omega)) s W2 hrd (Nat.le_refl _) hbw2
  have hne : gQ ≠ gQ + 1 := by omega
  have hng : gQ ≠ gQ + 1 + 1 := by omega
  have hng1 : gQ + 1 ≠ gQ + 1 + 1 := by omega
  have hQ0 : w.heap.size ≤ gQ := by omega
  have HQ := Lib.hid (Blk.ext kQ hb2); have HF := Lib.hid (Blk.ext kF hb2); have Hb := Lib.hid hbw2; have Hei := Lib.hid hei; have HT := Lib.hid hT; have HW2 := Lib.hid hW2; have Hgg := Lib.hid hgg; have HW := Lib.hid hW; have HgQ := Lib.hid hgQ
  clear kQ kF hb hsW hb2 hrd hei hT kr hbw2 hsW2 hW2 hgg hW hgQ
  go_enter_defers Tryz.func13, Tryz.ntmps13
  go_wp2_with fail
  rw [HW.out]
  try rw [HgQ.out]
  rw [HW2.out]
  have hq2 : w.heap.size ≤ W2.heap.size := Hb.out.size
  have hQW : gQ < W2.heap.size := HQ.out.lt
  have hFW : gQ + 1 < W2.heap.size := HF.out.lt
  have htc := Hei.out
  rw [show Q.eitherOf (Q.termS (s.length + 1)) s = Q.Res.ok q [] from he] at htc
  refine htc.mono ?_
  clear htc Hei
  rintro e w3 ⟨fq, v, rfl, hq, hr3, hall⟩
  obtain ⟨va, vb, vc, vd, rfl, _, rfl, rfl, rfl, Ap, cp, rfl⟩ := hq.cellsOf
  obtain ⟨qk, hqk⟩ : ∃ k, q.kind = k := ⟨_, rfl⟩
  obtain ⟨qt, hqt⟩ : ∃ k, bs q.text = k := ⟨_, rfl⟩
  obtain ⟨qn, hqn⟩ : ∃ k, q.num = k := ⟨_, rfl⟩
  obtain ⟨ql, hql⟩ : ∃ k, q.parts.length = k := ⟨_, rfl⟩
  rw [hqk, hqt, hqn, hql] at hq ⊢
  obtain ⟨V4, g5, hV4, hg5, hs5, k5, hbV4⟩ := boxA w3 #[.int .i64 qk, .string qt, .int .i64 qn, .slice Ap ql cp] 24
  have hq4 := hq.ext hbV4
  have hr4 := hr3.ext hbV4
  have hall4 := hall.trans (But.of_below (gQ + 1 + 1) hbV4)
  obtain ⟨r0, r1, r2, r3, _⟩ := hr4.1.two
  rw [hi] at r1
  have hul := hr4.2.length_le
  have hg5w : W2.heap.size ≤ g5 := by have := hall.size; omega
  have Hk5 := Lib.hid k5; have Hq4 := Lib.hid hq4; have Hall4 := Lib.hid hall4
  clear hs5 k5 hbV4 hq4 hr4 hall4 hq hr3 hall hqk hqt hqn hql
  obtain rfl : i = s.length := by rw [← hi]; simp
  have hnlt : ¬ (s.length : Int) < (s.length : Int) := by omega
  obtain ⟨j0, j1, j2, j3, _⟩ := Hk5.out.four
  have hb04 : Below w.heap.size w V4 := Hall4.out.below Hb.out hwg
  have hva := qvalidate_ok fq q _ V4 (Hq4.out.sub (M' := M0) fun b _ h => h.elim) (by have := Q.topS_bulk he; omega) (HT.out.ext hb04)
  obtain ⟨fa, hfa⟩ : ∃ x, (Q.fault q).1 = x := ⟨_, rfl⟩
  obtain ⟨fb, hfb⟩ : ∃ x, (Q.fault q).2 = x := ⟨_, rfl⟩
  rw [hfa, hfb] at hva
  have Hva := Lib.hid hva; have Hfa := Lib.hid hfa; have Hfb := Lib.hid hfb; have Hb04 := Lib.hid hb04
  clear hva hfb hb04
  go_wp2_with fail
  refine Hva.out.mono ?_
  clear Hva hV4 hg5
  rintro e w5 ⟨rfl, hb5⟩
  obtain ⟨W6, g6, hW6, hg6, hs6, k6, hb6⟩ := boxA w5 #[.int .i64 fa, .int .i64 fb] 26
  obtain ⟨i0, i1, _⟩ := k6.two
  have hb46 := hb5.trans (hb6.mono hb5.size)
  have Hk6 := Lib.hid k6; have Hb46 := Lib.hid hb46
  have hg6w : V4.heap.size ≤ g6 := by have := hb5.size; omega
  clear hs6 k6 hb6 hb5 hb46 r0 r1 r2 r3
  go_wp2_with fail
  refine (failed_ok fa fb W6).mono ?_
  clear hW6 hg6
  rintro e w7 ⟨rfl, hb7⟩
  have hb47 := Hb46.out.trans (hb7.mono Hb46.out.size)
  have k6 := Hk6.out.ext hb7
  have k5 := Hk5.out.ext hb47
  have kQ := (Hall4.out.blk HQ.out hng).ext hb47
  have kF := (Hall4.out.blk HF.out hng1).ext hb47
  obtain ⟨i0, i1, _⟩ := k6.two
  obtain ⟨j0, j1, j2, j3, _⟩ := k5.four
  obtain ⟨z0, z1, z2, z3, hz⟩ := kQ.four
  obtain ⟨y0, y1, y2, y3, _⟩ := kF.two
  have f0 := kQ.frozen 0; have f1 := kQ.frozen 1; have f2 := kQ.frozen 2; have f3 := kQ.frozen 3
  have hq7 := Hq4.out.ext hb47
  have hb07 := Hb04.out.trans (hb47.mono Hb04.out.size)
  have hfa0 : (fa != 0) = false := by rw [← hfa, hf]; rfl
  have Hk := Lib.hid kQ; have HkF := Lib.hid kF; have Hb07 := Lib.hid hb07; have Hq7 := Lib.hid hq7; have Hk7 := Lib.hid k5
  have hS0 : (w7.drewN 1).cell? ⟨g5, 0, none⟩ = some (.int .i64 qk) ∧ (w7.drewN 1).cell? ⟨g5, 1, none⟩ = some (.string qt) ∧ (w7.drewN 1).cell? ⟨g5, 2, none⟩ = some (.int .i64 qn) ∧ (w7.drewN 1).cell? ⟨g5, 3, none⟩ = some (.slice Ap ql cp) := (k5.drewN 1).cells4
  have hg5Q : g5 ≠ gQ := by omega
  have hg5F : g5 ≠ gQ + 1 := by omega
  have hsz7 : V4.heap.size ≤ w7.heap.size := hb47.size
  clear k5 kQ kF k6 hq7 hb47 hb7 hb07 hf hfa i0 i1 z0 z1 z2 z3 hz y0 y1 y2 y3 f0 f1 f2 f3
  go_wp2_with fail
  obtain ⟨j0, j1, j2, j3, _⟩ := Hk7.out.four
  go_region_with (go_at_call 19; refine (none_ok _).mono ?_; rintro e w8 ⟨rfl, hb8⟩; have kQ8 := (Hk.out.drewN 1).ext hb8; have kF8 := (HkF.out.drewN 1).ext hb8; have k58 := (Hk7.out.drewN 1).ext hb8; obtain ⟨z0, z1, z2, z3, hz⟩ := kQ8.four; obtain ⟨y0, y1, y2, y3, _⟩ := kF8.two; have f0 := kQ8.frozen 0; have f1 := kQ8.frozen 1; have f2 := kQ8.frozen 2; have f3 := kQ8.frozen 3; obtain ⟨j0, j1, j2, j3, _⟩ := k58.four)
  all_goals
    have hq0w : w.heap.size ≤ gQ + 1 := by omega
    have hb78 : Below w7.heap.size w7 w8 := (Below.refl w7.heap.size w7).drew.trans hb8
    have hb08 : Below w.heap.size w w8 := Hb07.out.trans (hb78.mono Hb07.out.size)
    obtain ⟨V, hV, kQ9, kF9, hkp, hsz, hV5⟩ := stored kQ8 kF8 hne (.int .i64 qk) (.string qt) (.int .i64 qn) (.slice Ap ql cp) (.int .i64 0) (.int .i64 0)
    have hbV := hV5 w.heap.size w hQ0 hq0w hb08
    have hq8 := Hq7.out.ext hb78
    have hq9 := hq8.keepAll (w' := V) (fun b hb1 hb2 => hkp b (by omega) (by omega)) hsz
    have HQ9 := Lib.hid kQ9; have HF9 := Lib.hid kF9; have HbV := Lib.hid hbV; have Hq9 := Lib.hid hq9; have HV := Lib.hid hV
    clear kQ9 kF9 hbV hq9 hq8 hb08 hb78 hkp hsz hV5 hV hb8
    go_wp2_with fail
    show Leaves _ _ _ _ [_] .returning _
    rw [HV.out]
    refine leaves_cons (f := 29) (fv := .func 29) (cap := #[.pointer (some ⟨gQ, 0, none⟩), .pointer (some ⟨gQ + 1, 0, none⟩)]) (dargs := #[]) (args := #[.pointer (some ⟨gQ, 0, none⟩), .pointer (some ⟨gQ + 1, 0, none⟩)]) (by simp) (inv_caught _ _ _) ?_
    refine (caught_idle gQ (gQ + 1) _).mono ?_
    rintro e u' w9 ⟨rfl, rfl, hb9⟩
    show Leaves _ _ _ _ [] .returning w9
    dsimp only
    refine read_end (gQ := gQ) (gF := gQ + 1) ?_ (HQ9.out.ext hb9) (HF9.out.ext hb9) ((Hq9.out.ext hb9).sub fun b _ (h : b < w.heap.size) => (by omega : b < W2.heap.size)) (HbV.out.trans (hb9.mono HbV.out.size))
    clear hmf
    intro W a b c d x y h0 h1 h2 h3 h4 h5
    simp [results, Tryz.results13, go_sem, h0, h1, h2, h3, h4, h5]
theorem parse_ok (s : Str) (hm : s.length ≤ maxLen) (w : World) (hT : TabsU w) : Calls Tryz.prog 13 #[.string (bs s)] w (Parsed w (Q.parseF s)) := by
  rw [Q.parseF_eq]
  by_cases h : 4000 < s.length
  · rw [if_pos h]
    exact parse_long s h hm w
  rw [if_neg h]
  have hs : s.length ≤ 4000 := by omega
  cases ht : Q.topS s with
  | err u =>
    have hle := parse_err s hs w hT u ht
    have hul := Q.topS_err ht
    dsimp only
    rw [show (s.length : Int) - (u.length : Int) = ((s.length - u.length : Nat) : Int) by omega]
    exact hle
  | ok q u =>
    have hul := Q.topS_len ht
    dsimp only
    by_cases hu : u = []
    · rw [if_pos hu]
      subst hu
      by_cases hf : (Q.fault q).1 = 0
      · rw [if_neg (by simpa using hf)]
        exact parse_good s hs w hT q [] ht rfl hf
      · rw [if_pos hf]
        exact parse_bad s hs w hT q [] ht rfl hf
    · rw [if_neg hu]
      rw [show (s.length : Int) - (u.length : Int) = ((s.length - u.length : Nat) : Int) by omega]
      exact parse_tail s hs w hT q u ht _ rfl hu
end Go.Proofs.YtihhgmpanfboaaaGreatDoor

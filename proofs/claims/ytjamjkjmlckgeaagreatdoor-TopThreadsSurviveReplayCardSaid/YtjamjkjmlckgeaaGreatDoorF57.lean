/-
  threads.Order.
-/
import Derived.Test.YtjamjkjmlckgeaaGreatDoorF34
namespace Go.Proofs.YtjamjkjmlckgeaaGreatDoor
open Go.RowKit
set_option linter.unusedVariables false
theorem pair_enc (xs : List (Nat × Int)) (k : Nat) (hk : k < xs.length) : (xs.take (k + 1)).map (fun x => (x.1 : Int)) = (xs.take k).map (fun x => (x.1 : Int)) ++ [(xs[k].1 : Int)] ∧ (xs.take (k + 1)).map (fun x => x.2) = (xs.take k).map (fun x => x.2) ++ [xs[k].2] := by
  rw [List.take_succ_eq_append_getElem hk, List.map_append, List.map_append]
  exact ⟨rfl, rfl⟩
set_option maxRecDepth 100000 in
set_option maxHeartbeats 4000000 in
theorem torder_good (A : Option Addr) (c : Nat) (l : List Letter) (w : World) (h : SlR letterC M0 w (.slice A l.length c) l) (hd : Distinct l) (h0 : (Th.lettersF l).1 = 0) (hxs : (Th.shownA l (-1) 0).length ≤ 1000000) (hdx : ∀ x ∈ Th.shownA l (-1) 0, x.1 < 1000000 ∧ 0 ≤ x.2 ∧ x.2 < 1000000) : Calls Tryz.prog 16 #[.slice A l.length c] w fun e w' => ∃ A1 c1 L1 A2 c2 L2,
    e = .returned (.tuple #[.slice A1 (L1 : List Int).length c1, .slice A2 (L2 : List Int).length c2, .agg #[.int .i64 0, .int .i64 0]]) ∧ Hid (L1 = (Th.shownA l (-1) 0).map fun x => (x.1 : Int)) ∧ Hid (L2 = (Th.shownA l (-1) 0).map fun x => x.2) ∧
    SlR intC M0 w' (.slice A1 L1.length c1) L1 ∧ SlR intC M0 w' (.slice A2 L2.length c2) L2 ∧ Below w.heap.size w w' := by
  have hn := short_of h0
  have hL := fun w' (hb : Below w.heap.size w w') => tvalidate_ok _ l w' (h.ext hb)
  obtain ⟨g2, hg2⟩ : ∃ g2, (Th.lettersF l).2 = g2 := ⟨_, rfl⟩
  rw [h0, hg2] at hL
  have HL := Lib.hid hL
  have Hxs := Lib.hid hxs
  have Hdx := Lib.hid hdx
  clear hL hxs hdx h0 hg2
  obtain ⟨w0, hw0⟩ : ∃ w0, ((w.alloc (.cells #[.slice none 0 0] 54)).alloc (.cells #[.slice none 0 0] 54)).alloc (.cells #[.int .i64 0, .int .i64 0] 31) = w0 := ⟨_, rfl⟩
  have hs0 : w0.heap.size = w.heap.size + 3 := by rw [← hw0]; simp
  have hb0 : Below w.heap.size w w0 := by
    rw [← hw0]
    exact (((Below.refl _ w).alloc (Nat.le_refl _) _).alloc (by simp) _).alloc (by simp; omega) _
  have k2 : Blk w0 w.heap.size 54 #[.slice none 0 0] := hw0 ▸ ((Blk.new w _ _).alloc _).alloc _
  have k3 : Blk w0 (w.heap.size + 1) 54 #[.slice none 0 0] := hw0 ▸ (by have := (Blk.new (w.alloc (.cells #[.slice none 0 0] 54)) 54 #[.slice none 0 0]).alloc (.cells #[.int .i64 0, .int .i64 0] 31); simpa using this)
  have k4 : Blk w0 (w.heap.size + 2) 31 #[.int .i64 0, .int .i64 0] := hw0 ▸ (by have := Blk.new ((w.alloc (.cells #[.slice none 0 0] 54)).alloc (.cells #[.slice none 0 0] 54)) 31 #[.int .i64 0, .int .i64 0]; simpa using this)
  have HW0 := Lib.hid hw0
  clear hw0
  refine calls_of_wp_marks Tryz.func16 rfl ?_
  simp only [Tryz.ntmps16, List.size_toArray, List.length_cons, List.length_nil, Nat.reduceAdd, Nat.reduceSub, Array.replicate_succ, Array.replicate_zero, List.push_toArray, List.append_toArray, List.nil_append, List.cons_append]
  go_wp2_with fail
  rw [HW0.out]
  refine (HL.out _ hb0).mono ?_
  rintro e w1 ⟨rfl, hb1⟩
  obtain ⟨r4, hr4⟩ : ∃ r, w.heap.size + 1 + 1 = r := ⟨_, rfl⟩
  rw [hr4]
  rw [show w.heap.size + 2 = r4 from hr4] at k4
  obtain ⟨r3, hr3⟩ : ∃ r, w.heap.size + 1 = r := ⟨_, rfl⟩
  rw [hr3] at k3 ⊢
  obtain ⟨r2, hr2⟩ : ∃ r, w.heap.size = r := ⟨_, rfl⟩
  rw [hr2] at k2 ⊢
  have k2 := k2.ext hb1
  have k3 := k3.ext hb1
  have k4 := k4.ext hb1
  have b1 := hb0.trans (hb1.mono hb0.size)
  have hs1 := hb1.size
  have Hr : Hid (r2 = w.heap.size ∧ r3 = r2 + 1 ∧ r4 = r2 + 2 ∧ r2 + 3 ≤ w1.heap.size) := Lib.hid (by omega)
  clear hb0 hb1 hs0 hs1 hr2 hr3 hr4 HW0 HL
  have hb1 : Below w.heap.size w w1 := b1
  clear b1
  go_wp2_with fail
  refine (failed_ok _ _ _).mono ?_
  rintro e w2 ⟨rfl, hb2⟩
  have k2 := (k2.alloc _).ext hb2
  have k3 := (k3.alloc _).ext hb2
  have k4 := (k4.alloc _).ext hb2
  have b2 := (hb1.alloc hb1.size _).trans (hb2.mono (hb1.alloc hb1.size _).size)
  have hz2 : w1.heap.size ≤ w2.heap.size := by have := hb2.size; rw [World.size_alloc] at this; omega
  clear hb1 hb2
  go_wp2_with fail
  refine (shown_ok A l.length c w2).mono ?_
  rintro e w3 ⟨rfl, hw3⟩
  have hal := (Below.refl w2.heap.size w2).alloc (Nat.le_refl _) (.cells #[.slice A l.length c] 57)
  have kB := Blk.new w2 57 #[.slice A l.length c]
  rw [← hw3] at hal kB
  have k2 := k2.ext hal
  have k3 := k3.ext hal
  have k4 := k4.ext hal
  have b3 := b2.trans (hal.mono b2.size)
  have hz3 : w3.heap.size = w2.heap.size + 1 := by rw [hw3]; simp
  clear hal b2 hw3
  obtain ⟨B, hB⟩ : ∃ B, w2.heap.size = B := ⟨_, rfl⟩
  rw [hB] at kB hz3 ⊢
  have HrB : Hid (r2 = w.heap.size ∧ r3 = r2 + 1 ∧ r4 = r2 + 2 ∧ r2 + 3 ≤ B ∧ w3.heap.size = B + 1) := Lib.hid (by have := Hr.out; omega)
  clear Hr hz2 hB hz3
  go_wp2
  refine wp_rangeFunc_iter (shown_iter l hd (by omega) B A c) rfl (enters_of Tryz.func73 (by kernel_rfl) rfl) (fun _ => rfl)
    (fun k S W => S r2 ∧ S r3 ∧ (∀ b, S b → b = r2 ∨ b = r3 ∨ B + 1 ≤ b) ∧ Below w.heap.size w W ∧ Blk W r4 31 #[.int .i64 0, .int .i64 0] ∧ ∃ A1 c1 L1 A2 c2 L2,
      Hid (L1 = ((Th.shownA l (-1) 0).take k).map fun x => (x.1 : Int)) ∧ Hid (L2 = ((Th.shownA l (-1) 0).take k).map fun x => x.2) ∧ Blk W r2 54 #[.slice A1 L1.length c1] ∧ Blk W r3 54 #[.slice A2 L2.length c2] ∧
      Own intC M0 W (B + 1) 3 (.slice A1 L1.length c1) L1 ∧ Own intC M0 W (B + 1) 3 (.slice A2 L2.length c2) L2 ∧
      (∀ b, (Value.slice A1 L1.length c1).ownBlock = some b → S b) ∧ (∀ b, (Value.slice A2 L2.length c2).ownBlock = some b → S b) ∧ (∀ b, (Value.slice A1 L1.length c1).ownBlock = some b → (Value.slice A2 L2.length c2).ownBlock ≠ some b))
    (fun _ _ _ _ => False) (fun b => b = r2 ∨ b = r3) ?_ ?_ ?_ (fun _ _ _ _ _ h _ => h)
    ⟨.inl rfl, .inr rfl, fun b hb => hb.elim .inl fun h => .inr (.inl h), b3, k4, none, 0, [], none, 0, [], Lib.hid rfl, Lib.hid rfl, k2, k3, Own.nil _ _ _ _ _, Own.nil _ _ _ _ _, (fun b hb => by cases hb), (fun b hb => by cases hb), (fun b hb => by cases hb)⟩
    ?_ ?_ ?_ ?_ ?_
  · have := HrB.out
    rintro b (e | e) <;> omega
  · intro S' W hS' hbW
    refine ⟨kB.ext hbW, fun hb => ?_, ((((h.toMB).ofMB).sub (M' := fun b => w.heap.size ≤ b) fun b hb hor => by omega).ext b3).ext hbW |>.sub fun b _ hSb => ?_⟩
    · have := HrB.out
      rcases hS' _ hb with (e | e) | e <;> omega
    · have := HrB.out
      rcases hS' _ hSb with (e | e) | e <;> omega
  · rintro k S W W' ⟨h1, h2, h3, h4, h5, A1, c1, L1, A2, c2, L2, hL1, hL2, q1, q2, o1, o2, p1, p2, pa⟩ hkept
    have hq := HrB.out
    refine ⟨h1, h2, h3, hkept.below (by omega) h4 h4.size, h5.keep (hkept.same _ h5.lt (.inl (by omega))), A1, c1, L1, A2, c2, L2, hL1, hL2, q1.keep (hkept.same _ q1.lt (.inr h1)), q2.keep (hkept.same _ q2.lt (.inr h2)),
      o1.flatI (fun b hb => hkept.same b (o1.lt b hb) (.inr (p1 b hb))), o2.flatI (fun b hb => hkept.same b (o2.lt b hb) (.inr (p2 b hb))), p1, p2, pa⟩
  · exact fun x => { tmps := #[.slice A l.length c, undef, .pointer (some ⟨r2, 0, none⟩), .pointer (some ⟨r3, 0, none⟩), .pointer (some ⟨r4, 0, none⟩), .pointer (some ⟨w1.heap.size, 0, none⟩), .int .i64 (x.1 : Int), .int .i64 x.2, .slice A l.length c,
      .agg #[.int .i64 0, .int .i64 g2], .agg #[.int .i64 0, .int .i64 g2], .bool false, undef, .slice A l.length c, .func (.func 73) #[] #[.pointer (some ⟨B, 0, none⟩)], .int .i64 (x.1 : Int), .int .i64 x.2, undef, undef, undef, undef, undef, undef, undef, undef, undef, undef, undef], defers := [] }
  · intro l' x W K hK
    simp only [encP]
    gi_wp2_with (rw [Oper.semAt_eq _ _ _ (fun c h => by cases h)]; go_simp)
    exact hK
  · rintro l' k hk S W ⟨h1, h2, h3, h4, h5, A1, c1, L1, A2, c2, L2, hL1, hL2, q1, q2, o1, o2, p1, p2, pa⟩ hlt hsz
    obtain ⟨x, hx⟩ : ∃ x, x = (Th.shownA l (-1) 0)[k] := ⟨_, rfl⟩
    rw [← hx]
    have Hx := Lib.hid hx
    clear hx
    obtain ⟨e1, z1, s1⟩ := q1.one
    obtain ⟨e2, z2, s2⟩ := q2.one
    have hxd := Hdx.out x (by rw [Hx.out]; exact List.getElem_mem hk)
    have hkl := Hxs.out
    have hc1 : Hid (L1.length ≤ 1000000) := Lib.hid (by rw [hL1.out, List.length_map, List.length_take]; omega)
    have hc2 : Hid (L2.length ≤ 1000000) := Lib.hid (by rw [hL2.out, List.length_map, List.length_take]; omega)
    have HBW : Hid (B + 1 ≤ W.heap.size) := Lib.hid (by have := HrB.out; omega)
    have hb0 := below_drewN' W.heap.size W 1
    have os : OS ⟨S, W, w, r2, r3, r4, B⟩ (.slice A1 L1.length c1) (.slice A2 L2.length c2) (.slice A1 L1.length c1) (.slice A2 L2.length c2) L1 L2 (W.drewN 1) :=
      { q1 := q1.ext hb0, q2 := q2.ext hb0, q4 := h5.ext hb0, o1 := o1.ext hb0, o2 := o2.ext hb0, p1 := fun b hb => .inl (p1 b hb), p2 := fun b hb => .inl (p2 b hb), pa := pa, os := rfl, tape := rfl, output := rfl, size := hb0.size, same := fun b hb _ => hb0.block b hb, bw := h4.trans (hb0.mono h4.size), rr := by have := HrB.out; dsimp only; omega, s2 := h1, s3 := h2 }
    have done9 : ∀ (V : World) {A1' A2' : Option Addr} {c1' c2' : Nat} {L1' L2' : List Int} (hL1' : Hid (L1' = L1 ++ [(x.1 : Int)])) (hL2' : Hid (L2' = L2 ++ [x.2])), OS ⟨S, W, w, r2, r3, r4, B⟩ (.slice A1' L1'.length c1') (.slice A2' L2'.length c2') (.slice A1' L1'.length c1') (.slice A2' L2'.length c2') L1' L2' V → ∃ S', Chg S S' W V ∧ S' r2 ∧ S' r3 ∧ (∀ b, S' b → b = r2 ∨ b = r3 ∨ B + 1 ≤ b) ∧ Below w.heap.size w V ∧ Blk V r4 31 #[.int .i64 0, .int .i64 0] ∧ ∃ A1 c1 L1 A2 c2 L2,
      Hid (L1 = ((Th.shownA l (-1) 0).take (k + 1)).map fun x => (x.1 : Int)) ∧ Hid (L2 = ((Th.shownA l (-1) 0).take (k + 1)).map fun x => x.2) ∧ Blk V r2 54 #[.slice A1 L1.length c1] ∧ Blk V r3 54 #[.slice A2 L2.length c2] ∧
      Own intC M0 V (B + 1) 3 (.slice A1 L1.length c1) L1 ∧ Own intC M0 V (B + 1) 3 (.slice A2 L2.length c2) L2 ∧
      (∀ b, (Value.slice A1 L1.length c1).ownBlock = some b → S' b) ∧ (∀ b, (Value.slice A2 L2.length c2).ownBlock = some b → S' b) ∧ (∀ b, (Value.slice A1 L1.length c1).ownBlock = some b → (Value.slice A2 L2.length c2).ownBlock ≠ some b) := by
      intro V A1' A2' c1' c2' L1' L2' hL1' hL2' os
      obtain ⟨e1, e2⟩ := pair_enc _ k hk
      exact ⟨_, os.chg hlt, .inl h1, .inl h2, fun b hb => hb.elim (h3 b) (fun h => .inr (.inr (Nat.le_trans HBW.out h.1))), os.bw, os.q4, A1', c1', L1', A2', c2', L2', Lib.hid (by rw [hL1'.out, hL1.out, e1, ← Hx.out]), Lib.hid (by rw [hL2'.out, hL2.out, e2, ← Hx.out]), os.q1, os.q2, os.o1, os.o2, os.p1', os.p2', os.pa⟩
    have Done9 := Lib.hid @done9
    clear hb0 h5 o1 o2 h4 e1 z1 s1 e2 z2 s2 q1 q2 done9 pa h3
    gi_wp2_with (rw [Oper.semAt_eq _ _ _ (fun c h => by cases h)]; go_simp)
    have hS := os.S
    refine wpIn_region_D_round (fun W' => W'.cell? ⟨r2, 0, none⟩ = some (.slice A1 L1.length c1) ∧ W'.cell? ⟨r3, 0, none⟩ = some (.slice A2 L2.length c2)) (fun j => j == 6 || j == 7 || j == 8 || j == 9) (by kernel_rfl) (by kernel_rfl) (fun hh => by obtain ⟨_, _, hh⟩ := hh; exact hh) ?_
    change anyD _ _ _ _ _ _ _ _ _ (W.drewN 1)
    obtain ⟨V0, hV0⟩ : ∃ V0, W.drewN 1 = V0 := ⟨_, rfl⟩
    rw [hV0] at os hS ⊢
    clear hV0
    refine anyD_light (i := 5) (v := .int .i64 x.2) rfl (by kernel_rfl) (by kernel_rfl) (by kernel_rfl) (by kernel_rfl) (by kernel_rfl) (fun _ _ _ h => h) (.inl ⟨rfl, fun W' hW' => by simp [go_sem, execOp]⟩) hS ?_
    refine anyD_mono (D' := fun j => j == 7 || j == 8 || j == 9) (fun i h => by revert h; cases (i == 6) <;> simp) _ _ _ _ ?_
    refine anyD_light (i := 4) (v := .slice A2 L2.length c2) rfl (by kernel_rfl) (by kernel_rfl) (by kernel_rfl) (by kernel_rfl) (by kernel_rfl) (fun _ _ _ h => h) (.inl ⟨rfl, fun W' hW' => by simp [go_sem, hW'.2, execOp]⟩) hS ?_
    refine anyD_mono (D' := fun j => j == 8 || j == 9) (fun i h => by revert h; cases (i == 7) <;> simp) _ _ _ _ ?_
    refine anyD_light (i := 0) (v := .slice A1 L1.length c1) rfl (by kernel_rfl) (by kernel_rfl) (by kernel_rfl) (by kernel_rfl) (by kernel_rfl) (fun _ _ _ h => h) (.inl ⟨rfl, fun W' hW' => by simp [go_sem, hW'.1, execOp]⟩) hS ?_
    refine anyD_light (i := 1) (v := .int .i64 (x.1 : Int)) rfl (by kernel_rfl) (by kernel_rfl) (by kernel_rfl) (by kernel_rfl) (by kernel_rfl) (fun _ _ _ h => h) (.inl ⟨rfl, fun W' hW' => by simp [go_sem, execOp]⟩) hS ?_
    refine anyD_two (i := 2) (j := 6) (by kernel_rfl) rfl rfl rfl rfl (fun K hK => ?_) (fun K hK => ?_)
    · have HK := Lib.hid hK
      clear hK
      unfold Oper.wp
      go_simp
      obtain ⟨V1, hV'⟩ : ∃ V1, V0.alloc (.cells #[.int .i64 (x.1 : Int)] 3) = V1 := ⟨_, rfl⟩
      have hal : Below V0.heap.size V0 V1 := by rw [← hV']; exact (Below.refl _ _).alloc (Nat.le_refl _) _
      have X1 : SlR intC (fun b => b < W.heap.size) V1 (.slice (some ⟨V0.heap.size, 0, none⟩) 1 1) [(x.1 : Int)] := by rw [← hV']; exact SlR.built (C := intC) (cs := [.int .i64 (x.1 : Int)]) _ ⟨rfl, by omega, by omega⟩ (fun b hb => Nat.lt_of_lt_of_le hb os.size)
      have os := os.ext hal
      rw [hV']
      clear hV' hal
      refine HK.out _ _ (fun _ => os.S) ?_
      clear HK
      refine anyD_two (i := 3) (j := 6) (by kernel_rfl) rfl rfl rfl rfl (fun K hK => ?_) (fun K hK => ?_)
      · have HK := Lib.hid hK
        clear hK
        refine wp_append_Own intC TInts (.tmp 17) (.tmp 19) rfl rfl os.o1 rfl (X1.sub fun b _ hor => hor.elim (fun h => h.elim) (fun h => hlt b (p1 b h))) (by have := hc1.out; simp only [maxLen, List.length_singleton]; omega) (by have := hc1.out; simp only [List.length_singleton]; omega) (Nat.le_trans HBW.out os.size) ?_
        intro A1' c1' L1' V2 hL1' hown' hbl' hgr' hor'
        have os := os.app1 hown' hgr' hor'
        clear hown' hbl' hgr' hor'
        refine HK.out _ _ (fun _ => os.S) ?_
        clear HK
        refine anyD_one (i := 6) (by kernel_rfl) rfl rfl (fun K hK => ?_)
        have HK := Lib.hid hK
        clear hK
        unfold Oper.wp
        go_simp
        obtain ⟨V3, hV'⟩ : ∃ V3, V2.alloc (.cells #[.int .i64 x.2] 3) = V3 := ⟨_, rfl⟩
        have hal : Below V2.heap.size V2 V3 := by rw [← hV']; exact (Below.refl _ _).alloc (Nat.le_refl _) _
        have X2 : SlR intC (fun b => b < W.heap.size) V3 (.slice (some ⟨V2.heap.size, 0, none⟩) 1 1) [x.2] := by rw [← hV']; exact SlR.built (C := intC) (cs := [.int .i64 x.2]) _ ⟨rfl, by omega, by omega⟩ (fun b hb => Nat.lt_of_lt_of_le hb os.size)
        have os := os.ext hal
        rw [hV']
        clear hV' hal
        refine HK.out _ _ (fun _ => os.S) ?_
        clear HK
        refine anyD_one (i := 7) (by kernel_rfl) rfl rfl (fun K hK => ?_)
        have HK := Lib.hid hK
        clear hK
        refine wp_append_Own intC TInts (.tmp 21) (.tmp 23) rfl rfl os.o2 rfl (X2.sub fun b _ hor => hor.elim (fun h => h.elim) (fun h => hlt b (p2 b h))) (by have := hc2.out; simp only [maxLen, List.length_singleton]; omega) (by have := hc2.out; simp only [List.length_singleton]; omega) (Nat.le_trans HBW.out os.size) ?_
        intro A2' c2' L2' V4 hL2' hown' hbl' hgr' hor'
        have os := os.app2 hown' hgr' hor'
        clear hown' hbl' hgr' hor'
        refine HK.out _ _ (fun _ => os.S) ?_
        clear HK
        obtain ⟨f1, f2, f3, f4⟩ := os.Z
        refine anyD_one (i := 8) (by kernel_rfl) rfl rfl (fun K hK => ?_)
        have HK := Lib.hid hK
        clear hK
        unfold Oper.wp
        go_simp
        refine HK.out _ _ (fun h => by cases h) ?_
        clear HK f1 f2 f3 f4
        have os := os.set1
        obtain ⟨f1, f2, f3, f4⟩ := os.Z
        refine anyD_one (i := 9) (by kernel_rfl) rfl rfl (fun K hK => ?_)
        have HK := Lib.hid hK
        clear hK
        unfold Oper.wp
        go_simp
        refine HK.out _ _ (fun h => by cases h) ?_
        clear HK f1 f2 f3 f4
        have os := os.set2
        refine anyD_done (by kernel_rfl) ?_ _
        exact Done9.out _ hL1' hL2' os
      · have HK := Lib.hid hK
        clear hK
        unfold Oper.wp
        go_simp
        obtain ⟨V2, hV'⟩ : ∃ V2, V1.alloc (.cells #[.int .i64 x.2] 3) = V2 := ⟨_, rfl⟩
        have hal : Below V1.heap.size V1 V2 := by rw [← hV']; exact (Below.refl _ _).alloc (Nat.le_refl _) _
        have X2 : SlR intC (fun b => b < W.heap.size) V2 (.slice (some ⟨V1.heap.size, 0, none⟩) 1 1) [x.2] := by rw [← hV']; exact SlR.built (C := intC) (cs := [.int .i64 x.2]) _ ⟨rfl, by omega, by omega⟩ (fun b hb => Nat.lt_of_lt_of_le hb os.size)
        have X1 := X1.ext hal
        have os := os.ext hal
        rw [hV']
        clear hV' hal
        refine HK.out _ _ (fun _ => os.S) ?_
        clear HK
        refine anyD_one (i := 3) (by kernel_rfl) rfl rfl (fun K hK => ?_)
        have HK := Lib.hid hK
        clear hK
        refine wp_append_Own intC TInts (.tmp 17) (.tmp 19) rfl rfl os.o1 rfl (X1.sub fun b _ hor => hor.elim (fun h => h.elim) (fun h => hlt b (p1 b h))) (by have := hc1.out; simp only [maxLen, List.length_singleton]; omega) (by have := hc1.out; simp only [List.length_singleton]; omega) (Nat.le_trans HBW.out os.size) ?_
        intro A1' c1' L1' V3 hL1' hown' hbl' hgr' hor'
        have X2 := X2.keep (fun b hb hn => hgr'.block b hb fun e => hn (hlt b (p1 b e.symm))) hgr'.size
        have os := os.app1 hown' hgr' hor'
        clear hown' hbl' hgr' hor'
        refine HK.out _ _ (fun _ => os.S) ?_
        clear HK
        refine anyD_one (i := 7) (by kernel_rfl) rfl rfl (fun K hK => ?_)
        have HK := Lib.hid hK
        clear hK
        refine wp_append_Own intC TInts (.tmp 21) (.tmp 23) rfl rfl os.o2 rfl (X2.sub fun b _ hor => hor.elim (fun h => h.elim) (fun h => hlt b (p2 b h))) (by have := hc2.out; simp only [maxLen, List.length_singleton]; omega) (by have := hc2.out; simp only [List.length_singleton]; omega) (Nat.le_trans HBW.out os.size) ?_
        intro A2' c2' L2' V4 hL2' hown' hbl' hgr' hor'
        have os := os.app2 hown' hgr' hor'
        clear hown' hbl' hgr' hor'
        refine HK.out _ _ (fun _ => os.S) ?_
        clear HK
        obtain ⟨f1, f2, f3, f4⟩ := os.Z
        refine anyD_one (i := 8) (by kernel_rfl) rfl rfl (fun K hK => ?_)
        have HK := Lib.hid hK
        clear hK
        unfold Oper.wp
        go_simp
        refine HK.out _ _ (fun h => by cases h) ?_
        clear HK f1 f2 f3 f4
        have os := os.set1
        obtain ⟨f1, f2, f3, f4⟩ := os.Z
        refine anyD_one (i := 9) (by kernel_rfl) rfl rfl (fun K hK => ?_)
        have HK := Lib.hid hK
        clear hK
        unfold Oper.wp
        go_simp
        refine HK.out _ _ (fun h => by cases h) ?_
        clear HK f1 f2 f3 f4
        have os := os.set2
        refine anyD_done (by kernel_rfl) ?_ _
        exact Done9.out _ hL1' hL2' os
    · have HK := Lib.hid hK
      clear hK
      unfold Oper.wp
      go_simp
      obtain ⟨V1, hV'⟩ : ∃ V1, V0.alloc (.cells #[.int .i64 x.2] 3) = V1 := ⟨_, rfl⟩
      have hal : Below V0.heap.size V0 V1 := by rw [← hV']; exact (Below.refl _ _).alloc (Nat.le_refl _) _
      have X2 : SlR intC (fun b => b < W.heap.size) V1 (.slice (some ⟨V0.heap.size, 0, none⟩) 1 1) [x.2] := by rw [← hV']; exact SlR.built (C := intC) (cs := [.int .i64 x.2]) _ ⟨rfl, by omega, by omega⟩ (fun b hb => Nat.lt_of_lt_of_le hb os.size)
      have os := os.ext hal
      rw [hV']
      clear hV' hal
      refine HK.out _ _ (fun _ => os.S) ?_
      clear HK
      refine anyD_one (i := 2) (by kernel_rfl) rfl rfl (fun K hK => ?_)
      have HK := Lib.hid hK
      clear hK
      unfold Oper.wp
      go_simp
      obtain ⟨V2, hV'⟩ : ∃ V2, V1.alloc (.cells #[.int .i64 (x.1 : Int)] 3) = V2 := ⟨_, rfl⟩
      have hal : Below V1.heap.size V1 V2 := by rw [← hV']; exact (Below.refl _ _).alloc (Nat.le_refl _) _
      have X1 : SlR intC (fun b => b < W.heap.size) V2 (.slice (some ⟨V1.heap.size, 0, none⟩) 1 1) [(x.1 : Int)] := by rw [← hV']; exact SlR.built (C := intC) (cs := [.int .i64 (x.1 : Int)]) _ ⟨rfl, by omega, by omega⟩ (fun b hb => Nat.lt_of_lt_of_le hb os.size)
      have X2 := X2.ext hal
      have os := os.ext hal
      rw [hV']
      clear hV' hal
      refine HK.out _ _ (fun _ => os.S) ?_
      clear HK
      refine anyD_one (i := 3) (by kernel_rfl) rfl rfl (fun K hK => ?_)
      have HK := Lib.hid hK
      clear hK
      refine wp_append_Own intC TInts (.tmp 17) (.tmp 19) rfl rfl os.o1 rfl (X1.sub fun b _ hor => hor.elim (fun h => h.elim) (fun h => hlt b (p1 b h))) (by have := hc1.out; simp only [maxLen, List.length_singleton]; omega) (by have := hc1.out; simp only [List.length_singleton]; omega) (Nat.le_trans HBW.out os.size) ?_
      intro A1' c1' L1' V3 hL1' hown' hbl' hgr' hor'
      have X2 := X2.keep (fun b hb hn => hgr'.block b hb fun e => hn (hlt b (p1 b e.symm))) hgr'.size
      have os := os.app1 hown' hgr' hor'
      clear hown' hbl' hgr' hor'
      refine HK.out _ _ (fun _ => os.S) ?_
      clear HK
      refine anyD_one (i := 7) (by kernel_rfl) rfl rfl (fun K hK => ?_)
      have HK := Lib.hid hK
      clear hK
      refine wp_append_Own intC TInts (.tmp 21) (.tmp 23) rfl rfl os.o2 rfl (X2.sub fun b _ hor => hor.elim (fun h => h.elim) (fun h => hlt b (p2 b h))) (by have := hc2.out; simp only [maxLen, List.length_singleton]; omega) (by have := hc2.out; simp only [List.length_singleton]; omega) (Nat.le_trans HBW.out os.size) ?_
      intro A2' c2' L2' V4 hL2' hown' hbl' hgr' hor'
      have os := os.app2 hown' hgr' hor'
      clear hown' hbl' hgr' hor'
      refine HK.out _ _ (fun _ => os.S) ?_
      clear HK
      obtain ⟨f1, f2, f3, f4⟩ := os.Z
      refine anyD_one (i := 8) (by kernel_rfl) rfl rfl (fun K hK => ?_)
      have HK := Lib.hid hK
      clear hK
      unfold Oper.wp
      go_simp
      refine HK.out _ _ (fun h => by cases h) ?_
      clear HK f1 f2 f3 f4
      have os := os.set1
      obtain ⟨f1, f2, f3, f4⟩ := os.Z
      refine anyD_one (i := 9) (by kernel_rfl) rfl rfl (fun K hK => ?_)
      have HK := Lib.hid hK
      clear hK
      unfold Oper.wp
      go_simp
      refine HK.out _ _ (fun h => by cases h) ?_
      clear HK f1 f2 f3 f4
      have os := os.set2
      refine anyD_done (by kernel_rfl) ?_ _
      exact Done9.out _ hL1' hL2' os
  · rintro D S W hD hSD ⟨h1, h2, h3, h4, h5, A1, c1, L1, A2, c2, L2, hL1, hL2, q1, q2, o1, o2, p1, p2, pa⟩ hWD
    have hk2 := q1.drewN 1
    have hk3 := q2.drewN 1
    have hk4 := h5.drewN 1
    have hS0 : (W.drewN 1).cell? ⟨r2, 0, none⟩ = some (.slice A1 L1.length c1) ∧ (W.drewN 1).cell? ⟨r3, 0, none⟩ = some (.slice A2 L2.length c2) := ⟨hk2.one.1, hk3.one.1⟩
    have hr23 : r2 ≠ r3 ∧ r2 ≠ r4 ∧ r3 ≠ r4 ∧ r3 ≠ r2 ∧ r4 ≠ r2 ∧ r4 ≠ r3 := by have := HrB.out; omega
    obtain ⟨n23, n24, n34, n32, n42, n43⟩ := hr23
    go_wp2
    go_region_held3 (fun W' => W'.cell? ⟨r2, 0, none⟩ = some (.slice A1 L1.length c1) ∧ W'.cell? ⟨r3, 0, none⟩ = some (.slice A2 L2.length c2)) (first | exact hS0 | exact hS1 | exact hS2 | exact hS3 | exact hS4) (first
      | (go_at_call 24; refine (none_ok _).mono ?_; rintro e w6 ⟨rfl, hb6⟩; have hq2 := hk2.ext hb6; have hq3 := hk3.ext hb6; have hq4 := hk4.ext hb6; obtain ⟨c0, c1', z0, z1, s1⟩ := hq4.two; obtain ⟨e2, z2, s2⟩ := hq2.one; obtain ⟨e3, z3, s3⟩ := hq3.one; have hS1 := And.intro e2 e3; have ha2 := hq2.set_ 0 (.slice A1 L1.length c1); have ha3 := hq3.far (p := ⟨r2, 0, none⟩) n32 (.slice A1 L1.length c1); have hS2 := And.intro ha2.one.1 ha3.one.1;
         have hd2 := ha2.far (p := ⟨r3, 0, none⟩) n23 (.slice A2 L2.length c2); have hd3 := ha3.set_ 0 (.slice A2 L2.length c2); have hS3 := And.intro hd2.one.1 hd3.one.1;
         have hg2 := (hd2.far (p := ⟨r4, 0, none⟩) n24 (.int .i64 0)).far (p := ⟨r4, 1, none⟩) n24 (.int .i64 0); have hg3 := (hd3.far (p := ⟨r4, 0, none⟩) n34 (.int .i64 0)).far (p := ⟨r4, 1, none⟩) n34 (.int .i64 0); have hS4 := And.intro hg2.one.1 hg3.one.1;
         obtain ⟨_, z3', _⟩ := ha3.one; have hq4' := (hq4.far (p := ⟨r2, 0, none⟩) n42 (.slice A1 L1.length c1)).far (p := ⟨r3, 0, none⟩) n43 (.slice A2 L2.length c2); obtain ⟨_, _, z0', z1', _⟩ := hq4'.two))
    go_wp2
    have hDlt : D < W.heap.size := (Array.getElem?_eq_some_iff.1 hWD).1
    have hb56 : Below W.heap.size W w6 := (below_drewN' _ W 1).trans hb6
    have hDr : D ≠ r2 ∧ D ≠ r3 ∧ D ≠ r4 ∧ w.heap.size ≤ r2 ∧ r2 < r3 ∧ r3 < r4 ∧ r4 < B ∧ B ≤ D := by have := HrB.out; omega
    have hrW : r4 < W.heap.size := h5.lt
    obtain ⟨W8, hW8⟩ : ∃ W8, ((((w6.setCell ⟨r2, 0, none⟩ (.slice A1 L1.length c1)).setCell ⟨r3, 0, none⟩ (.slice A2 L2.length c2)).setCell ⟨r4, 0, none⟩ (.int .i64 0)).setCell ⟨r4, 1, none⟩ (.int .i64 0)) = W8 := ⟨_, rfl⟩
    rw [hW8] at hg2 hg3 ⊢
    have hfar : ∀ b, b ≠ r2 → b ≠ r3 → b ≠ r4 → W8.heap[b]? = w6.heap[b]? := fun b hb1 hb2 hb3 => by
      rw [← hW8]
      exact (Below.heap_setCell _ _ _ _ hb3).trans ((Below.heap_setCell _ _ _ _ hb3).trans ((Below.heap_setCell _ _ _ _ hb2).trans (Below.heap_setCell _ _ _ _ hb1)))
    have k4 : Blk W8 r4 31 #[.int .i64 0, .int .i64 0] := by
      rw [← hW8]
      simpa using (hq4'.set_ 0 (.int .i64 0)).set_ 1 (.int .i64 0)
    have hb6w : Below w.heap.size w w6 := h4.trans (hb56.mono h4.size)
    have hbW8 : Below w.heap.size w W8 := by
      rw [← hW8]
      exact Below.setCell (Below.setCell (Below.setCell (Below.setCell hb6w (by show w.heap.size ≤ r2; omega) _) (by show w.heap.size ≤ r3; omega) _) (by show w.heap.size ≤ r4; omega) _) (by show w.heap.size ≤ r4; omega) _
    have k2 : Blk W8 r2 54 #[.slice A1 L1.length c1] := by simpa using hg2
    have k3 : Blk W8 r3 54 #[.slice A2 L2.length c2] := by simpa using hg3
    have hs8 : W8.heap.size = w6.heap.size := by rw [← hW8]; simp
    clear hW8
    have far9 : ∀ b, b ≠ D → (W8.putObj D (.deferred none)).heap[b]? = W8.heap[b]? := fun b hb => World.putObj_heap_other hb
    have k2 := k2.keep (far9 r2 (fun e => hDr.1 e.symm))
    have k3 := k3.keep (far9 r3 (fun e => hDr.2.1 e.symm))
    have k4 := k4.keep (far9 r4 (fun e => hDr.2.2.1 e.symm))
    have hWD8 : W8.heap[D]? = some (.deferred (some [])) := (hfar D hDr.1 hDr.2.1 hDr.2.2.1).trans ((hb56.block D hDlt).trans hWD)
    have hown9 : ∀ {v : Value} {L : List Int}, Own intC M0 W (B + 1) 3 v L → (∀ b, v.ownBlock = some b → S b) → SlR intC M0 (W8.putObj D (.deferred none)) v L := fun {v L} ho hp => by
      have h11 : Own intC M0 (W8.putObj D (.deferred none)) (B + 1) 3 v L := ho.flatI fun b hb => by
        have hx := ho.base b hb
        exact (far9 b (fun e => hSD (e ▸ hp b hb))).trans ((hfar b (by omega) (by omega) (by omega)).trans (hb56.block b (ho.lt b hb)))
      exact h11.read0
    obtain ⟨f2, _⟩ := k2.one
    obtain ⟨f3, _⟩ := k3.one
    obtain ⟨f0, f1, _⟩ := k4.two
    exact bodyPostM_one hWD8 (v := .tuple #[.slice A1 L1.length c1, .slice A2 L2.length c2, .agg #[.int .i64 0, .int .i64 0]]) (by simp [results, Tryz.results16, go_sem, f0, f1, f2, f3]) ⟨A1, c1, L1, A2, c2, L2, rfl, Lib.hid (by rw [hL1.out, List.take_length]), Lib.hid (by rw [hL2.out, List.take_length]), hown9 o1 p1, hown9 o2 p2,
      ⟨hbW8.os, hbW8.tape, hbW8.output, by rw [World.putObj_size]; exact hbW8.size, fun k hk => (World.putObj_heap_other (by omega)).trans (hbW8.block k hk)⟩⟩
  · rintro D c' k S W _ _ h
    exact h.elim
end Go.Proofs.YtjamjkjmlckgeaaGreatDoor

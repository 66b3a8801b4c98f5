/-
  query.node: the code of a node's error.
-/
import Derived.Test.YtnlhocbaighedaaGreatDoorR11
import Derived.Test.YtnlhocbaighedaaGreatDoorR3
import Derived.Test.YtnlhocbaighedaaGreatDoorR12
namespace Go.Proofs.YtnlhocbaighedaaGreatDoor
open Go.RowKit
set_option linter.unusedVariables false
theorem boxA (w : World) (cs : Array Value) (t : TypeId) : ∃ W g, w.alloc (.cells cs t) = W ∧ w.heap.size = g ∧ W.heap.size = g + 1 ∧ Blk W g t cs ∧ Below w.heap.size w W := ⟨_, _, rfl, rfl, by simp, Blk.new w t _, (Below.refl _ _).alloc (Nat.le_refl _) _⟩
theorem put_three {w0 V V9 : World} {g : Nat} {T : TypeId} {a b c : Value} (hb : Below w0.heap.size w0 V) (kg : Blk V g T #[a, b, c]) (hg : w0.heap.size ≤ g) (x y z : Value) (hV : ((V.setCell ⟨g, 0, none⟩ x).setCell ⟨g, 1, none⟩ y).setCell ⟨g, 2, none⟩ z = V9) : Below w0.heap.size w0 V9 ∧ Blk V9 g T #[x, y, z] := by
 subst hV
 refine ⟨((hb.setCell (p := ⟨g, 0, none⟩) hg _).setCell (p := ⟨g, 1, none⟩) hg _).setCell (p := ⟨g, 2, none⟩) hg _, ?_⟩
 simpa using ((kg.set_ 0 x).set_ 1 y).set_ 2 z
theorem kinds {k : Int} (h : 1 ≤ k ∧ k ≤ 8) : k = 1 ∨ k = 2 ∨ k = 3 ∨ k = 4 ∨ k = 5 ∨ k = 6 ∨ k = 7 ∨ k = 8 := by omega
theorem run_shape {k : Int} (h : 1 ≤ k ∧ k ≤ 8) (W : World) : (Instr.index 111 (.agg shapesA) (.int .i64 k)).run Tryz.prog W = .ok (.agg #[.int .i64 (Q.least k), .int .i64 (Q.most k), .int .i64 (Q.wants k)]) W := by
 rcases kinds h with rfl | rfl | rfl | rfl | rfl | rfl | rfl | rfl <;> kernel_rfl
set_option maxRecDepth 100000 in
set_option maxHeartbeats 4000000 in
theorem node_ok (f : Nat) (q : Q) (v : Value) (w : World) (hq : QAt f M0 w v q) (hw : ∀ W, Below w.heap.size w W → WordsAt q.text W) :
  Calls Tryz.prog 57 #[v] w fun e w' => e = .returned (.int .i64 (Q.errOf q)) ∧ Below w.heap.size w w' := by
 obtain ⟨A, c, rfl, _, _, _, hv⟩ := hq
 obtain ⟨k, t, n, ps⟩ := q
 simp only [Q.kind_node, Q.text_node, Q.num_node, Q.parts_node] at hv hw ⊢
 have hps := hv.len_le
 unfold maxLen at hps
 have hb0 := (Below.refl w.heap.size w).alloc (Nat.le_refl _) (.cells #[.int .i64 k, .string (bs t), .int .i64 n, .slice A ps.length c] 28)
 have kb := Blk.new w 28 #[.int .i64 k, .string (bs t), .int .i64 n, .slice A ps.length c]
 obtain ⟨p0, p1, p2, p3, _⟩ := kb.four
 by_cases hk1 : k < 1
 ·go_enter Tryz.func57, Tryz.ntmps57
  go_wp2_with fail
  go_ret
  exact ⟨by unfold Q.errOf; simp [hk1], hb0⟩
 by_cases hk8 : 8 < k
 ·go_enter Tryz.func57, Tryz.ntmps57
  go_wp2_with fail
  go_ret
  exact ⟨by unfold Q.errOf; simp [hk8], hb0⟩
 have hkk := kinds (k := k) ⟨by omega, by omega⟩
 obtain ⟨res, hres⟩ : ∃ r, Q.errOf (.node k t n ps) = r := ⟨_, rfl⟩
 have Hres := Lib.hid hres
 rw [hres]
 clear hres
 obtain ⟨W0, hW0⟩ : ∃ W0, w.alloc (.cells #[.int .i64 k, .string (bs t), .int .i64 n, .slice A ps.length c] 28) = W0 := ⟨_, rfl⟩
 have HW0 := Lib.hid hW0
 rw [hW0] at hb0 kb p0 p1 p2 p3
 clear hW0
 go_enter Tryz.func57, Tryz.ntmps57
 go_upto_region 3 with fail
 rw [HW0.out]
 have hix := run_shape (k := k) ⟨by omega, by omega⟩
 have hSS : ∀ W', Below W0.heap.size W0 W' → W'.cell? ⟨w.heap.size, 0, none⟩ = some (.int .i64 k) := fun W' hb => (kb.ext hb).four.1
 have HS := Lib.hid hSS
 clear hSS p0 p1 p2 p3
 go_cut [3] (fun p wc => ∃ g, p = .pointer (some ⟨g, 0, none⟩) ∧ Blk wc g 110 #[.int .i64 (Q.least k), .int .i64 (Q.most k), .int .i64 (Q.wants k)] ∧ Below W0.heap.size W0 wc)
 case first =>
  refine wp_region_D (fun W => W.cell? ⟨w.heap.size, 0, none⟩ = some (.int .i64 k)) (fun _ => false) (by kernel_rfl) ?_
  change anyD _ _ _ _ _ _ _ _ _ (W0.drewN 1)
  have hbV := below_drewN' W0.heap.size W0 1
  have hS := HS.out _ hbV
  generalize W0.drewN 1 = V0 at hS hbV ⊢
  (refine anyD_l5 (i := 1) (v := ?_) rfl (by kernel_rfl) (fun _ _ _ h => h) (.inl ⟨by kernel_rfl, fun W9 hW9 => ?_⟩) hS ?_; rotate_left; · (have hw0 := hW9; go_simp; rfl))
  (refine anyD_l5 (i := 2) (v := ?_) rfl (by kernel_rfl) (fun _ _ _ h => h) (.inl ⟨by kernel_rfl, fun W9 hW9 => ?_⟩) hS ?_; rotate_left; · (have hw0 := hW9; go_simp; rfl))
  go_simp
  refine anyD_pick [0, 4] (by kernel_rfl) (by decide) ?_
  intro j hj
  simp only [List.mem_cons, List.not_mem_nil, or_false] at hj
  rcases hj with rfl | rfl
  ·refine ⟨_, rfl, rfl, fun K hK => ?_⟩
   have HK := Lib.hid hK
   clear hK
   unfold Oper.wp
   go_simp
   refine (shapes_ok V0).mono ?_
   rintro e V1 ⟨rfl, hb9⟩
   replace hbV := hbV.trans (hb9.mono hbV.size)
   clear hb9 hS
   have hS := HS.out _ hbV
   refine HK.out _ _ (fun _ => hS) ?_
   clear HK
   (refine anyD_l5 (i := 3) (v := ?_) rfl (by kernel_rfl) (fun _ _ _ h => h) (.inl ⟨by kernel_rfl, fun W9 hW9 => ?_⟩) hS ?_; rotate_left; · (have hx := hix W9; go_simp; rfl))
   have Hs0 := Lib.hid hbV.size
   go_simp
   refine anyD_one (i := 4) (by kernel_rfl) rfl rfl (fun K hK => ?_)
   have HK := Lib.hid hK
   clear hK
   unfold Oper.wp
   go_simp
   obtain ⟨V2, g, hV, hgg, hss, kg, hal⟩ := boxA V1 #[.int .i64 0, .int .i64 0, .int .i64 0] 110
   rw [hV, hgg]
   replace hbV := hbV.trans (hal.mono hbV.size)
   have Hg : Hid (V1.heap.size = g ∧ W0.heap.size ≤ g) := Lib.hid ⟨hgg, by have := Hs0.out; omega⟩
   clear hV hgg hss hal hS
   have hS := HS.out _ hbV
   refine HK.out _ _ (fun _ => hS) ?_
   clear HK
   go_simp
   refine anyD_one (i := 5) (by kernel_rfl) rfl rfl (fun K hK => ?_)
   have HK := Lib.hid hK
   clear hK
   obtain ⟨q0, q1, q2, q3, q4, q5, _⟩ := kg.three
   unfold Oper.wp
   go_simp
   obtain ⟨V9, hV9⟩ : ∃ V9, ((V2.setCell ⟨g, 0, none⟩ (.int .i64 (Q.least k))).setCell ⟨g, 1, none⟩ (.int .i64 (Q.most k))).setCell ⟨g, 2, none⟩ (.int .i64 (Q.wants k)) = V9 := ⟨_, rfl⟩
   obtain ⟨r1, r2⟩ := put_three hbV kg Hg.out.2 _ _ _ hV9
   rw [hV9]
   clear hS
   have hS := HS.out _ r1
   refine HK.out _ _ (fun _ => hS) ?_
   clear HK
   go_simp
   refine anyD_done (by kernel_rfl) ?_ _
   clear q0 q1 q2 q3 q4 q5 hix hS
   go_wp2
   go_meet
   exact ⟨g, rfl, r2, r1⟩
  ·refine ⟨_, rfl, rfl, fun K hK => ?_⟩
   have HK := Lib.hid hK
   clear hK
   have Hs0 := Lib.hid hbV.size
   unfold Oper.wp
   go_simp
   obtain ⟨V1, g, hV, hgg, hss, kg, hal⟩ := boxA V0 #[.int .i64 0, .int .i64 0, .int .i64 0] 110
   rw [hV, hgg]
   replace hbV := hbV.trans (hal.mono hbV.size)
   have Hg : Hid (V0.heap.size = g ∧ W0.heap.size ≤ g) := Lib.hid ⟨hgg, by have := Hs0.out; omega⟩
   clear hV hgg hss hal hS
   have hS := HS.out _ hbV
   refine HK.out _ _ (fun _ => hS) ?_
   clear HK
   go_simp
   refine anyD_one (i := 0) (by kernel_rfl) rfl rfl (fun K hK => ?_)
   have HK := Lib.hid hK
   clear hK
   unfold Oper.wp
   go_simp
   refine (shapes_ok V1).mono ?_
   rintro e V2 ⟨rfl, hb9⟩
   replace hbV := hbV.trans (hb9.mono hbV.size)
   replace kg := kg.ext hb9
   clear hb9 hS
   have hS := HS.out _ hbV
   refine HK.out _ _ (fun _ => hS) ?_
   clear HK
   (refine anyD_l5 (i := 3) (v := ?_) rfl (by kernel_rfl) (fun _ _ _ h => h) (.inl ⟨by kernel_rfl, fun W9 hW9 => ?_⟩) hS ?_; rotate_left; · (have hx := hix W9; go_simp; rfl))
   go_simp
   refine anyD_one (i := 5) (by kernel_rfl) rfl rfl (fun K hK => ?_)
   have HK := Lib.hid hK
   clear hK
   obtain ⟨q0, q1, q2, q3, q4, q5, _⟩ := kg.three
   unfold Oper.wp
   go_simp
   obtain ⟨V9, hV9⟩ : ∃ V9, ((V2.setCell ⟨g, 0, none⟩ (.int .i64 (Q.least k))).setCell ⟨g, 1, none⟩ (.int .i64 (Q.most k))).setCell ⟨g, 2, none⟩ (.int .i64 (Q.wants k)) = V9 := ⟨_, rfl⟩
   obtain ⟨r1, r2⟩ := put_three hbV kg Hg.out.2 _ _ _ hV9
   rw [hV9]
   clear hS
   have hS := HS.out _ r1
   refine HK.out _ _ (fun _ => hS) ?_
   clear HK
   go_simp
   refine anyD_done (by kernel_rfl) ?_ _
   clear q0 q1 q2 q3 q4 q5 hix hS
   go_wp2
   go_meet
   exact ⟨g, rfl, r2, r1⟩
 case rest =>
  obtain ⟨g, rfl, kg, hbc⟩ := hcut
  have hbw := hb0.trans (hbc.mono hb0.size)
  have kb1 := kb.ext hbc
  obtain ⟨p0, p1, p2, p3, _⟩ := kb1.four
  have Hw := Lib.hid (hw wc hbw)
  clear hw hix HS kb hb0 hbc HW0
  obtain ⟨W1, rfl⟩ : ∃ W1, W1 = wc := ⟨_, rfl⟩
  go_wp2_with fail
  refine Hw.out.mono ?_
  rintro e w3 ⟨A3, n3, c3, rfl, hall, hb3⟩
  have kb3 := kb1.ext hb3
  have kg3 := kg.ext hb3
  have hbw3 := hbw.trans (hb3.mono hbw.size)
  clear p0 p1 p2 p3
  obtain ⟨p0, p1, p2, p3, _⟩ := kb3.four
  obtain ⟨g0, g1, g2, _⟩ := kg3.three
  obtain ⟨ok, hok⟩ : ∃ b, (splitS t).all Q.wordOk = b := ⟨_, rfl⟩
  rw [hok] at hall ⊢
  have e0 : (decide (k < 1) || decide (8 < k)) = false := by simp; omega
  have herr : Q.errOf (.node k t n ps) = if (ps.length : Int) < Q.least k ∨ Q.most k < (ps.length : Int) ∨ (k ≠ 5 ∧ n ≠ 0) ∨ (Q.wants k = 0 ∧ t ≠ []) then 5 else if k = 5 ∧ (n < 1 ∨ 50 < n) then 3 else if Q.wants k ≠ 0 ∧ (ok = false ∨ (0 < Q.wants k ∧ ((splitS t).length : Int) ≠ Q.wants k)) then 10 else 0 := by
   unfold Q.errOf
   rw [Q.kind_node, Q.text_node, Q.num_node, Q.parts_node, e0, hok]
   rfl
  rw [Hres.out] at herr
  have Herr := Lib.hid herr; have Hall := Lib.hid hall; have Hb := Lib.hid hbw3
  clear herr hall hbw3 Hres hok e0 Hw hbw kb1 kg kb3 kg3 hb3 hkk hv
  obtain ⟨lo, hlo⟩ : ∃ x, Q.least k = x := ⟨_, rfl⟩
  obtain ⟨mo, hmo⟩ : ∃ x, Q.most k = x := ⟨_, rfl⟩
  obtain ⟨wa, hwa⟩ : ∃ x, Q.wants k = x := ⟨_, rfl⟩
  have H5 : Hid (k = 5 → wa = 2) := Lib.hid fun h => by rw [← hwa, h]; rfl
  rw [hlo] at g0 Herr
  rw [hmo] at g1 Herr
  rw [hwa] at g2 Herr
  clear hlo hmo hwa
  by_cases c1 : (ps.length : Int) < lo
  ·obtain rfl : 5 = res := by rw [Herr.out, if_pos (.inl c1)]
   go_wp2_with fail
   go_ret
   exact ⟨rfl, Hb.out⟩
  by_cases c2 : mo < (ps.length : Int)
  ·obtain rfl : 5 = res := by rw [Herr.out, if_pos (.inr (.inl c2))]
   go_wp2_with fail
   go_ret
   exact ⟨rfl, Hb.out⟩
  by_cases c5 : k = 5
  ·obtain rfl := H5.out c5
   have e5 : (k == 5) = true := by rw [c5]; rfl
   have hn1 : ¬ ((ps.length : Int) < lo ∨ mo < (ps.length : Int) ∨ (k ≠ 5 ∧ n ≠ 0) ∨ ((2 : Int) = 0 ∧ t ≠ [])) := by
    rintro (h | h | h | h)
    ·exact c1 h
    ·exact c2 h
    ·exact h.1 c5
    ·exact absurd h.1 (by decide)
   have herr := Herr.out
   rw [if_neg hn1] at herr
   clear Herr hn1
   by_cases c6 : n < 1
   ·obtain rfl : 3 = res := by rw [herr, if_pos ⟨c5, .inl c6⟩]
    clear herr
    go_wp2_with fail
    go_ret
    exact ⟨rfl, Hb.out⟩
   by_cases c7 : 50 < n
   ·obtain rfl : 3 = res := by rw [herr, if_pos ⟨c5, .inr c7⟩]
    clear herr
    go_wp2_with fail
    go_ret
    exact ⟨rfl, Hb.out⟩
   rw [if_neg (by rintro ⟨_, h | h⟩; exact c6 h; exact c7 h)] at herr
   cases ok with
   | false =>
    obtain rfl : 10 = res := by rw [herr, if_pos ⟨by decide, .inl rfl⟩]
    clear herr
    go_wp2_with fail
    go_ret
    exact ⟨rfl, Hb.out⟩
   | true =>
    obtain ⟨rfl, _⟩ := Hall.out rfl
    obtain ⟨sl, hsl⟩ : ∃ m, (splitS t).length = m := ⟨_, rfl⟩
    rw [hsl] at herr ⊢
    by_cases c8 : (sl : Int) = 2
    ·have c8' : ((sl : Int) == 2) = true := by simp [c8]
     obtain rfl : 0 = res := by rw [herr, if_neg (by rintro ⟨_, h | h⟩; cases h; exact h.2 c8)]
     clear herr
     go_wp2_with fail
     go_ret
     exact ⟨rfl, Hb.out⟩
    ·have c8' : ((sl : Int) == 2) = false := by simpa using c8
     obtain rfl : 10 = res := by rw [herr, if_pos ⟨by decide, .inr ⟨by decide, c8⟩⟩]
     clear herr
     go_wp2_with fail
     go_ret
     exact ⟨rfl, Hb.out⟩
  have e5 : (k == 5) = false := by simpa using c5
  by_cases c6 : n = 0
  ·subst c6
   by_cases cw : wa = 0
   ·subst cw
    by_cases ct : t = []
    ·subst ct
     obtain rfl : 0 = res := by rw [Herr.out, if_neg (by rintro (h | h | h | h); exact c1 h; exact c2 h; exact h.2 rfl; exact h.2 rfl), if_neg (fun h => c5 h.1), if_neg (fun h => h.1 rfl)]
     go_wp2_with fail
     go_ret
     exact ⟨rfl, Hb.out⟩
    ·have ct' : (t == []) = false := by rw [beq_eq_false_iff_ne]; exact ct
     obtain rfl : 5 = res := by rw [Herr.out, if_pos (.inr (.inr (.inr ⟨rfl, ct⟩)))]
     go_wp2_with fail
     go_ret
     exact ⟨rfl, Hb.out⟩
   ·have cw' : (wa == 0) = false := by simpa using cw
    have herr := Herr.out
    rw [if_neg (by rintro (h | h | h | h); exact c1 h; exact c2 h; exact h.2 rfl; exact cw h.1), if_neg (fun h => c5 h.1)] at herr
    cases ok with
    | false =>
     obtain rfl : 10 = res := by rw [herr, if_pos ⟨cw, .inl rfl⟩]
     clear herr
     go_wp2_with fail
     go_ret
     exact ⟨rfl, Hb.out⟩
    | true =>
     obtain ⟨rfl, _⟩ := Hall.out rfl
     obtain ⟨sl, hsl⟩ : ∃ m, (splitS t).length = m := ⟨_, rfl⟩
     rw [hsl] at herr ⊢
     by_cases c7 : 0 < wa
     ·by_cases c8 : (sl : Int) = wa
      ·subst c8
       obtain rfl : 0 = res := by rw [herr, if_neg (by rintro ⟨_, h | h⟩; cases h; exact h.2 rfl)]
       clear herr
       go_wp2_with fail
       go_ret
       exact ⟨rfl, Hb.out⟩
      ·have c8' : ((sl : Int) == wa) = false := by simpa using c8
       have c8n : ((sl : Int) != wa) = true := by simpa using c8
       have cwn : (wa != 0) = true := by simpa using cw
       obtain rfl : 10 = res := by rw [herr, if_pos ⟨cw, .inr ⟨c7, c8⟩⟩]
       clear herr
       go_wp2_with fail
       go_ret
       exact ⟨rfl, Hb.out⟩
     ·obtain rfl : 0 = res := by rw [herr, if_neg (by rintro ⟨_, h | h⟩; cases h; exact c7 h.1)]
      clear herr
      go_wp2_with fail
      go_ret
      exact ⟨rfl, Hb.out⟩
  ·have c6' : (n == 0) = false := by simpa using c6
   obtain rfl : 5 = res := by rw [Herr.out, if_pos (.inr (.inr (.inl ⟨c5, c6⟩)))]
   go_wp2_with fail
   go_ret
   exact ⟨rfl, Hb.out⟩
end Go.Proofs.YtnlhocbaighedaaGreatDoor

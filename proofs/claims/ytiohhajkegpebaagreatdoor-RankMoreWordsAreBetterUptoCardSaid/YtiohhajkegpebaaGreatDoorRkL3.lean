/-
  RankMoreWordsAreBetter: the law's walk.
-/
import Derived.Test.YtiohhajkegpebaaGreatDoorR25
import Derived.Test.YtiohhajkegpebaaGreatDoorSrQf
namespace Go.Proofs.YtiohhajkegpebaaGreatDoor
open Go.RowKit
set_option linter.unusedVariables false
namespace Rk
theorem leaf_word {s : Str} (h : (Q.fault (.node 2 s 0 [])).1 = 0) : splitS s = [s] ∧ Sm.words s = [s] := by
  have h1 := (Q.fault_zero.1 h).2.2 (.node 2 s 0 []) (by simp [Q.pre])
  have h2 := (Sr.node_text h1).2.1 (.inl rfl)
  refine ⟨h2.1, ?_⟩
  have h3 := h2.2
  unfold Q.wordOk at h3
  rw [Bool.and_eq_true] at h3
  simpa using h3.2
theorem find_good {x : Ix.Idx} {q : Q} (hc : Ix.Canon x) (hq : (Q.fault q).1 = 0) : Sr.findR x q = (Sr.foundF x q, 0, 0) := by
  unfold Sr.findR
  rw [if_neg (by simpa using (Ix.indexF_zero x).2 hc), if_neg (by simpa using hq)]
theorem score_leaf {x : Ix.Idx} {s : Str} (hc : Ix.Canon x) (hq : (Q.fault (.node 2 s 0 [])).1 = 0) {id : Int} (hid : id ∈ x.1) : scoreR x (.node 2 s 0 []) ((splitS s).map Sm.stem) id = (scoreF x [Sm.stem s] id, 0, 0) := by
  unfold scoreR
  rw [find_good hc hq, if_neg (by simp), if_pos (by simpa using hid), (leaf_word hq).1]
  show (scoreF x (countF [Sm.stem s]) id, (0 : Int), (0 : Int)) = _
  rw [count_one]
end Rk
theorem bs_dot (t s : Str) : bs t ++ { data := #[46, 32] } ++ bs s = bs (t ++ 46 :: 32 :: s) := by
  apply ByteArray.ext
  simp [bs, ByteArray.data_append]
set_option maxRecDepth 100000 in
set_option maxHeartbeats 8000000 in
theorem rmore_ok (t s : Str) (w : World) (ht : t.length ≤ 1048576) (hs : s.length ≤ 1048574) (hT : TabsU w) :
    Calls Tryz.prog 3 #[.string (bs t), .string (bs s)] w fun e w' => e = .returned (.bool true) ∧ Below w.heap.size w w' := by
  have Hex := Lib.hid (rankExample_ok w hT)
  have HT := Lib.hid hT
  obtain ⟨tl, htl⟩ : ∃ n, t.length = n := ⟨_, rfl⟩
  obtain ⟨sl, hsl⟩ : ∃ n, s.length = n := ⟨_, rfl⟩
  have hw1 : IntKind.i64.wrap ((tl : Int) + (sl : Int)) = (tl : Int) + (sl : Int) := IntWalk.i64_in _ (by omega)
  have Hts := Lib.hid (And.intro htl (And.intro hsl (And.intro ht hs)))
  clear hT ht hs
  go_enter Tryz.func3, Tryz.ntmps3
  go_wp2_with fail
  refine Hex.out.mono ?_
  clear Hex
  rintro e w1 ⟨rfl, hb1⟩
  obtain ⟨W, g, hW, hg, hsz, kQ, hal⟩ := boxA w1 #[.int .i64 2, .string (bs s), .int .i64 0, .slice none 0 0] 25
  have hbW := hb1.trans (hal.mono hb1.size)
  have hqa : QAt 0 M0 W (.agg #[.int .i64 2, .string (bs s), .int .i64 0, .slice none 0 0]) (.node 2 s 0 []) := qleaf W 0 2 s (by omega) (by have := Hts.out; unfold maxLen; omega)
  obtain ⟨fa, hfa⟩ : ∃ x, (Q.fault (.node 2 s 0 [])).1 = x := ⟨_, rfl⟩
  obtain ⟨fb, hfb⟩ : ∃ x, (Q.fault (.node 2 s 0 [])).2 = x := ⟨_, rfl⟩
  have hqf := queryFault_ok 0 (.node 2 s 0 []) _ W hqa (by have := Hts.out; simp [Q.bulk, Q.bulks]; omega) (HT.out.ext hbW)
  rw [hfa, hfb] at hqf
  obtain ⟨q0, q1, q2, q3, _⟩ := kQ.fourV
  have HW := Lib.hid hW; have Hqf := Lib.hid hqf; have HbW := Lib.hid hbW; have HQ := Lib.hid kQ; have Hqa := Lib.hid hqa; have Hfa := Lib.hid hfa
  clear hW hqf hbW kQ hqa hfa hfb hsz hal hb1
  go_wp2_with fail
  rw [HW.out]
  refine Hqf.out.mono ?_
  clear Hqf HW q0 q1 q2 q3 hg
  rintro e w3 ⟨rfl, hb3⟩
  obtain ⟨q0, q1, q2, q3, _⟩ := (HQ.out.ext hb3).fourV
  have run_code : (Instr.field 27 (.agg #[.int .i64 fa, .int .i64 fb]) 0).run Tryz.prog w3 = .ok (.int .i64 fa) w3 := by kernel_rfl
  have Hb3 := Lib.hid (HbW.out.trans (hb3.mono HbW.out.size)); have HQ3 := Lib.hid (HQ.out.ext hb3); have Hqa3 := Lib.hid (Hqa.out.ext hb3)
  clear hb3
  by_cases hf0 : fa = 0
  · subst hf0
    have hne : ((0 : Int) != 0) = false := rfl
    by_cases hbig : (3000 : Int) < (tl : Int) + (sl : Int)
    · go_wp2_with fail
      go_ret
      exact ⟨rfl, Hb3.out⟩
    · have hgd : decide ((3000 : Int) < (tl : Int) + (sl : Int)) = false := decide_eq_false hbig
      go_wp2_with fail
      have hq0 : (Q.fault (.node 2 s 0 [])).1 = 0 := Hfa.out
      obtain ⟨U, hU⟩ : ∃ U : Str, t ++ 46 :: 32 :: s = U := ⟨_, rfl⟩
      have hbsU : bs t ++ { data := #[46, 32] } ++ bs s = bs U := by rw [← hU]; exact bs_dot t s
      rw [hbsU]
      have hUl : U.length ≤ 4000 := by rw [← hU]; simp; omega
      have htl4 : t.length ≤ 4000 := by omega
      obtain ⟨V, gV, hV, hgV, hsV, kV, halV⟩ := boxA w3 #[.int .i64 5, .string (bs t), .int .i64 9, .string (bs U)] 35
      have hd : SlR docC M0 (w3.alloc (.cells #[.int .i64 5, .string (bs t), .int .i64 9, .string (bs U)] 35)) (.slice (some ⟨w3.heap.size, 0, none⟩) 2 2) [(5, t), (9, U)] := docs2 w3 5 9 t U (by omega) (by omega) (by unfold maxLen; omega) (by unfold maxLen; omega)
      rw [hV] at hd
      have hmade := refMade_ok _ _ V hd (by simp) (fun d hd => by simp at hd; rcases hd with rfl | rfl <;> assumption) (HT.out.ext (Hb3.out.trans (halV.mono Hb3.out.size)))
      obtain ⟨x, hx⟩ : ∃ x, Ix.madeF (Ix.stemsD [(5, t), (9, U)]) = x := ⟨_, rfl⟩
      have hcan : Ix.Canon x := by rw [← hx]; exact Rk.two_canon htl4 hUl (by omega)
      have hx2 : x = Rk.two t s := by rw [← hx, ← hU]; rfl
      rw [hx] at hmade
      have hids : x.1 = [5, 9] := by rw [hx2]; exact Rk.two_ids t s
      have hmore := Rk.more_better t s (Rk.leaf_word hq0).2 (Rk.weight_pos' (hx2 ▸ hcan) _)
      rw [← hx2] at hmore
      have Hmade := Lib.hid hmade; have Hmore := Lib.hid hmore; have Hcan := Lib.hid hcan; have Hids := Lib.hid hids
      have HbV := Lib.hid (Hb3.out.trans (halV.mono Hb3.out.size)); have HQV := Lib.hid (HQ3.out.ext halV); have HqaV := Lib.hid (Hqa3.out.ext halV)
      rw [hV]
      refine Hmade.out.mono ?_
      clear hmade hmore hcan hids hx2 hx hd halV kV hsV hgV hV hbsU hUl hU q0 q1 q2 q3 run_code hgd hbig hne
      rintro e w4 ⟨a, b, rfl, ha, hb, hb4⟩
      obtain ⟨A0, c0, rfl, _, _⟩ := ha.form
      obtain ⟨A1, c1, rfl, _, _⟩ := hb.form
      have hxs : ∀ y ∈ (splitS s).map Sm.stem, y.length ≤ maxLen := by
        rw [(Rk.leaf_word hq0).1]
        intro y hy
        have hy2 : y = Sm.stem s := by simpa using hy
        rw [hy2]
        have h3 := Sm.stem_len s
        have h4 := Hts.out
        unfold maxLen
        omega
      have hxn : ((splitS s).map Sm.stem).length ≤ 10000 := by rw [(Rk.leaf_word hq0).1]; simp
      obtain ⟨n0, hn0⟩ : ∃ n, x.1.length = n := ⟨_, rfl⟩
      obtain ⟨n1, hn1⟩ : ∃ n, x.2.length = n := ⟨_, rfl⟩
      rw [hn0] at ha ⊢
      rw [hn1] at hb ⊢
      have hbw4 := HbV.out.trans (hb4.mono HbV.out.size)
      have hqa4 := HqaV.out.ext hb4
      have kQ4 := HQV.out.ext hb4
      have hsco := fun (id : Int) (hid : id ∈ x.1) W' (hW' : Below w4.heap.size w4 W') => (rankScore_ok (.slice A0 n0 c0) (.slice A1 n1 c1) _ x (.node 2 s 0 []) 0 ((splitS s).map Sm.stem) id W' (ha.ext hW') (hb.ext hW') (hqa4.ext hW') Hcan.out (Rk.canon_sz Hcan.out) (by have := Hts.out; simp [Q.bulk, Q.bulks]; omega) (HT.out.ext (hbw4.trans (hW'.mono hbw4.size))) (fun V cs _ e => by
        injection e with e
        subst e
        exact stemsIt_leaf s (by have := Hts.out; omega) 0 none 0 0 V) hxs hxn)
      have hs5 := fun W' hW' => hsco 5 (by rw [Hids.out]; simp) W' hW'
      have hs9 := fun W' hW' => hsco 9 (by rw [Hids.out]; simp) W' hW'
      rw [Rk.score_leaf Hcan.out hq0 (show (5 : Int) ∈ x.1 by rw [Hids.out]; simp)] at hs5
      rw [Rk.score_leaf Hcan.out hq0 (show (9 : Int) ∈ x.1 by rw [Hids.out]; simp)] at hs9
      obtain ⟨s5, hs5e⟩ : ∃ v, Rk.scoreF x [Sm.stem s] 5 = v := ⟨_, rfl⟩
      obtain ⟨s9, hs9e⟩ : ∃ v, Rk.scoreF x [Sm.stem s] 9 = v := ⟨_, rfl⟩
      have hmore := Hmore.out
      rw [hs5e] at hs5 hmore
      rw [hs9e] at hs9 hmore
      dsimp only at hs5 hs9
      obtain ⟨hm1, hm2⟩ := hmore
      obtain ⟨X, gX, hX, hgX, hsX, kX, halX⟩ := boxA w4 #[.slice A0 n0 c0, .slice A1 n1 c1] 32
      obtain ⟨x0, x1, _⟩ := kX.two
      obtain ⟨q0, q1, q2, q3, _⟩ := (kQ4.alloc (.cells #[.slice A0 n0 c0, .slice A1 n1 c1] 32)).fourV
      have H5 := Lib.hid (hs5 X halX); have Hs9 := Lib.hid hs9; have HX := Lib.hid hX; have HkX := Lib.hid kX; have HkQ := Lib.hid (kQ4.ext halX); have HalX := Lib.hid halX; have Hbw4 := Lib.hid hbw4
      clear hs5 hs9 hsco hX kX kQ4 halX hbw4 hsX hxs hxn ha hb hb4 hqa4 hn0 hn1 Hmore Hcan Hids HqaV HQV HbV hs5e hs9e hq0
      go_wp2_with fail
      rw [HX.out]
      refine H5.out.mono ?_
      clear H5 x0 x1 q0 q1 q2 q3 hgX HX
      rintro e w5 ⟨rfl, hb5⟩
      obtain ⟨Y, gY, hY, hgY, hsY, kY, halY⟩ := boxA w5 #[.int .i64 0, .int .i64 0] 27
      have hbXY := hb5.trans (halY.mono hb5.size)
      have H9 := Lib.hid (Hs9.out Y (HalX.out.trans (hbXY.mono HalX.out.size)))
      obtain ⟨x0, x1, _⟩ := ((HkX.out.ext hb5).alloc (.cells #[.int .i64 0, .int .i64 0] 27)).two
      obtain ⟨q0, q1, q2, q3, _⟩ := ((HkQ.out.ext hb5).alloc (.cells #[.int .i64 0, .int .i64 0] 27)).fourV
      have HY := Lib.hid hY; have HkY := Lib.hid kY; have HbY := Lib.hid (Hbw4.out.trans ((HalX.out.trans (hbXY.mono HalX.out.size)).mono Hbw4.out.size))
      clear hY kY hbXY halY hb5 hsY Hs9
      go_wp2_with fail
      rw [HY.out]
      refine H9.out.mono ?_
      clear H9 x0 x1 q0 q1 q2 q3 hgY HY
      rintro e w6 ⟨rfl, hb6⟩
      obtain ⟨z0, z1, _⟩ := ((HkY.out.ext hb6).alloc (.cells #[.int .i64 0, .int .i64 0] 27)).two
      obtain ⟨v0, v1, _⟩ := (Blk.new w6 27 #[.int .i64 0, .int .i64 0]).two
      have hge : ¬ s9 < s5 := by omega
      have HbZ := Lib.hid ((HbY.out.trans (hb6.mono HbY.out.size)).alloc (o := .cells #[.int .i64 0, .int .i64 0] 27) (Nat.le_trans HbY.out.size hb6.size))
      clear hb6
      go_wp2_with fail
      go_ret
      exact ⟨rfl, HbZ.out⟩
  · have hne : (fa != 0) = true := by simpa using hf0
    clear hf0
    go_wp2_with fail
    go_ret
    exact ⟨rfl, Hb3.out⟩
end Go.Proofs.YtiohhajkegpebaaGreatDoor

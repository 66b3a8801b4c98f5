/-
  SearchFindsWhatIsAdded: the law's walk.
-/
import Derived.Test.YtfjpedgddgbelaaGreatDoorG27
import Derived.Test.YtfjpedgddgbelaaGreatDoorSrAdd
import Derived.Test.YtfjpedgddgbelaaGreatDoorG10
import Derived.Test.YtfjpedgddgbelaaGreatDoorIxRf
import Derived.Test.YtfjpedgddgbelaaGreatDoorIxK
import Derived.Test.YtfjpedgddgbelaaGreatDoorG28
import Derived.Test.YtfjpedgddgbelaaGreatDoorG19
import Derived.Test.YtfjpedgddgbelaaGreatDoorG25
namespace Go.Proofs.YtfjpedgddgbelaaGreatDoor
open Go.RowKit
set_option linter.unusedVariables false
theorem words_le4 (t : Str) : ∀ s ∈ Sm.words t, s.length ≤ 4 * t.length := fun s hs => by
  obtain ⟨r, hr, rfl⟩ := List.mem_map.1 hs
  have h1 := Sm.wordsFrom_len (n := t.length) (cur := []) (l := t) hr (by simp)
  have h2 := Sm.lower_len r.length r (Nat.le_refl _)
  omega
def q2 (s : Str) : Q := .node 2 s 0 []
def q3 (s : Str) : Q := .node 3 s 0 []
def q4 (s : Str) : Q := .node 4 s 0 []
theorem found_one {x : Ix.Idx} (h : Ix.Canon x) {r : Q} (hf : (Q.fault r).1 = 0) {id : Int} (hid : id ∈ x.1) (hs : Sr.findsF 8 x r id = true) : (Sr.findR x r).2 = (0, 0) ∧ (Sr.findR x r).1.contains id = true := by
  unfold Sr.findR
  rw [if_neg (fun h0 => h0 ((Ix.indexF_zero x).2 h)), if_neg (fun h0 => h0 hf)]
  exact ⟨rfl, (Sr.found_mem hid).trans hs⟩
/-- what was added is found -/
theorem finds_all {x : Ix.Idx} {id : Int} {text : Str} (h0 : (Ix.addR x id text).2.1 = 0) {n : Nat} (hn : n < (Sm.words text).length) :
    ((Sr.findR (Ix.addR x id text).1 (q2 (Sm.words text)[n])).2 = (0, 0) ∧ (Sr.findR (Ix.addR x id text).1 (q2 (Sm.words text)[n])).1.contains id = true) ∧
    ((Sr.findR (Ix.addR x id text).1 (q3 (Sm.stem (Sm.words text)[n]))).2 = (0, 0) ∧ (Sr.findR (Ix.addR x id text).1 (q3 (Sm.stem (Sm.words text)[n]))).1.contains id = true) ∧
    ((Sr.findR (Ix.addR x id text).1 (q4 (Sr.phraseOf text n))).2 = (0, 0) ∧ (Sr.findR (Ix.addR x id text).1 (q4 (Sr.phraseOf text n))).1.contains id = true) := by
  obtain ⟨g1, c1, _, g4, g5⟩ := Ix.addR_good h0
  have hr := Ix.addR_room h0
  obtain ⟨a1, a2, a3, a4, a5, a6⟩ := Sr.finds_added c1 (id := id) hr.1 g5 n hn
  rw [g1]
  have hm : id ∈ (Ix.addF x id (Sm.stems text)).1 := Ix.mem_insId.2 (.inl rfl)
  exact ⟨found_one g5 a1 hm a2, found_one g5 a3 hm a4, found_one g5 a5 hm a6⟩
set_option maxRecDepth 100000 in
set_option maxHeartbeats 8000000 in
theorem sadded_ok (a b : Value) (x : Ix.Idx) (id : Int) (text : Str) (k : Int) (w : World) (hx0 : SlR intC M0 w a x.1) (hx1 : SlR termC M0 w b x.2) (hsz : SzIx x.2) (hbt : text.length ≤ 1048576) (hT : TabsU w) :
    Calls Tryz.prog 6 #[.agg #[a, b], .int .i64 id, .string (bs text), .int .i64 k] w fun e w' => e = .returned (.bool true) ∧ Below w.heap.size w w' := by
  have hbw := Below.refl w.heap.size w
  obtain ⟨A0, c0, rfl, _, _⟩ := hx0.form
  obtain ⟨A1, c1, rfl, _, _⟩ := hx1.form
  have hall := @finds_all x id text
  have s1 := Ix.addR_sz x id text
  obtain ⟨⟨⟨ai, at_⟩, z1, y1⟩, hA⟩ : ∃ r, Ix.addR x id text = r := ⟨_, rfl⟩
  rw [hA] at hall s1
  dsimp only at hall s1
  have Hall := Lib.hid @hall; have HA := Lib.hid hA; have S1 := Lib.hid s1
  have hwl := words_le4 text
  have Hwl := Lib.hid hwl
  clear hall hA s1 hwl
  obtain ⟨W0, g, hW, hg, hs, kx, hal⟩ := boxA w #[.slice A0 x.1.length c0, .slice A1 x.2.length c1] 25
  have HW := Lib.hid hW
  clear hW hs
  replace hx0 := hx0.ext hal
  replace hx1 := hx1.ext hal
  replace hT := hT.ext hal
  replace hbw := hbw.trans (hal.mono hbw.size)
  clear hal
  go_enter Tryz.func6, Tryz.ntmps6
  go_wp2_with fail
  rw [HW.out]
  refine (srchExample_ok W0 hT).mono ?_
  rintro e w1 ⟨rfl, hb1⟩
  replace hx0 := hx0.ext hb1
  replace hx1 := hx1.ext hb1
  replace hT := hT.ext hb1
  replace kx := kx.ext hb1
  replace hbw := hbw.trans (hb1.mono hbw.size)
  clear hb1
  have hc := add_ok (.slice A0 x.1.length c0) (.slice A1 x.2.length c1) x.1 x.2 id text w1 hx0 hx1 hsz hT
  unfold AddAt at hc
  rw [show Ix.addR (x.1, x.2) id text = _ from HA.out] at hc
  have Hc := Lib.hid hc
  clear hc
  obtain ⟨x0, x1, _, _, _⟩ := kx.two
  go_wp2_with fail
  clear x0 x1
  refine Hc.out.mono ?_
  rintro e w2 ⟨a1, b1, rfl, ha0, ha1, hb2⟩
  clear Hc
  dsimp only at ha0 ha1 ⊢
  obtain ⟨A2, c2, rfl, _, _⟩ := ha0.form
  obtain ⟨A3, c3, rfl, _, _⟩ := ha1.form
  replace hx0 := hx0.ext hb2
  replace hx1 := hx1.ext hb2
  replace hT := hT.ext hb2
  replace kx := kx.ext hb2
  replace hbw := hbw.trans (hb2.mono hbw.size)
  clear hb2
  clear hx0 hx1 kx
  obtain ⟨W2, g1, hW2, hg1, hs1, ka, k1, hal⟩ := boxPair w2 #[.slice A2 ai.length c2, .slice A3 at_.length c3] 25 #[.int .i64 z1, .int .i64 y1] 27
  have HW2 := Lib.hid hW2
  clear hs1 hW2
  replace hT := hT.ext hal
  replace ha0 := ha0.ext hal
  replace ha1 := ha1.ext hal
  replace hbw := hbw.trans (hal.mono hbw.size)
  clear hal
  have hc := refWords_ok text (by omega) W2 hT
  have Hc := Lib.hid hc
  clear hc
  go_wp2_with fail
  rw [HW2.out]
  refine Hc.out.mono ?_
  rintro e w3 ⟨AW, cW, L, rfl, hL, hown, hb3⟩
  clear Hc
  have hr := hown.read0
  clear hown
  replace hT := hT.ext hb3
  replace ha0 := ha0.ext hb3
  replace ha1 := ha1.ext hb3
  replace ka := ka.ext hb3
  replace k1 := k1.ext hb3
  replace hbw := hbw.trans (hb3.mono hbw.size)
  clear hb3
  have hLm := hr.len_le
  have hLB := hr.form
  obtain ⟨_, _, hv, hlc, hcm⟩ := hLB
  unfold maxLen at hLm hcm
  clear hv
  obtain ⟨t1, _, _, _, _⟩ := k1.two
  by_cases e1 : z1 = 0
  rotate_left
  · have n1 : (z1 != 0) = true := by simpa using e1
    go_wp2_with fail
    go_ret
    exact ⟨rfl, hbw⟩
  · have n1 : (z1 != 0) = false := by simpa using e1
    have hlw : IntKind.i64.wrap ((L.length : Int) - 1) = (L.length : Int) - 1 := IntWalk.i64_in _ (by omega)
    go_wp2_with fail
    refine (in_ok _ _ _ _).mono ?_
    rintro e w9 ⟨rfl, rfl⟩
    cases cI : (decide (0 ≤ k) && decide (k ≤ (L.length : Int) - 1)) with
    | false =>
      go_wp2_with fail
      go_ret
      exact ⟨rfl, hbw⟩
    | true =>
      simp only [Bool.and_eq_true, decide_eq_true_eq] at cI
      obtain ⟨n, rfl⟩ : ∃ n : Nat, k = (n : Int) := ⟨k.toNat, by omega⟩
      have hlt : n < L.length := by omega
      have hall := Hall.out e1 (n := n) (by rw [← hL.out]; exact hlt)
      have hwl := Hwl.out
      rw [show (Sm.words text)[n]'(by rw [← hL.out]; exact hlt) = L[n] by simp only [hL.out]] at hall
      obtain ⟨⟨v1, v2⟩, ⟨v3, v4⟩, ⟨v5, v6⟩⟩ := hall
      obtain ⟨bt, offt, hAW, _, _, p0, htl⟩ := hr.strAt hlt
      subst hAW
      have ht4 := (Ix.addR_room (x := x) (id := id) (t := text) (by rw [HA.out]; exact e1)).1
      have hwd0 : L[n].length ≤ 16000 := by have := hwl L[n] (by rw [← hL.out]; exact List.getElem_mem hlt); omega
      obtain ⟨wd, hwd⟩ : ∃ y, y = L[n] := ⟨_, rfl⟩
      rw [← hwd] at v1 v2 v3 v4 p0 htl hwd0
      obtain ⟨⟨L1, zz⟩, hr1⟩ : ∃ r, Sr.findR (ai, at_) (q2 wd) = r := ⟨_, rfl⟩
      rw [hr1] at v1 v2
      dsimp only at v1 v2
      subst v1
      have Hr1 := Lib.hid hr1; have Hv1 := Lib.hid v2
      clear hr1 v2
      obtain ⟨⟨L2, zz⟩, hr2⟩ : ∃ r, Sr.findR (ai, at_) (q3 (Sm.stem wd)) = r := ⟨_, rfl⟩
      rw [hr2] at v3 v4
      dsimp only at v3 v4
      subst v3
      have Hr2 := Lib.hid hr2; have Hv2 := Lib.hid v4
      clear hr2 v4
      obtain ⟨⟨L3, zz⟩, hr3⟩ : ∃ r, Sr.findR (ai, at_) (q4 (Sr.phraseOf text n)) = r := ⟨_, rfl⟩
      rw [hr3] at v5 v6
      dsimp only at v5 v6
      subst v5
      have Hr3 := Lib.hid hr3; have Hv3 := Lib.hid v6
      clear hr3 v6
      have hki : (n : Int) < (L.length : Int) := by omega
      have hk0 : (0 : Int) ≤ (n : Int) := by omega
      have hkw : IntKind.i64.wrap (n : Int) = (n : Int) := IntWalk.i64_in _ (by omega)
      have hsl := Sm.stem_len wd
      have Hwd0 := Lib.hid hwd
      clear hwd cI hwl hLm
      have hf := fun W' (hb : Below w3.heap.size w3 W') => sfind_ok (.slice A2 ai.length c2) (.slice A3 at_.length c3) (.agg #[.int .i64 2, .string (bs wd), .int .i64 0, .slice none 0 0]) (ai, at_) (q2 wd) 1 W' (ha0.ext hb) (ha1.ext hb) (qleaf W' 1 2 wd (by omega) htl) S1.out (by simp [q2, Q.bulk, Q.bulks]; omega) (hT.ext hb)
      unfold SFindAt at hf
      rw [Hr1.out] at hf
      dsimp only at hf
      have Hf := Lib.hid hf
      clear hf
      obtain ⟨x0, x1, _, _, _⟩ := ka.two
      have hSS : ∀ W', Below w3.heap.size w3 W' → W'.cell? ⟨g1, 0, none⟩ = some (.slice A2 ai.length c2) ∧ W'.cell? ⟨g1, 1, none⟩ = some (.slice A3 at_.length c3) ∧ W'.cell? ⟨bt, offt + n, none⟩ = some (.string (bs wd)) := fun W' hb => ⟨cell_ext hb x0, cell_ext hb x1, cell_ext hb p0⟩
      have HS := Lib.hid hSS
      have hS := HS.out _ (below_drewN' w3.heap.size w3 1)
      have Hp0 := Lib.hid p0
      clear hSS x0 x1 p0
      go_upto_region 7 with fail
      go_cut [12, 13] (fun v12 v13 wx => ∃ (B : Option Addr) (d : Nat) (M : List Int) (g : Nat), v12 = .slice B M.length d ∧ v13 = .pointer (some ⟨g, 0, none⟩) ∧ Hid (M = L1) ∧ Hid (SlR intC M0 wx (.slice B M.length d) M) ∧ Hid (Blk wx g 27 #[.int .i64 0, .int .i64 0]) ∧ Hid (Below w3.heap.size w3 wx))
      case first =>
        refine wp_region_D (fun W => W.cell? ⟨g1, 0, none⟩ = some (.slice A2 ai.length c2) ∧ W.cell? ⟨g1, 1, none⟩ = some (.slice A3 at_.length c3) ∧ W.cell? ⟨bt, offt + n, none⟩ = some (.string (bs wd))) (fun _ => false) (by kernel_rfl) ?_
        change anyD _ _ _ _ _ _ _ _ _ (w3.drewN 1)
        have hbc := below_drewN' w3.heap.size w3 1
        generalize w3.drewN 1 = V0 at hS hbc ⊢
        (refine anyD_light (i := 0) (v := ?_) rfl (by kernel_rfl) (by kernel_rfl) (by kernel_rfl) (by kernel_rfl) (by kernel_rfl) (fun _ _ _ h => h) (.inl ⟨by kernel_rfl, fun W9 hW9 => ?_⟩) hS ?_; rotate_left; · (obtain ⟨hw0, hw1, hw2⟩ := hW9; go_simp; rfl))
        (refine anyD_light (i := 1) (v := ?_) rfl (by kernel_rfl) (by kernel_rfl) (by kernel_rfl) (by kernel_rfl) (by kernel_rfl) (fun _ _ _ h => h) (.inl ⟨by kernel_rfl, fun W9 hW9 => ?_⟩) hS ?_; rotate_left; · (obtain ⟨hw0, hw1, hw2⟩ := hW9; go_simp; rfl))
        (refine anyD_light (i := 2) (v := ?_) rfl (by kernel_rfl) (by kernel_rfl) (by kernel_rfl) (by kernel_rfl) (by kernel_rfl) (fun _ _ _ h => h) (.inl ⟨by kernel_rfl, fun W9 hW9 => ?_⟩) hS ?_; rotate_left; · (obtain ⟨hw0, hw1, hw2⟩ := hW9; go_simp; rfl))
        (refine anyD_light (i := 3) (v := ?_) rfl (by kernel_rfl) (by kernel_rfl) (by kernel_rfl) (by kernel_rfl) (by kernel_rfl) (fun _ _ _ h => h) (.inl ⟨by kernel_rfl, fun W9 hW9 => ?_⟩) hS ?_; rotate_left; · (obtain ⟨hw0, hw1, hw2⟩ := hW9; go_simp; rfl))
        go_simp
        (refine anyD_light (i := 4) (v := ?_) rfl (by kernel_rfl) (by kernel_rfl) (by kernel_rfl) (by kernel_rfl) (by kernel_rfl) (fun _ _ _ h => h) (.inl ⟨by kernel_rfl, fun W9 hW9 => ?_⟩) hS ?_; rotate_left; · (obtain ⟨hw0, hw1, hw2⟩ := hW9; go_simp; rfl))
        (refine anyD_light (i := 5) (v := ?_) rfl (by kernel_rfl) (by kernel_rfl) (by kernel_rfl) (by kernel_rfl) (by kernel_rfl) (fun _ _ _ h => h) (.inl ⟨by kernel_rfl, fun W9 hW9 => ?_⟩) hS ?_; rotate_left; · (obtain ⟨hw0, hw1, hw2⟩ := hW9; go_simp; rfl))
        go_simp
        refine anyD_pick [6, 10] (by kernel_rfl) (by decide) ?_
        intro j hj
        simp only [List.mem_cons, List.not_mem_nil, or_false] at hj
        rcases hj with rfl | rfl
        · refine ⟨_, rfl, rfl, fun K hK => ?_⟩
          have HK := Lib.hid hK
          clear hK
          unfold Oper.wp
          go_simp
          refine (Hf.out V0 hbc).mono ?_
          rintro e V1 ⟨B, d9, M, rfl, hM, hown, hb9⟩
          replace hbc := hbc.trans (hb9.mono hbc.size)
          clear hb9 hS
          have hS := HS.out _ hbc
          refine HK.out _ _ (fun _ => hS) ?_
          clear HK
          (refine anyD_light (i := 7) (v := ?_) rfl (by kernel_rfl) (by kernel_rfl) (by kernel_rfl) (by kernel_rfl) (by kernel_rfl) (fun _ _ _ h => h) (.inl ⟨by kernel_rfl, fun W9 hW9 => ?_⟩) hS ?_; rotate_left; · (obtain ⟨hw0, hw1, hw2⟩ := hW9; go_simp; rfl))
          (refine anyD_light (i := 8) (v := ?_) rfl (by kernel_rfl) (by kernel_rfl) (by kernel_rfl) (by kernel_rfl) (by kernel_rfl) (fun _ _ _ h => h) (.inl ⟨by kernel_rfl, fun W9 hW9 => ?_⟩) hS ?_; rotate_left; · (obtain ⟨hw0, hw1, hw2⟩ := hW9; go_simp; rfl))
          (refine anyD_light (i := 9) (v := ?_) rfl (by kernel_rfl) (by kernel_rfl) (by kernel_rfl) (by kernel_rfl) (by kernel_rfl) (fun _ _ _ h => h) (.inl ⟨by kernel_rfl, fun W9 hW9 => ?_⟩) hS ?_; rotate_left; · (obtain ⟨hw0, hw1, hw2⟩ := hW9; go_simp; rfl))
          go_simp
          refine anyD_one (i := 10) (by kernel_rfl) rfl rfl (fun K hK => ?_)
          have HK := Lib.hid hK
          clear hK
          unfold Oper.wp
          go_simp
          obtain ⟨V2, g, hV, hgg, hss, kg, hb9⟩ := boxA V1 #[.int .i64 0, .int .i64 0] 27
          rw [hV, hgg]
          have Hg : Hid (g < V2.heap.size ∧ w3.heap.size ≤ g) := Lib.hid ⟨by omega, by have := hbc.size; omega⟩
          have Hne : Hid (∀ b, (Value.slice B M.length d9).ownBlock = some b → b ≠ g) := Lib.hid fun b hb => by have := hown.lt b hb; omega
          replace hown := hown.ext hb9
          clear hV hgg hss
          replace hbc := hbc.trans (hb9.mono hbc.size)
          clear hb9 hS
          have hS := HS.out _ hbc
          refine HK.out _ _ (fun _ => hS) ?_
          clear HK
          go_simp
          (refine anyD_light (i := 11) (v := ?_) rfl (by kernel_rfl) (by kernel_rfl) (by kernel_rfl) (by kernel_rfl) (by kernel_rfl) (fun _ _ _ h => h) (.inl ⟨by kernel_rfl, fun W9 hW9 => ?_⟩) hS ?_; rotate_left; · (obtain ⟨hw0, hw1, hw2⟩ := hW9; go_simp; rfl))
          go_simp
          refine anyD_one (i := 12) (by kernel_rfl) rfl rfl (fun K hK => ?_)
          have HK := Lib.hid hK
          clear hK
          obtain ⟨u0, u1, u2, u3, _⟩ := kg.two
          unfold Oper.wp
          go_simp
          obtain ⟨V9, hV9⟩ : ∃ V9, (V2.setCell ⟨g, 0, none⟩ (.int .i64 0)).setCell ⟨g, 1, none⟩ (.int .i64 0) = V9 := ⟨_, rfl⟩
          obtain ⟨r1, r2⟩ := put2 kg _ _ hV9
          have r3 := below_put2 hbc Hg.out.2 _ _ hV9
          have r4 := (hown.flatC (M' := M0) flatC_int fun b hb => r2 b (Hne.out b hb)).read0
          rw [hV9]
          clear hS
          have hS := HS.out _ r3
          refine HK.out _ _ (fun _ => hS) ?_
          clear HK
          go_simp
          refine anyD_done (by kernel_rfl) ?_ _
          clear u0 u1 u2 u3 hS kg hown
          go_wp2
          go_meet
          exact ⟨_, _, M, g, rfl, rfl, hM, Lib.hid r4, Lib.hid r1, Lib.hid r3⟩
        · refine ⟨_, rfl, rfl, fun K hK => ?_⟩
          have HK := Lib.hid hK
          clear hK
          unfold Oper.wp
          go_simp
          obtain ⟨V1, g, hV, hgg, hss, kg, hb9⟩ := boxA V0 #[.int .i64 0, .int .i64 0] 27
          rw [hV, hgg]
          have Hg : Hid (g < V1.heap.size ∧ w3.heap.size ≤ g) := Lib.hid ⟨by omega, by have := hbc.size; omega⟩
          clear hV hgg hss
          replace hbc := hbc.trans (hb9.mono hbc.size)
          clear hb9 hS
          have hS := HS.out _ hbc
          refine HK.out _ _ (fun _ => hS) ?_
          clear HK
          go_simp
          refine anyD_one (i := 6) (by kernel_rfl) rfl rfl (fun K hK => ?_)
          have HK := Lib.hid hK
          clear hK
          unfold Oper.wp
          go_simp
          refine (Hf.out V1 hbc).mono ?_
          rintro e V2 ⟨B, d9, M, rfl, hM, hown, hb9⟩
          replace kg := kg.ext hb9
          have Hne : Hid (∀ b, (Value.slice B M.length d9).ownBlock = some b → b ≠ g) := Lib.hid fun b hb => by have := hown.base b hb; have := Hg.out.1; omega
          replace Hg : Hid (g < V2.heap.size ∧ w3.heap.size ≤ g) := Lib.hid ⟨by have := Hg.out.1; have := hb9.size; omega, Hg.out.2⟩
          replace hbc := hbc.trans (hb9.mono hbc.size)
          clear hb9 hS
          have hS := HS.out _ hbc
          refine HK.out _ _ (fun _ => hS) ?_
          clear HK
          (refine anyD_light (i := 7) (v := ?_) rfl (by kernel_rfl) (by kernel_rfl) (by kernel_rfl) (by kernel_rfl) (by kernel_rfl) (fun _ _ _ h => h) (.inl ⟨by kernel_rfl, fun W9 hW9 => ?_⟩) hS ?_; rotate_left; · (obtain ⟨hw0, hw1, hw2⟩ := hW9; go_simp; rfl))
          (refine anyD_light (i := 8) (v := ?_) rfl (by kernel_rfl) (by kernel_rfl) (by kernel_rfl) (by kernel_rfl) (by kernel_rfl) (fun _ _ _ h => h) (.inl ⟨by kernel_rfl, fun W9 hW9 => ?_⟩) hS ?_; rotate_left; · (obtain ⟨hw0, hw1, hw2⟩ := hW9; go_simp; rfl))
          (refine anyD_light (i := 9) (v := ?_) rfl (by kernel_rfl) (by kernel_rfl) (by kernel_rfl) (by kernel_rfl) (by kernel_rfl) (fun _ _ _ h => h) (.inl ⟨by kernel_rfl, fun W9 hW9 => ?_⟩) hS ?_; rotate_left; · (obtain ⟨hw0, hw1, hw2⟩ := hW9; go_simp; rfl))
          go_simp
          (refine anyD_light (i := 11) (v := ?_) rfl (by kernel_rfl) (by kernel_rfl) (by kernel_rfl) (by kernel_rfl) (by kernel_rfl) (fun _ _ _ h => h) (.inl ⟨by kernel_rfl, fun W9 hW9 => ?_⟩) hS ?_; rotate_left; · (obtain ⟨hw0, hw1, hw2⟩ := hW9; go_simp; rfl))
          go_simp
          refine anyD_one (i := 12) (by kernel_rfl) rfl rfl (fun K hK => ?_)
          have HK := Lib.hid hK
          clear hK
          obtain ⟨u0, u1, u2, u3, _⟩ := kg.two
          unfold Oper.wp
          go_simp
          obtain ⟨V9, hV9⟩ : ∃ V9, (V2.setCell ⟨g, 0, none⟩ (.int .i64 0)).setCell ⟨g, 1, none⟩ (.int .i64 0) = V9 := ⟨_, rfl⟩
          obtain ⟨r1, r2⟩ := put2 kg _ _ hV9
          have r3 := below_put2 hbc Hg.out.2 _ _ hV9
          have r4 := (hown.flatC (M' := M0) flatC_int fun b hb => r2 b (Hne.out b hb)).read0
          rw [hV9]
          clear hS
          have hS := HS.out _ r3
          refine HK.out _ _ (fun _ => hS) ?_
          clear HK
          go_simp
          refine anyD_done (by kernel_rfl) ?_ _
          clear u0 u1 u2 u3 hS kg hown
          go_wp2
          go_meet
          exact ⟨_, _, M, g, rfl, rfl, hM, Lib.hid r4, Lib.hid r1, Lib.hid r3⟩
      case rest =>
      obtain ⟨B1, d1, M1, g3, rfl, rfl, hM1, hr1, hk3, hbc⟩ := hcut
      clear hS
      replace hr1 := hr1.out
      replace hk3 := hk3.out
      have p0 := cell_ext hbc.out Hp0.out
      obtain rfl : M1 = L1 := hM1.out
      obtain ⟨w4, rfl⟩ : ∃ W0, W0 = wc := ⟨_, rfl⟩
      replace hT := hT.ext hbc.out
      replace ha0 := ha0.ext hbc.out
      replace ha1 := ha1.ext hbc.out
      replace ka := ka.ext hbc.out
      replace hr := hr.ext hbc.out
      replace hbw := hbw.trans (hbc.out.mono hbw.size)
      clear hbc Hp0 HS Hf hM1
      have hst := fun V => stem_ok (Sm.mu wd) wd (Nat.le_refl _) htl V
      have Hst := Lib.hid hst
      clear hst
      have hf := fun W' (hb : Below w4.heap.size w4 W') => sfind_ok (.slice A2 ai.length c2) (.slice A3 at_.length c3) (.agg #[.int .i64 3, .string (bs (Sm.stem wd)), .int .i64 0, .slice none 0 0]) (ai, at_) (q3 (Sm.stem wd)) 1 W' (ha0.ext hb) (ha1.ext hb) (qleaf W' 1 3 (Sm.stem wd) (by omega) (Nat.le_trans hsl htl)) S1.out (by simp [q3, Q.bulk, Q.bulks]; omega) (hT.ext hb)
      unfold SFindAt at hf
      rw [Hr2.out] at hf
      dsimp only at hf
      have Hf := Lib.hid hf
      clear hf
      obtain ⟨x0, x1, _, _, _⟩ := ka.two
      have hSS : ∀ W', Below w4.heap.size w4 W' → W'.cell? ⟨g1, 0, none⟩ = some (.slice A2 ai.length c2) ∧ W'.cell? ⟨g1, 1, none⟩ = some (.slice A3 at_.length c3) ∧ W'.cell? ⟨bt, offt + n, none⟩ = some (.string (bs wd)) := fun W' hb => ⟨cell_ext hb x0, cell_ext hb x1, cell_ext hb p0⟩
      have HS := Lib.hid hSS
      have hS := HS.out _ (below_drewN' w4.heap.size w4 1)
      have Hp0 := Lib.hid p0
      clear hSS x0 x1 p0
      go_upto_region 8 with fail
      go_cut [14, 15] (fun v12 v13 wx => ∃ (B : Option Addr) (d : Nat) (M : List Int) (g : Nat), v12 = .slice B M.length d ∧ v13 = .pointer (some ⟨g, 0, none⟩) ∧ Hid (M = L2) ∧ Hid (SlR intC M0 wx (.slice B M.length d) M) ∧ Hid (Blk wx g 27 #[.int .i64 0, .int .i64 0]) ∧ Hid (Below w4.heap.size w4 wx))
      case first =>
        refine wp_region_D (fun W => W.cell? ⟨g1, 0, none⟩ = some (.slice A2 ai.length c2) ∧ W.cell? ⟨g1, 1, none⟩ = some (.slice A3 at_.length c3) ∧ W.cell? ⟨bt, offt + n, none⟩ = some (.string (bs wd))) (fun _ => false) (by kernel_rfl) ?_
        change anyD _ _ _ _ _ _ _ _ _ (w4.drewN 1)
        have hbc := below_drewN' w4.heap.size w4 1
        generalize w4.drewN 1 = V0 at hS hbc ⊢
        (refine anyD_light (i := 0) (v := ?_) rfl (by kernel_rfl) (by kernel_rfl) (by kernel_rfl) (by kernel_rfl) (by kernel_rfl) (fun _ _ _ h => h) (.inl ⟨by kernel_rfl, fun W9 hW9 => ?_⟩) hS ?_; rotate_left; · (obtain ⟨hw0, hw1, hw2⟩ := hW9; go_simp; rfl))
        (refine anyD_light (i := 1) (v := ?_) rfl (by kernel_rfl) (by kernel_rfl) (by kernel_rfl) (by kernel_rfl) (by kernel_rfl) (fun _ _ _ h => h) (.inl ⟨by kernel_rfl, fun W9 hW9 => ?_⟩) hS ?_; rotate_left; · (obtain ⟨hw0, hw1, hw2⟩ := hW9; go_simp; rfl))
        (refine anyD_light (i := 2) (v := ?_) rfl (by kernel_rfl) (by kernel_rfl) (by kernel_rfl) (by kernel_rfl) (by kernel_rfl) (fun _ _ _ h => h) (.inl ⟨by kernel_rfl, fun W9 hW9 => ?_⟩) hS ?_; rotate_left; · (obtain ⟨hw0, hw1, hw2⟩ := hW9; go_simp; rfl))
        (refine anyD_light (i := 3) (v := ?_) rfl (by kernel_rfl) (by kernel_rfl) (by kernel_rfl) (by kernel_rfl) (by kernel_rfl) (fun _ _ _ h => h) (.inl ⟨by kernel_rfl, fun W9 hW9 => ?_⟩) hS ?_; rotate_left; · (obtain ⟨hw0, hw1, hw2⟩ := hW9; go_simp; rfl))
        go_simp
        (refine anyD_light (i := 4) (v := ?_) rfl (by kernel_rfl) (by kernel_rfl) (by kernel_rfl) (by kernel_rfl) (by kernel_rfl) (fun _ _ _ h => h) (.inl ⟨by kernel_rfl, fun W9 hW9 => ?_⟩) hS ?_; rotate_left; · (obtain ⟨hw0, hw1, hw2⟩ := hW9; go_simp; rfl))
        go_simp
        refine anyD_pick [5, 11] (by kernel_rfl) (by decide) ?_
        intro j hj
        simp only [List.mem_cons, List.not_mem_nil, or_false] at hj
        rcases hj with rfl | rfl
        · refine ⟨_, rfl, rfl, fun K hK => ?_⟩
          have HK := Lib.hid hK
          clear hK
          unfold Oper.wp
          go_simp
          refine (Hst.out V0).mono ?_
          rintro e V1 ⟨rfl, hb9⟩
          replace hbc := hbc.trans (hb9.mono hbc.size)
          clear hb9 hS
          have hS := HS.out _ hbc
          refine HK.out _ _ (fun _ => hS) ?_
          clear HK
          (refine anyD_light (i := 6) (v := ?_) rfl (by kernel_rfl) (by kernel_rfl) (by kernel_rfl) (by kernel_rfl) (by kernel_rfl) (fun _ _ _ h => h) (.inl ⟨by kernel_rfl, fun W9 hW9 => ?_⟩) hS ?_; rotate_left; · (obtain ⟨hw0, hw1, hw2⟩ := hW9; go_simp; rfl))
          go_simp
          refine anyD_pick [7, 11] (by kernel_rfl) (by decide) ?_
          intro j hj
          simp only [List.mem_cons, List.not_mem_nil, or_false] at hj
          rcases hj with rfl | rfl
          · refine ⟨_, rfl, rfl, fun K hK => ?_⟩
            have HK := Lib.hid hK
            clear hK
            unfold Oper.wp
            go_simp
            refine (Hf.out V1 hbc).mono ?_
            rintro e V2 ⟨B, d9, M, rfl, hM, hown, hb9⟩
            replace hbc := hbc.trans (hb9.mono hbc.size)
            clear hb9 hS
            have hS := HS.out _ hbc
            refine HK.out _ _ (fun _ => hS) ?_
            clear HK
            (refine anyD_light (i := 8) (v := ?_) rfl (by kernel_rfl) (by kernel_rfl) (by kernel_rfl) (by kernel_rfl) (by kernel_rfl) (fun _ _ _ h => h) (.inl ⟨by kernel_rfl, fun W9 hW9 => ?_⟩) hS ?_; rotate_left; · (obtain ⟨hw0, hw1, hw2⟩ := hW9; go_simp; rfl))
            (refine anyD_light (i := 9) (v := ?_) rfl (by kernel_rfl) (by kernel_rfl) (by kernel_rfl) (by kernel_rfl) (by kernel_rfl) (fun _ _ _ h => h) (.inl ⟨by kernel_rfl, fun W9 hW9 => ?_⟩) hS ?_; rotate_left; · (obtain ⟨hw0, hw1, hw2⟩ := hW9; go_simp; rfl))
            (refine anyD_light (i := 10) (v := ?_) rfl (by kernel_rfl) (by kernel_rfl) (by kernel_rfl) (by kernel_rfl) (by kernel_rfl) (fun _ _ _ h => h) (.inl ⟨by kernel_rfl, fun W9 hW9 => ?_⟩) hS ?_; rotate_left; · (obtain ⟨hw0, hw1, hw2⟩ := hW9; go_simp; rfl))
            go_simp
            refine anyD_one (i := 11) (by kernel_rfl) rfl rfl (fun K hK => ?_)
            have HK := Lib.hid hK
            clear hK
            unfold Oper.wp
            go_simp
            obtain ⟨V3, g, hV, hgg, hss, kg, hb9⟩ := boxA V2 #[.int .i64 0, .int .i64 0] 27
            rw [hV, hgg]
            have Hg : Hid (g < V3.heap.size ∧ w4.heap.size ≤ g) := Lib.hid ⟨by omega, by have := hbc.size; omega⟩
            have Hne : Hid (∀ b, (Value.slice B M.length d9).ownBlock = some b → b ≠ g) := Lib.hid fun b hb => by have := hown.lt b hb; omega
            replace hown := hown.ext hb9
            clear hV hgg hss
            replace hbc := hbc.trans (hb9.mono hbc.size)
            clear hb9 hS
            have hS := HS.out _ hbc
            refine HK.out _ _ (fun _ => hS) ?_
            clear HK
            go_simp
            (refine anyD_light (i := 12) (v := ?_) rfl (by kernel_rfl) (by kernel_rfl) (by kernel_rfl) (by kernel_rfl) (by kernel_rfl) (fun _ _ _ h => h) (.inl ⟨by kernel_rfl, fun W9 hW9 => ?_⟩) hS ?_; rotate_left; · (obtain ⟨hw0, hw1, hw2⟩ := hW9; go_simp; rfl))
            go_simp
            refine anyD_one (i := 13) (by kernel_rfl) rfl rfl (fun K hK => ?_)
            have HK := Lib.hid hK
            clear hK
            obtain ⟨u0, u1, u2, u3, _⟩ := kg.two
            unfold Oper.wp
            go_simp
            obtain ⟨V9, hV9⟩ : ∃ V9, (V3.setCell ⟨g, 0, none⟩ (.int .i64 0)).setCell ⟨g, 1, none⟩ (.int .i64 0) = V9 := ⟨_, rfl⟩
            obtain ⟨r1, r2⟩ := put2 kg _ _ hV9
            have r3 := below_put2 hbc Hg.out.2 _ _ hV9
            have r4 := (hown.flatC (M' := M0) flatC_int fun b hb => r2 b (Hne.out b hb)).read0
            rw [hV9]
            clear hS
            have hS := HS.out _ r3
            refine HK.out _ _ (fun _ => hS) ?_
            clear HK
            go_simp
            refine anyD_done (by kernel_rfl) ?_ _
            clear u0 u1 u2 u3 hS kg hown
            go_wp2
            go_meet
            exact ⟨_, _, M, g, rfl, rfl, hM, Lib.hid r4, Lib.hid r1, Lib.hid r3⟩
          · refine ⟨_, rfl, rfl, fun K hK => ?_⟩
            have HK := Lib.hid hK
            clear hK
            unfold Oper.wp
            go_simp
            obtain ⟨V2, g, hV, hgg, hss, kg, hb9⟩ := boxA V1 #[.int .i64 0, .int .i64 0] 27
            rw [hV, hgg]
            have Hg : Hid (g < V2.heap.size ∧ w4.heap.size ≤ g) := Lib.hid ⟨by omega, by have := hbc.size; omega⟩
            clear hV hgg hss
            replace hbc := hbc.trans (hb9.mono hbc.size)
            clear hb9 hS
            have hS := HS.out _ hbc
            refine HK.out _ _ (fun _ => hS) ?_
            clear HK
            go_simp
            refine anyD_one (i := 7) (by kernel_rfl) rfl rfl (fun K hK => ?_)
            have HK := Lib.hid hK
            clear hK
            unfold Oper.wp
            go_simp
            refine (Hf.out V2 hbc).mono ?_
            rintro e V3 ⟨B, d9, M, rfl, hM, hown, hb9⟩
            replace kg := kg.ext hb9
            have Hne : Hid (∀ b, (Value.slice B M.length d9).ownBlock = some b → b ≠ g) := Lib.hid fun b hb => by have := hown.base b hb; have := Hg.out.1; omega
            replace Hg : Hid (g < V3.heap.size ∧ w4.heap.size ≤ g) := Lib.hid ⟨by have := Hg.out.1; have := hb9.size; omega, Hg.out.2⟩
            replace hbc := hbc.trans (hb9.mono hbc.size)
            clear hb9 hS
            have hS := HS.out _ hbc
            refine HK.out _ _ (fun _ => hS) ?_
            clear HK
            (refine anyD_light (i := 8) (v := ?_) rfl (by kernel_rfl) (by kernel_rfl) (by kernel_rfl) (by kernel_rfl) (by kernel_rfl) (fun _ _ _ h => h) (.inl ⟨by kernel_rfl, fun W9 hW9 => ?_⟩) hS ?_; rotate_left; · (obtain ⟨hw0, hw1, hw2⟩ := hW9; go_simp; rfl))
            (refine anyD_light (i := 9) (v := ?_) rfl (by kernel_rfl) (by kernel_rfl) (by kernel_rfl) (by kernel_rfl) (by kernel_rfl) (fun _ _ _ h => h) (.inl ⟨by kernel_rfl, fun W9 hW9 => ?_⟩) hS ?_; rotate_left; · (obtain ⟨hw0, hw1, hw2⟩ := hW9; go_simp; rfl))
            (refine anyD_light (i := 10) (v := ?_) rfl (by kernel_rfl) (by kernel_rfl) (by kernel_rfl) (by kernel_rfl) (by kernel_rfl) (fun _ _ _ h => h) (.inl ⟨by kernel_rfl, fun W9 hW9 => ?_⟩) hS ?_; rotate_left; · (obtain ⟨hw0, hw1, hw2⟩ := hW9; go_simp; rfl))
            go_simp
            (refine anyD_light (i := 12) (v := ?_) rfl (by kernel_rfl) (by kernel_rfl) (by kernel_rfl) (by kernel_rfl) (by kernel_rfl) (fun _ _ _ h => h) (.inl ⟨by kernel_rfl, fun W9 hW9 => ?_⟩) hS ?_; rotate_left; · (obtain ⟨hw0, hw1, hw2⟩ := hW9; go_simp; rfl))
            go_simp
            refine anyD_one (i := 13) (by kernel_rfl) rfl rfl (fun K hK => ?_)
            have HK := Lib.hid hK
            clear hK
            obtain ⟨u0, u1, u2, u3, _⟩ := kg.two
            unfold Oper.wp
            go_simp
            obtain ⟨V9, hV9⟩ : ∃ V9, (V3.setCell ⟨g, 0, none⟩ (.int .i64 0)).setCell ⟨g, 1, none⟩ (.int .i64 0) = V9 := ⟨_, rfl⟩
            obtain ⟨r1, r2⟩ := put2 kg _ _ hV9
            have r3 := below_put2 hbc Hg.out.2 _ _ hV9
            have r4 := (hown.flatC (M' := M0) flatC_int fun b hb => r2 b (Hne.out b hb)).read0
            rw [hV9]
            clear hS
            have hS := HS.out _ r3
            refine HK.out _ _ (fun _ => hS) ?_
            clear HK
            go_simp
            refine anyD_done (by kernel_rfl) ?_ _
            clear u0 u1 u2 u3 hS kg hown
            go_wp2
            go_meet
            exact ⟨_, _, M, g, rfl, rfl, hM, Lib.hid r4, Lib.hid r1, Lib.hid r3⟩
        · refine ⟨_, rfl, rfl, fun K hK => ?_⟩
          have HK := Lib.hid hK
          clear hK
          unfold Oper.wp
          go_simp
          obtain ⟨V1, g, hV, hgg, hss, kg, hb9⟩ := boxA V0 #[.int .i64 0, .int .i64 0] 27
          rw [hV, hgg]
          have Hg : Hid (g < V1.heap.size ∧ w4.heap.size ≤ g) := Lib.hid ⟨by omega, by have := hbc.size; omega⟩
          clear hV hgg hss
          replace hbc := hbc.trans (hb9.mono hbc.size)
          clear hb9 hS
          have hS := HS.out _ hbc
          refine HK.out _ _ (fun _ => hS) ?_
          clear HK
          go_simp
          refine anyD_one (i := 5) (by kernel_rfl) rfl rfl (fun K hK => ?_)
          have HK := Lib.hid hK
          clear hK
          unfold Oper.wp
          go_simp
          refine (Hst.out V1).mono ?_
          rintro e V2 ⟨rfl, hb9⟩
          replace kg := kg.ext hb9
          replace Hg : Hid (g < V2.heap.size ∧ w4.heap.size ≤ g) := Lib.hid ⟨by have := Hg.out.1; have := hb9.size; omega, Hg.out.2⟩
          replace hbc := hbc.trans (hb9.mono hbc.size)
          clear hb9 hS
          have hS := HS.out _ hbc
          refine HK.out _ _ (fun _ => hS) ?_
          clear HK
          (refine anyD_light (i := 6) (v := ?_) rfl (by kernel_rfl) (by kernel_rfl) (by kernel_rfl) (by kernel_rfl) (by kernel_rfl) (fun _ _ _ h => h) (.inl ⟨by kernel_rfl, fun W9 hW9 => ?_⟩) hS ?_; rotate_left; · (obtain ⟨hw0, hw1, hw2⟩ := hW9; go_simp; rfl))
          go_simp
          refine anyD_one (i := 7) (by kernel_rfl) rfl rfl (fun K hK => ?_)
          have HK := Lib.hid hK
          clear hK
          unfold Oper.wp
          go_simp
          refine (Hf.out V2 hbc).mono ?_
          rintro e V3 ⟨B, d9, M, rfl, hM, hown, hb9⟩
          replace kg := kg.ext hb9
          have Hne : Hid (∀ b, (Value.slice B M.length d9).ownBlock = some b → b ≠ g) := Lib.hid fun b hb => by have := hown.base b hb; have := Hg.out.1; omega
          replace Hg : Hid (g < V3.heap.size ∧ w4.heap.size ≤ g) := Lib.hid ⟨by have := Hg.out.1; have := hb9.size; omega, Hg.out.2⟩
          replace hbc := hbc.trans (hb9.mono hbc.size)
          clear hb9 hS
          have hS := HS.out _ hbc
          refine HK.out _ _ (fun _ => hS) ?_
          clear HK
          (refine anyD_light (i := 8) (v := ?_) rfl (by kernel_rfl) (by kernel_rfl) (by kernel_rfl) (by kernel_rfl) (by kernel_rfl) (fun _ _ _ h => h) (.inl ⟨by kernel_rfl, fun W9 hW9 => ?_⟩) hS ?_; rotate_left; · (obtain ⟨hw0, hw1, hw2⟩ := hW9; go_simp; rfl))
          (refine anyD_light (i := 9) (v := ?_) rfl (by kernel_rfl) (by kernel_rfl) (by kernel_rfl) (by kernel_rfl) (by kernel_rfl) (fun _ _ _ h => h) (.inl ⟨by kernel_rfl, fun W9 hW9 => ?_⟩) hS ?_; rotate_left; · (obtain ⟨hw0, hw1, hw2⟩ := hW9; go_simp; rfl))
          (refine anyD_light (i := 10) (v := ?_) rfl (by kernel_rfl) (by kernel_rfl) (by kernel_rfl) (by kernel_rfl) (by kernel_rfl) (fun _ _ _ h => h) (.inl ⟨by kernel_rfl, fun W9 hW9 => ?_⟩) hS ?_; rotate_left; · (obtain ⟨hw0, hw1, hw2⟩ := hW9; go_simp; rfl))
          go_simp
          (refine anyD_light (i := 12) (v := ?_) rfl (by kernel_rfl) (by kernel_rfl) (by kernel_rfl) (by kernel_rfl) (by kernel_rfl) (fun _ _ _ h => h) (.inl ⟨by kernel_rfl, fun W9 hW9 => ?_⟩) hS ?_; rotate_left; · (obtain ⟨hw0, hw1, hw2⟩ := hW9; go_simp; rfl))
          go_simp
          refine anyD_one (i := 13) (by kernel_rfl) rfl rfl (fun K hK => ?_)
          have HK := Lib.hid hK
          clear hK
          obtain ⟨u0, u1, u2, u3, _⟩ := kg.two
          unfold Oper.wp
          go_simp
          obtain ⟨V9, hV9⟩ : ∃ V9, (V3.setCell ⟨g, 0, none⟩ (.int .i64 0)).setCell ⟨g, 1, none⟩ (.int .i64 0) = V9 := ⟨_, rfl⟩
          obtain ⟨r1, r2⟩ := put2 kg _ _ hV9
          have r3 := below_put2 hbc Hg.out.2 _ _ hV9
          have r4 := (hown.flatC (M' := M0) flatC_int fun b hb => r2 b (Hne.out b hb)).read0
          rw [hV9]
          clear hS
          have hS := HS.out _ r3
          refine HK.out _ _ (fun _ => hS) ?_
          clear HK
          go_simp
          refine anyD_done (by kernel_rfl) ?_ _
          clear u0 u1 u2 u3 hS kg hown
          go_wp2
          go_meet
          exact ⟨_, _, M, g, rfl, rfl, hM, Lib.hid r4, Lib.hid r1, Lib.hid r3⟩
      case rest =>
      obtain ⟨B2, d2, M2, g4, rfl, rfl, hM2, hr2, hk4, hbc⟩ := hcut
      clear hS
      replace hr2 := hr2.out
      replace hk4 := hk4.out
      have p0 := cell_ext hbc.out Hp0.out
      obtain rfl : M2 = L2 := hM2.out
      obtain ⟨w5, rfl⟩ : ∃ W0, W0 = wc := ⟨_, rfl⟩
      replace hT := hT.ext hbc.out
      replace ha0 := ha0.ext hbc.out
      replace ha1 := ha1.ext hbc.out
      replace ka := ka.ext hbc.out
      replace hr := hr.ext hbc.out
      replace hr1 := hr1.ext hbc.out
      replace hk3 := hk3.ext hbc.out
      replace hbw := hbw.trans (hbc.out.mono hbw.size)
      clear hbc Hp0 HS Hf hM2 Hst
      have p1i : (n : Int) + 1 ≤ 9223372036854775807 := by omega
      have hwl := words_le4 text
      by_cases h2 : n + 1 < L.length
      · skip
        obtain ⟨m, hm⟩ : ∃ m : Nat, m = n + 1 := ⟨_, rfl⟩
        have hkw1 : IntKind.i64.wrap ((n : Int) + 1) = (m : Int) := by rw [hm]; exact IntWalk.i64_in _ (by omega)
        have hmi : (m : Int) < (L.length : Int) := by omega
        have hm0 : (0 : Int) ≤ (m : Int) := by omega
        obtain ⟨bt2, offt2, hA2, _, _, p1, htl2⟩ := hr.strAt (k := m) (by omega)
        cases hA2
        have hwd2 : L[m].length ≤ 16000 := by have := hwl L[m] (by rw [← hL.out]; exact List.getElem_mem _); omega
        have hph : Sr.phraseOf text n = wd ++ [32] ++ L[m] := by
          unfold Sr.phraseOf
          have hLo := hL.out
          subst hm
          rw [dif_pos (by rw [← hLo]; exact h2)]
          simp only [← hLo]
          rw [List.getD_eq_getElem?_getD, List.getElem?_eq_getElem hlt, Option.getD_some, ← Hwd0.out]
        obtain ⟨wd2, hwd2e⟩ : ∃ y, y = L[m] := ⟨_, rfl⟩
        rw [← hwd2e] at p1 htl2 hwd2 hph
        have hln : (9223372036854775807 < wd.length + 1) = False := by simp; omega
        have hln2 : (9223372036854775807 < wd.length + 1 + wd2.length) = False := by simp; omega
        clear hwd2e hm
        have hr3 := Hr3.out
        rw [hph] at hr3
        have hpl : (wd ++ [32] ++ wd2).length ≤ 40000 := by simp only [List.length_append, List.length_cons, List.length_nil]; omega
        have hc := sfind_ok (.slice A2 ai.length c2) (.slice A3 at_.length c3) (.agg #[.int .i64 4, .string (bs (wd ++ [32] ++ wd2)), .int .i64 0, .slice none 0 0]) (ai, at_) (q4 (wd ++ [32] ++ wd2)) 1 w5 ha0 ha1 (qleaf w5 1 4 (wd ++ [32] ++ wd2) (by omega) (by unfold maxLen; omega)) S1.out (by simp only [q4, Q.bulk, Q.bulks]; omega) hT
        unfold SFindAt at hc
        rw [hr3] at hc
        dsimp only at hc
        have Hc := Lib.hid hc
        clear hc hr3 hph hpl hwl h2
        obtain ⟨x0, x1, _, _, _⟩ := ka.two
        go_wp2_with fail
        clear x0 x1
        refine Hc.out.mono ?_
        rintro e w6 ⟨B3, d3, M3, rfl, hM3, hown, hb6⟩
        clear Hc
        have hr3 := hown.read0
        clear hown
        obtain rfl : M3 = L3 := hM3.out
        clear hM3
        replace hr1 := hr1.ext hb6
        replace hr2 := hr2.ext hb6
        replace hk3 := hk3.ext hb6
        replace hk4 := hk4.ext hb6
        replace hbw := hbw.trans (hb6.mono hbw.size)
        clear hb6
        obtain ⟨W6, g6, hW6, hg6, hs6, hk6, hal⟩ := boxA w6 #[.int .i64 0, .int .i64 0] 27
        have HW6 := Lib.hid hW6
        clear hs6
        replace hr1 := hr1.ext hal
        replace hr2 := hr2.ext hal
        replace hr3 := hr3.ext hal
        replace hk3 := hk3.ext hal
        replace hk4 := hk4.ext hal
        replace hbw := hbw.trans (hal.mono hbw.size)
        clear hal
        obtain ⟨t3, _, _, _, _⟩ := hk3.two
        rw [← hW6] at t3
        obtain ⟨t4, _, _, _, _⟩ := hk4.two
        rw [← hW6] at t4
        obtain ⟨t6, _, _, _, _⟩ := hk6.two
        rw [← hW6] at t6
        clear hW6
        have hh1 := refHas_ok M0 _ M1 id W6 hr1
        rw [Hv1.out] at hh1
        have Hh1 := Lib.hid hh1
        clear hh1
        have hh2 := refHas_ok M0 _ M2 id W6 hr2
        rw [Hv2.out] at hh2
        have Hh2 := Lib.hid hh2
        clear hh2
        have hh3 := refHas_ok M0 _ M3 id W6 hr3
        rw [Hv3.out] at hh3
        have Hh3 := Lib.hid hh3
        clear hh3
        go_wp2_with fail
        rw [HW6.out]
        clear t3 t4 t6
        refine Hh1.out.mono ?_
        rintro e w9 ⟨rfl, rfl⟩
        go_wp2_with fail
        refine Hh2.out.mono ?_
        rintro e w9 ⟨rfl, rfl⟩
        go_wp2_with fail
        refine Hh3.out.mono ?_
        rintro e w9 ⟨rfl, rfl⟩
        go_wp2_with fail
        go_ret
        exact ⟨rfl, hbw⟩
      · skip
        have hkw1 : IntKind.i64.wrap ((n : Int) + 1) = (n : Int) + 1 := IntWalk.i64_in _ (by omega)
        have hmi : ¬ ((n : Int) + 1 < (L.length : Int)) := by omega
        have hph : Sr.phraseOf text n = wd := by
          unfold Sr.phraseOf
          have hLo := hL.out
          rw [dif_neg (by rw [← hLo]; exact h2)]
          rw [← hLo, List.getD_eq_getElem?_getD, List.getElem?_eq_getElem hlt, Option.getD_some, ← Hwd0.out]
        have hr3 := Hr3.out
        rw [hph] at hr3
        have hpl : wd.length ≤ 40000 := by omega
        have hc := sfind_ok (.slice A2 ai.length c2) (.slice A3 at_.length c3) (.agg #[.int .i64 4, .string (bs wd), .int .i64 0, .slice none 0 0]) (ai, at_) (q4 wd) 1 w5 ha0 ha1 (qleaf w5 1 4 wd (by omega) (by unfold maxLen; omega)) S1.out (by simp only [q4, Q.bulk, Q.bulks]; omega) hT
        unfold SFindAt at hc
        rw [hr3] at hc
        dsimp only at hc
        have Hc := Lib.hid hc
        clear hc hr3 hph hpl hwl h2
        obtain ⟨x0, x1, _, _, _⟩ := ka.two
        go_wp2_with fail
        clear x0 x1
        refine Hc.out.mono ?_
        rintro e w6 ⟨B3, d3, M3, rfl, hM3, hown, hb6⟩
        clear Hc
        have hr3 := hown.read0
        clear hown
        obtain rfl : M3 = L3 := hM3.out
        clear hM3
        replace hr1 := hr1.ext hb6
        replace hr2 := hr2.ext hb6
        replace hk3 := hk3.ext hb6
        replace hk4 := hk4.ext hb6
        replace hbw := hbw.trans (hb6.mono hbw.size)
        clear hb6
        obtain ⟨W6, g6, hW6, hg6, hs6, hk6, hal⟩ := boxA w6 #[.int .i64 0, .int .i64 0] 27
        have HW6 := Lib.hid hW6
        clear hs6
        replace hr1 := hr1.ext hal
        replace hr2 := hr2.ext hal
        replace hr3 := hr3.ext hal
        replace hk3 := hk3.ext hal
        replace hk4 := hk4.ext hal
        replace hbw := hbw.trans (hal.mono hbw.size)
        clear hal
        obtain ⟨t3, _, _, _, _⟩ := hk3.two
        rw [← hW6] at t3
        obtain ⟨t4, _, _, _, _⟩ := hk4.two
        rw [← hW6] at t4
        obtain ⟨t6, _, _, _, _⟩ := hk6.two
        rw [← hW6] at t6
        clear hW6
        have hh1 := refHas_ok M0 _ M1 id W6 hr1
        rw [Hv1.out] at hh1
        have Hh1 := Lib.hid hh1
        clear hh1
        have hh2 := refHas_ok M0 _ M2 id W6 hr2
        rw [Hv2.out] at hh2
        have Hh2 := Lib.hid hh2
        clear hh2
        have hh3 := refHas_ok M0 _ M3 id W6 hr3
        rw [Hv3.out] at hh3
        have Hh3 := Lib.hid hh3
        clear hh3
        go_wp2_with fail
        rw [HW6.out]
        clear t3 t4 t6
        refine Hh1.out.mono ?_
        rintro e w9 ⟨rfl, rfl⟩
        go_wp2_with fail
        refine Hh2.out.mono ?_
        rintro e w9 ⟨rfl, rfl⟩
        go_wp2_with fail
        refine Hh3.out.mono ?_
        rintro e w9 ⟨rfl, rfl⟩
        go_wp2_with fail
        go_ret
        exact ⟨rfl, hbw⟩
end Go.Proofs.YtfjpedgddgbelaaGreatDoor

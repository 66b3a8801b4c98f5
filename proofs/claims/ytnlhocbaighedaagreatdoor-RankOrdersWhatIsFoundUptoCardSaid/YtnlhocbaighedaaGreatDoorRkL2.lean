/-
  RankOrdersWhatIsFound: the law's walk.
-/
import Derived.Test.YtnlhocbaighedaaGreatDoorRkLa
import Derived.Test.YtnlhocbaighedaaGreatDoorR23
import Derived.Test.YtnlhocbaighedaaGreatDoorIxRf
import Derived.Test.YtnlhocbaighedaaGreatDoorR3
import Derived.Deep.CutRange
namespace Go.Proofs.YtnlhocbaighedaaGreatDoor
open Go.RowKit
set_option linter.unusedVariables false
theorem run_eql_fault' (a b : Int) (w : World) : (binOp .eql 30 (.agg #[.int .i64 a, .int .i64 b]) (.agg #[.int .i64 a, .int .i64 b])).run Tryz.prog w = .ok (.bool true) w := by
  simp [go_sem]
set_option maxRecDepth 100000 in
set_option maxHeartbeats 8000000 in
theorem rorders_ok (a b qv : Value) (ids : List Int) (ts : List Ix.Term) (f : Nat) (q : Q) (w : World) (h0 : SlR intC M0 w a ids) (h1 : SlR termC M0 w b ts) (hqv : QAt f M0 w qv q) (hsz : SzIx ts) (hbk : q.bulk ≤ 1048576) (hT : TabsU w) :
    Calls Tryz.prog 4 #[.agg #[a, b], qv] w fun e w' => e = .returned (.bool true) ∧ Below w.heap.size w w' := by
  obtain ⟨A0, c0, rfl, _, _⟩ := h0.form
  obtain ⟨A1, c1, rfl, _, _⟩ := h1.form
  have hq := hqv
  obtain ⟨Aq, cq, rfl, _, _, _, _⟩ := hq
  obtain ⟨ql, hql⟩ : ∃ n, q.parts.length = n := ⟨_, rfl⟩
  rw [hql] at hqv ⊢
  have hpar := @findR_parts (ids, ts) q
  obtain ⟨xs, hxs⟩ : ∃ l, Rk.stemsQ f q = l := ⟨_, rfl⟩
  have hxl : xs.length ≤ 1048576 ∧ ∀ s ∈ xs, s.length ≤ 1048576 := by
    have := Rk.stemsQ_len f q
    rw [hxs] at this
    exact ⟨by omega, fun s hs => by have := this.2 s hs; omega⟩
  obtain ⟨W0, g, hW, hg, hs, kx, kq, hal⟩ := boxPair w #[.slice A0 ids.length c0, .slice A1 ts.length c1] 25 #[.int .i64 q.kind, .string (bs q.text), .int .i64 q.num, .slice Aq ql cq] 28
  replace h0 := h0.ext hal
  replace h1 := h1.ext hal
  replace hqv := hqv.ext hal
  replace hT := hT.ext hal
  have hcan : (Sr.findR (ids, ts) q).2.1 = 0 → Ix.Canon (ids, ts) := fun h => (hpar h).1
  have hit : ∀ (W V : World) (cs : Array Value), Below W0.heap.size W0 W → Below W.heap.size W V → (Value.agg #[.int .i64 q.kind, .string (bs q.text), .int .i64 q.num, .slice Aq ql cq]) = .agg cs → StemsIt cs xs V := fun W V cs hb hb' e => by
    have := stemsIt_any cs f q (by omega) V (by rw [← e]; exact (hqv.ext hb).ext hb')
    rwa [hxs] at this
  have hscr := fun (id : Int) W (hb : Below W0.heap.size W0 W) => rankScore_ok (.slice A0 ids.length c0) (.slice A1 ts.length c1) _ (ids, ts) q f xs id W (h0.ext hb) (h1.ext hb) (hqv.ext hb) hcan hsz (by omega) (hT.ext hb) (fun V cs hb' e => hit W V cs hb hb' e) (fun s hs => by have := hxl.2 s hs; unfold maxLen; omega) (by omega)
  have hsorts : SortsL (Rk.ordF (ids, ts) (Rk.countF xs)) (Sr.findR (ids, ts) q).1 := sortsAny _ _ (fun i j => Rk.ord_key (ids, ts) (Rk.countF xs) i j) _ (Rk.findR_few (ids, ts) q)
  have hord := fun W (hb : Below W0.heap.size W0 W) => rankOrder_ok (.slice A0 ids.length c0) (.slice A1 ts.length c1) _ (ids, ts) q f xs W (h0.ext hb) (h1.ext hb) (hqv.ext hb) hcan hsz (by omega) (hT.ext hb) (fun V cs hb' e => hit W V cs hb hb' e) (fun s hs => by have := hxl.2 s hs; unfold maxLen; omega) (by omega) hsorts
  have hfi := fun W (hb : Below W0.heap.size W0 W) => sfind_ok (.slice A0 ids.length c0) (.slice A1 ts.length c1) _ (ids, ts) q f W (h0.ext hb) (h1.ext hb) (hqv.ext hb) hsz (by omega) (hT.ext hb)
  unfold SFindAt at hfi
  have hex := rankExample_ok W0 hT
  have hz := Rk.findR_zero (ids, ts) q
  obtain ⟨⟨Lf, fi, fj⟩, hR⟩ : ∃ r, Sr.findR (ids, ts) q = r := ⟨_, rfl⟩
  have hso : Rk.orderR (ids, ts) q xs = if fi ≠ 0 then ([], fi, fj) else (Rk.sinkF (Rk.ordF (ids, ts) (Rk.countF xs)) Lf, 0, 0) := by unfold Rk.orderR; rw [hR]
  have hss : fi = 0 → ∀ id, ids.contains id = true → Rk.scoreR (ids, ts) q xs id = (Rk.scoreF (ids, ts) (Rk.countF xs) id, 0, 0) := fun h0 id hc => by unfold Rk.scoreR; rw [hR, if_neg (by simpa using h0), if_pos hc]
  rw [hR] at hpar hz
  dsimp only at hpar hz
  simp only [hR] at hfi
  obtain ⟨⟨Lo, oi, oj⟩, hO⟩ : ∃ r, Rk.orderR (ids, ts) q xs = r := ⟨_, rfl⟩
  simp only [hO] at hord
  rw [hO] at hso
  have hoo : oi = fi ∧ oj = fj := by
    by_cases h : fi = 0
    · rw [if_neg (by simpa using h)] at hso
      have h2 := hz h
      simp only [Prod.mk.injEq] at hso
      exact ⟨by rw [hso.2.1, h], by rw [hso.2.2, h2]⟩
    · rw [if_pos h] at hso
      simp only [Prod.mk.injEq] at hso
      exact hso.2
  obtain ⟨rfl, rfl⟩ := hoo
  obtain ⟨x0, x1, _⟩ := kx.two
  obtain ⟨p0, p1, p2, p3, _⟩ := kq.four
  have HW := Lib.hid hW; have Hscr := Lib.hid hscr; have Hord := Lib.hid hord; have Hfi := Lib.hid hfi; have Hex := Lib.hid hex; have Hso := Lib.hid hso; have Hss := Lib.hid hss
  have Hk := Lib.hid (And.intro kx (And.intro kq hal))
  have Hpar := Lib.hid hpar; have Hz := Lib.hid hz
  clear hW hs hscr hord hfi hex hso hss kx kq hal h0 h1 hqv hpar hxs hR hO hql hT hit hsorts hcan hxl hz hsz
  go_enter Tryz.func4, Tryz.ntmps4
  go_wp2_with fail
  rw [HW.out]
  clear x0 x1 p0 p1 p2 p3
  refine Hex.out.mono ?_
  clear Hex
  rintro e w1 ⟨rfl, hb1⟩
  obtain ⟨x0, x1, _⟩ := (Hk.out.1.ext hb1).two
  obtain ⟨p0, p1, p2, p3, _⟩ := (Hk.out.2.1.ext hb1).four
  have Hord1 := Lib.hid (Hord.out w1 hb1); have Hb1 := Lib.hid hb1
  clear hb1 Hord
  go_wp2_with fail
  clear x0 x1 p0 p1 p2 p3
  refine Hord1.out.mono ?_
  clear Hord1
  rintro e w2 ⟨lv, rfl, hlv, hb2⟩
  obtain ⟨Al, cl, rfl, _, _⟩ := hlv.form
  obtain ⟨W2, g2, hW2, hg2, hs2, k2, hal2⟩ := boxA w2 #[.int .i64 oi, .int .i64 oj] 30
  have hb12 := hb2.trans (hal2.mono hb2.size)
  have hb02 := Hb1.out.trans (hb12.mono Hb1.out.size)
  obtain ⟨x0, x1, _⟩ := (Hk.out.1.ext hb02).two
  obtain ⟨p0, p1, p2, p3, _⟩ := (Hk.out.2.1.ext hb02).four
  rw [← hW2] at x0 x1 p0 p1 p2 p3
  have HW2 := Lib.hid hW2; have Hb02 := Lib.hid hb02; have Hk2 := Lib.hid (And.intro k2 (hlv.ext hal2))
  have Hfi2 := Lib.hid (Hfi.out W2 hb02)
  clear hW2 hs2 hb12 hb02 k2 hal2 hb2 hlv Hfi Hb1
  go_wp2_with fail
  rw [HW2.out]
  clear x0 x1 p0 p1 p2 p3
  refine Hfi2.out.mono ?_
  clear Hfi2
  rintro e w3 ⟨Am, cm, Lm, rfl, hLm, ownm, hb3⟩
  obtain rfl := hLm.out
  obtain ⟨W3, g3, hW3, hg3, hs3, k3, hal3⟩ := boxA w3 #[.int .i64 oi, .int .i64 oj] 30
  have hb23 := hb3.trans (hal3.mono hb3.size)
  have hb03 := Hb02.out.trans (hb23.mono Hb02.out.size)
  obtain ⟨u0, u1, _⟩ := (Hk2.out.1.ext hb23).two
  obtain ⟨v0, v1, _⟩ := k3.two
  rw [← hW3] at u0 u1 v0 v1
  have HW3 := Lib.hid hW3; have Hb03 := Lib.hid hb03; have Hk3 := Lib.hid (And.intro (Hk2.out.1.ext hb23) (And.intro k3 (And.intro (Hk2.out.2.ext hb23) (ownm.read0.ext hal3))))
  have Hend : Hid (∀ W, Below W3.heap.size W3 W → Below w.heap.size w W) := Lib.hid fun W h => Hk.out.2.2.trans ((hb03.trans (h.mono hb03.size)).mono Hk.out.2.2.size)
  clear hW3 hs3 hb23 hb03 k3 hal3 hb3 Hk2 hLm ownm Hb02
  by_cases hf : oi = 0
  · subst hf
    obtain rfl : oj = 0 := Hz.out rfl
    obtain ⟨hcan, hqf, hLf⟩ := Hpar.out rfl
    have hso := Hso.out
    rw [if_neg (by simp)] at hso
    simp only [Prod.mk.injEq] at hso
    have hLo := hso.1
    obtain ⟨sc, hsc⟩ : ∃ sc, Rk.scoreF (ids, ts) (Rk.countF xs) = sc := ⟨_, rfl⟩
    have hperm : Lo.Perm Lm := by rw [hLo]; exact Rk.sinkF_perm _ _
    have hss2 := Rk.sink_ss (ids, ts) (Rk.countF xs) Lm
    rw [← hLo, hsc] at hss2
    have hrise : Lm.Pairwise (· < ·) := by rw [hLf]; exact hcan.ids.filter _
    have hin : ∀ n ∈ Lo, ids.contains n = true ∧ Lm.contains n = true := fun n hn => by
      have h1 : n ∈ Lm := hperm.mem_iff.1 hn
      refine ⟨List.contains_iff_mem.2 ?_, List.contains_iff_mem.2 h1⟩
      rw [hLf] at h1
      exact (List.mem_filter.1 h1).1
    have hscr : ∀ n ∈ Lo, ∀ W, Below W0.heap.size W0 W → Calls Tryz.prog 6 #[.agg #[.slice A0 ids.length c0, .slice A1 ts.length c1], .agg #[.int .i64 q.kind, .string (bs q.text), .int .i64 q.num, .slice Aq ql cq], .int .i64 n] W fun e w' => e = .returned (.tuple #[.int .i64 (sc n), .agg #[.int .i64 0, .int .i64 0]]) ∧ Below W.heap.size W w' := fun n hn W hb => by
      have := Hscr.out n W hb
      rw [Hss.out rfl n (hin n hn).1, hsc] at this
      exact this
    have hadj : ∀ (i : Nat) (h : i + 1 < Lo.length), sc Lo[i + 1] ≤ sc Lo[i] ∧ (sc Lo[i] = sc Lo[i + 1] → Lo[i] < Lo[i + 1]) := fun i h => by
      obtain ⟨h1, h2⟩ := hss2.adj hrise h
      have h1' : - sc Lo[i] ≤ - sc Lo[i + 1] := h1
      refine ⟨by omega, fun e => h2 (show - sc Lo[i] = - sc Lo[i + 1] by omega)⟩
    have hlen : Lm.length = Lo.length := hperm.length_eq.symm
    have Hin := Lib.hid hin; have Hscr2 := Lib.hid hscr; have Hadj := Lib.hid hadj; have Hlen := Lib.hid hlen
    obtain ⟨n, hn⟩ : ∃ n, Lo.length = n := ⟨_, rfl⟩
    rw [hlen, hn]
    have hnn : ((n : Int) != (n : Int)) = false := by simp
    have Hn := Lib.hid hn
    have hn6 : n ≤ 9223372036854775807 := by have h9 := Hk3.out.2.2.1.len_le; rw [Hn.out] at h9; unfold maxLen at h9; omega
    clear hcan hqf hLf hso hLo hperm hss2 hrise hin hscr hadj hlen Hso Hss Hpar Hz Hscr hsc hn
    go_wp2_with fail
    rw [HW3.out]
    clear u0 u1 v0 v1
    go_loopw [9, 10] (fun lv iv wr => ∃ (i : Nat) (last : Int), i ≤ n ∧ iv = .int .i64 (i : Int) ∧ lv = .int .i64 last ∧ Hid (i = 0 ∨ ∃ h : i - 1 < Lo.length, last = sc Lo[i - 1]) ∧ Below W3.heap.size W3 wr) (fun _ iv _ => n - (intOf iv).toNat)
    case atStart => exact ⟨0, 0, Nat.zero_le _, rfl, rfl, Lib.hid (.inl rfl), Below.refl _ _⟩
    case round =>
      obtain ⟨i, last, hi, rfl, rfl, Hlast, hb4⟩ := hrel
      obtain ⟨wo, rfl⟩ : ∃ W, W = wr := ⟨_, rfl⟩
      have hi0 : (0 : Int) ≤ (i : Int) := by omega
      by_cases hlt : i < n
      · have hii : (i : Int) < (n : Int) := by omega
        have hlt' : i < Lo.length := by rw [Hn.out]; exact hlt
        have hbo := Hb03.out.trans (hb4.mono Hb03.out.size)
        have hl4 := Hk3.out.2.2.1.ext hb4
        rw [Hn.out] at hl4
        obtain ⟨bl, ol, rfl, _, hbl, t0, _, _⟩ := hl4.intAt hlt'
        obtain ⟨y, hy⟩ : ∃ y, Lo[i] = y := ⟨_, rfl⟩
        rw [hy] at t0
        have hmem : y ∈ Lo := by rw [← hy]; exact List.getElem_mem hlt'
        have hsc := fun W (hb : Below wo.heap.size wo W) => Hscr2.out y hmem W (hbo.trans (hb.mono hbo.size))
        have hha := fun W (hb : Below wo.heap.size wo W) => refHas_ok M0 _ Lm y W ((Hk3.out.2.2.2.ext hb4).ext hb)
        rw [(Hin.out y hmem).2, Hlen.out, Hn.out] at hha
        have hcl : ∀ W, Below wo.heap.size wo W → W.cell? ⟨bl, ol + i, none⟩ = some (.int .i64 y) := fun W hW => (hW.cell hbl).trans t0
        obtain ⟨sy, hsy⟩ : ∃ s, sc y = s := ⟨_, rfl⟩
        simp only [hsy] at hsc
        have hSS : ∀ W, Below wo.heap.size wo W → W.cell? ⟨g, 0, none⟩ = some (.slice A0 ids.length c0) ∧ W.cell? ⟨g, 1, none⟩ = some (.slice A1 ts.length c1) ∧ W.cell? ⟨g + 1, 0, none⟩ = some (.int .i64 q.kind) ∧ W.cell? ⟨g + 1, 1, none⟩ = some (.string (bs q.text)) ∧ W.cell? ⟨g + 1, 2, none⟩ = some (.int .i64 q.num) ∧ W.cell? ⟨g + 1, 3, none⟩ = some (.slice Aq ql cq) ∧ W.cell? ⟨bl, ol + i, none⟩ = some (.int .i64 y) := fun W hW => by
          have hbw := hbo.trans (hW.mono hbo.size)
          obtain ⟨a0, a1, _⟩ := (Hk.out.1.ext hbw).two
          obtain ⟨b0, b1, b2, b3, _⟩ := (Hk.out.2.1.ext hbw).four
          exact ⟨a0, a1, b0, b1, b2, b3, hcl W hW⟩
        have HS := Lib.hid hSS; have Hsc := Lib.hid hsc; have Hha := Lib.hid hha; have Hcl := Lib.hid hcl; have Hy := Lib.hid hy; have Hsy := Lib.hid hsy; have Hb4 := Lib.hid hb4; have Hbl := Lib.hid hbl; have Hl4 := Lib.hid hl4
        have hS := HS.out _ (below_drewN' wo.heap.size wo 1)
        clear hSS hsc hha hcl hy hsy hb4 hbo hl4 hmem t0 hbl
        go_upto_region 13 with fail
        go_cut [11, 12] from 43 to 97 (fun nv ev wc => ∃ gE : Nat, nv = .int .i64 sy ∧ ev = .pointer (some ⟨gE, 0, none⟩) ∧ Blk wc gE 30 #[.int .i64 0, .int .i64 0] ∧ Below wo.heap.size wo wc)
        case first =>
          refine wp_region_D (fun W => W.cell? ⟨g, 0, none⟩ = some (.slice A0 ids.length c0) ∧ W.cell? ⟨g, 1, none⟩ = some (.slice A1 ts.length c1) ∧ W.cell? ⟨g + 1, 0, none⟩ = some (.int .i64 q.kind) ∧ W.cell? ⟨g + 1, 1, none⟩ = some (.string (bs q.text)) ∧ W.cell? ⟨g + 1, 2, none⟩ = some (.int .i64 q.num) ∧ W.cell? ⟨g + 1, 3, none⟩ = some (.slice Aq ql cq) ∧ W.cell? ⟨bl, ol + i, none⟩ = some (.int .i64 y)) (fun _ => false) (by kernel_rfl) ?_
          change anyD _ _ _ _ _ _ _ _ _ (wo.drewN 1)
          have hbV := below_drewN' wo.heap.size wo 1
          generalize wo.drewN 1 = V0 at hS hbV ⊢
          have HBV := Lib.hid hbV
          clear hbV
          (refine anyD_light (i := 0) (v := ?_) rfl (by kernel_rfl) (by kernel_rfl) (by kernel_rfl) (by kernel_rfl) (by kernel_rfl) (fun _ _ _ h => h) (.inl ⟨by kernel_rfl, fun W9 hW9 => ?_⟩) hS ?_; rotate_left; · (obtain ⟨hw0, hw1, hw2, hw3, hw4, hw5, hw6⟩ := hW9; go_simp; rfl))
          (refine anyD_light (i := 1) (v := ?_) rfl (by kernel_rfl) (by kernel_rfl) (by kernel_rfl) (by kernel_rfl) (by kernel_rfl) (fun _ _ _ h => h) (.inl ⟨by kernel_rfl, fun W9 hW9 => ?_⟩) hS ?_; rotate_left; · (obtain ⟨hw0, hw1, hw2, hw3, hw4, hw5, hw6⟩ := hW9; go_simp; rfl))
          (refine anyD_light (i := 2) (v := ?_) rfl (by kernel_rfl) (by kernel_rfl) (by kernel_rfl) (by kernel_rfl) (by kernel_rfl) (fun _ _ _ h => h) (.inl ⟨by kernel_rfl, fun W9 hW9 => ?_⟩) hS ?_; rotate_left; · (obtain ⟨hw0, hw1, hw2, hw3, hw4, hw5, hw6⟩ := hW9; go_simp; rfl))
          (refine anyD_light (i := 3) (v := ?_) rfl (by kernel_rfl) (by kernel_rfl) (by kernel_rfl) (by kernel_rfl) (by kernel_rfl) (fun _ _ _ h => h) (.inl ⟨by kernel_rfl, fun W9 hW9 => ?_⟩) hS ?_; rotate_left; · (obtain ⟨hw0, hw1, hw2, hw3, hw4, hw5, hw6⟩ := hW9; go_simp; rfl))
          (refine anyD_light (i := 4) (v := ?_) rfl (by kernel_rfl) (by kernel_rfl) (by kernel_rfl) (by kernel_rfl) (by kernel_rfl) (fun _ _ _ h => h) (.inl ⟨by kernel_rfl, fun W9 hW9 => ?_⟩) hS ?_; rotate_left; · (obtain ⟨hw0, hw1, hw2, hw3, hw4, hw5, hw6⟩ := hW9; go_simp; rfl))
          (refine anyD_light (i := 5) (v := ?_) rfl (by kernel_rfl) (by kernel_rfl) (by kernel_rfl) (by kernel_rfl) (by kernel_rfl) (fun _ _ _ h => h) (.inl ⟨by kernel_rfl, fun W9 hW9 => ?_⟩) hS ?_; rotate_left; · (obtain ⟨hw0, hw1, hw2, hw3, hw4, hw5, hw6⟩ := hW9; go_simp; rfl))
          go_simp
          refine anyD_pick [6, 10] (by kernel_rfl) (by decide) ?_
          intro j hj
          simp only [List.mem_cons, List.not_mem_nil, or_false] at hj
          rcases hj with rfl | rfl
          · refine ⟨_, rfl, rfl, fun K hK => ?_⟩
            have HK := Lib.hid hK
            clear hK hS
            unfold Oper.wp
            go_simp
            refine (Hsc.out V0 HBV.out).mono ?_
            rintro e V1 ⟨rfl, hb1⟩
            have hb01 := HBV.out.trans (hb1.mono HBV.out.size)
            have hS := HS.out V1 hb01
            refine HK.out _ _ (fun _ => hS) ?_
            clear HK hb1
            go_simp
            (refine anyD_light (i := 7) (v := ?_) rfl (by kernel_rfl) (by kernel_rfl) (by kernel_rfl) (by kernel_rfl) (by kernel_rfl) (fun _ _ _ h => h) (.inl ⟨by kernel_rfl, fun W9 hW9 => ?_⟩) hS ?_; rotate_left; · (obtain ⟨hw0, hw1, hw2, hw3, hw4, hw5, hw6⟩ := hW9; go_simp; rfl))
            (refine anyD_light (i := 8) (v := ?_) rfl (by kernel_rfl) (by kernel_rfl) (by kernel_rfl) (by kernel_rfl) (by kernel_rfl) (fun _ _ _ h => h) (.inl ⟨by kernel_rfl, fun W9 hW9 => ?_⟩) hS ?_; rotate_left; · (obtain ⟨hw0, hw1, hw2, hw3, hw4, hw5, hw6⟩ := hW9; go_simp; rfl))
            (refine anyD_light (i := 9) (v := ?_) rfl (by kernel_rfl) (by kernel_rfl) (by kernel_rfl) (by kernel_rfl) (by kernel_rfl) (fun _ _ _ h => h) (.inl ⟨by kernel_rfl, fun W9 hW9 => ?_⟩) hS ?_; rotate_left; · (obtain ⟨hw0, hw1, hw2, hw3, hw4, hw5, hw6⟩ := hW9; go_simp; rfl))
            go_simp
            refine anyD_one (i := 10) (by kernel_rfl) rfl rfl (fun K hK => ?_)
            have HK := Lib.hid hK
            clear hK hS
            unfold Oper.wp
            go_simp
            obtain ⟨V2, gE, hV2, hgE, hsE, kE, halE⟩ := boxA V1 #[.int .i64 0, .int .i64 0] 30
            have hb2 := hb01.trans (halE.mono hb01.size)
            have HgE := Lib.hid (show wo.heap.size ≤ gE by rw [← hgE]; exact hb01.size)
            rw [hV2]
            have hS := HS.out V2 hb2
            refine HK.out _ _ (fun _ => hS) ?_
            clear HK hV2 hsE halE
            go_simp
            (refine anyD_light (i := 11) (v := ?_) rfl (by kernel_rfl) (by kernel_rfl) (by kernel_rfl) (by kernel_rfl) (by kernel_rfl) (fun _ _ _ h => h) (.inl ⟨by kernel_rfl, fun W9 hW9 => ?_⟩) hS ?_; rotate_left; · (obtain ⟨hw0, hw1, hw2, hw3, hw4, hw5, hw6⟩ := hW9; go_simp; rfl))
            go_simp
            refine anyD_one (i := 12) (by kernel_rfl) rfl rfl (fun K hK => ?_)
            have HK := Lib.hid hK
            clear hK hS
            obtain ⟨e0, e1, e2, e3, _⟩ := kE.two
            unfold Oper.wp
            go_simp
            have hke : Blk ((V2.setCell ⟨gE, 0, none⟩ (.int .i64 0)).setCell ⟨gE, 1, none⟩ (.int .i64 0)) gE 30 #[.int .i64 0, .int .i64 0] := by simpa using (kE.set_ 0 (.int .i64 0)).set_ 1 (.int .i64 0)
            have hbe := (hb2.setCell (p := ⟨gE, 0, none⟩) HgE.out (.int .i64 0)).setCell (p := ⟨gE, 1, none⟩) HgE.out (.int .i64 0)
            have hS := HS.out _ hbe
            refine HK.out _ _ (fun _ => hS) ?_
            clear HK hS
            refine anyD_done (by kernel_rfl) ?_ _
            have Hke := Lib.hid hke; have Hbe := Lib.hid hbe
            clear hke hbe hb2 kE e0 e1 e2 e3
            go_wp2_with fail
            go_meet
            case rel => exact ⟨gE, rfl, rfl, Hke.out, Hbe.out⟩
          · refine ⟨_, rfl, rfl, fun K hK => ?_⟩
            have HK := Lib.hid hK
            clear hK hS
            unfold Oper.wp
            go_simp
            obtain ⟨V1, gE, hV1, hgE, hsE, kE1, halE⟩ := boxA V0 #[.int .i64 0, .int .i64 0] 30
            have hb01 := HBV.out.trans (halE.mono HBV.out.size)
            have HgE := Lib.hid (show wo.heap.size ≤ gE by rw [← hgE]; exact HBV.out.size)
            rw [hV1]
            have hS := HS.out V1 hb01
            refine HK.out _ _ (fun _ => hS) ?_
            clear HK hV1 hsE halE
            go_simp
            refine anyD_one (i := 6) (by kernel_rfl) rfl rfl (fun K hK => ?_)
            have HK := Lib.hid hK
            clear hK hS
            unfold Oper.wp
            go_simp
            refine (Hsc.out V1 hb01).mono ?_
            rintro e V2 ⟨rfl, hb1⟩
            have hb2 := hb01.trans (hb1.mono hb01.size)
            have kE := kE1.ext hb1
            have hS := HS.out V2 hb2
            refine HK.out _ _ (fun _ => hS) ?_
            clear HK hb1 kE1
            go_simp
            (refine anyD_light (i := 7) (v := ?_) rfl (by kernel_rfl) (by kernel_rfl) (by kernel_rfl) (by kernel_rfl) (by kernel_rfl) (fun _ _ _ h => h) (.inl ⟨by kernel_rfl, fun W9 hW9 => ?_⟩) hS ?_; rotate_left; · (obtain ⟨hw0, hw1, hw2, hw3, hw4, hw5, hw6⟩ := hW9; go_simp; rfl))
            (refine anyD_light (i := 8) (v := ?_) rfl (by kernel_rfl) (by kernel_rfl) (by kernel_rfl) (by kernel_rfl) (by kernel_rfl) (fun _ _ _ h => h) (.inl ⟨by kernel_rfl, fun W9 hW9 => ?_⟩) hS ?_; rotate_left; · (obtain ⟨hw0, hw1, hw2, hw3, hw4, hw5, hw6⟩ := hW9; go_simp; rfl))
            (refine anyD_light (i := 9) (v := ?_) rfl (by kernel_rfl) (by kernel_rfl) (by kernel_rfl) (by kernel_rfl) (by kernel_rfl) (fun _ _ _ h => h) (.inl ⟨by kernel_rfl, fun W9 hW9 => ?_⟩) hS ?_; rotate_left; · (obtain ⟨hw0, hw1, hw2, hw3, hw4, hw5, hw6⟩ := hW9; go_simp; rfl))
            go_simp
            (refine anyD_light (i := 11) (v := ?_) rfl (by kernel_rfl) (by kernel_rfl) (by kernel_rfl) (by kernel_rfl) (by kernel_rfl) (fun _ _ _ h => h) (.inl ⟨by kernel_rfl, fun W9 hW9 => ?_⟩) hS ?_; rotate_left; · (obtain ⟨hw0, hw1, hw2, hw3, hw4, hw5, hw6⟩ := hW9; go_simp; rfl))
            go_simp
            refine anyD_one (i := 12) (by kernel_rfl) rfl rfl (fun K hK => ?_)
            have HK := Lib.hid hK
            clear hK hS
            obtain ⟨e0, e1, e2, e3, _⟩ := kE.two
            unfold Oper.wp
            go_simp
            have hke : Blk ((V2.setCell ⟨gE, 0, none⟩ (.int .i64 0)).setCell ⟨gE, 1, none⟩ (.int .i64 0)) gE 30 #[.int .i64 0, .int .i64 0] := by simpa using (kE.set_ 0 (.int .i64 0)).set_ 1 (.int .i64 0)
            have hbe := (hb2.setCell (p := ⟨gE, 0, none⟩) HgE.out (.int .i64 0)).setCell (p := ⟨gE, 1, none⟩) HgE.out (.int .i64 0)
            have hS := HS.out _ hbe
            refine HK.out _ _ (fun _ => hS) ?_
            clear HK hS
            refine anyD_done (by kernel_rfl) ?_ _
            have Hke := Lib.hid hke; have Hbe := Lib.hid hbe
            clear hke hbe hb2 kE e0 e1 e2 e3
            go_wp2_with fail
            go_meet
            case rel => exact ⟨gE, rfl, rfl, Hke.out, Hbe.out⟩
        case rest =>
        clear hS HS Hsc
        obtain ⟨gE, rfl, rfl, hkE, hb5⟩ := hcut
        obtain ⟨w5, rfl⟩ : ∃ W, W = wc := ⟨_, rfl⟩
        have HkE := Lib.hid hkE; have Hb5 := Lib.hid hb5
        have hi1 : IntKind.i64.wrap ((i : Int) - 1) = ((i - 1 : Nat) : Int) ∨ i = 0 := by
          by_cases h : i = 0
          · exact .inr h
          · exact .inl (by rw [show (i : Int) - 1 = ((i - 1 : Nat) : Int) by omega]; exact IntWalk.i64_in _ (by omega))
        clear hkE hb5
        rcases Nat.eq_zero_or_pos i with rfl | hpos
        · have hz0 : ¬ (0 : Int) < ((0 : Nat) : Int) := by omega
          have hz0b : decide ((0 : Int) < ((0 : Nat) : Int)) = false := decide_eq_false hz0
          have hS : (w5.drewN 1).cell? ⟨gE, 0, none⟩ = some (.int .i64 0) ∧ (w5.drewN 1).cell? ⟨bl, ol + 0, none⟩ = some (.int .i64 y) := ⟨(HkE.out.ext (below_drewN' _ w5 1)).two.1, Hcl.out _ (Hb5.out.trans ((below_drewN' w5.heap.size w5 1).mono Hb5.out.size))⟩
          go_wp2_with fail
          refine wp_region_D (fun W => W.cell? ⟨gE, 0, none⟩ = some (.int .i64 0) ∧ W.cell? ⟨bl, ol + 0, none⟩ = some (.int .i64 y)) (fun _ => false) (by kernel_rfl) ?_
          change anyD _ _ _ _ _ _ _ _ _ (w5.drewN 1)
          have hbV := below_drewN' w5.heap.size w5 1
          generalize w5.drewN 1 = V0 at hS hbV ⊢
          have HBV := Lib.hid hbV
          (refine anyD_light (i := 0) (v := ?_) rfl (by kernel_rfl) (by kernel_rfl) (by kernel_rfl) (by kernel_rfl) (by kernel_rfl) (fun _ _ _ h => h) (.inl ⟨by kernel_rfl, fun W9 hW9 => ?_⟩) hS ?_; rotate_left; · (obtain ⟨hw0, hw1⟩ := hW9; go_simp; rfl))
          (refine anyD_light (i := 1) (v := ?_) rfl (by kernel_rfl) (by kernel_rfl) (by kernel_rfl) (by kernel_rfl) (by kernel_rfl) (fun _ _ _ h => h) (.inl ⟨by kernel_rfl, fun W9 hW9 => ?_⟩) hS ?_; rotate_left; · (obtain ⟨hw0, hw1⟩ := hW9; go_simp; rfl))
          (refine anyD_light (i := 2) (v := ?_) rfl (by kernel_rfl) (by kernel_rfl) (by kernel_rfl) (by kernel_rfl) (by kernel_rfl) (fun _ _ _ h => h) (.inl ⟨by kernel_rfl, fun W9 hW9 => ?_⟩) hS ?_; rotate_left; · (obtain ⟨hw0, hw1⟩ := hW9; go_simp; rfl))
          (refine anyD_light (i := 3) (v := ?_) rfl (by kernel_rfl) (by kernel_rfl) (by kernel_rfl) (by kernel_rfl) (by kernel_rfl) (fun _ _ _ h => h) (.inl ⟨by kernel_rfl, fun W9 hW9 => ?_⟩) hS ?_; rotate_left; · (obtain ⟨hw0, hw1⟩ := hW9; go_simp; rfl))
          (refine anyD_light (i := 4) (v := ?_) rfl (by kernel_rfl) (by kernel_rfl) (by kernel_rfl) (by kernel_rfl) (by kernel_rfl) (fun _ _ _ h => h) (.inl ⟨by kernel_rfl, fun W9 hW9 => ?_⟩) hS ?_; rotate_left; · (obtain ⟨hw0, hw1⟩ := hW9; go_simp; rfl))
          (refine anyD_light (i := 5) (v := ?_) rfl (by kernel_rfl) (by kernel_rfl) (by kernel_rfl) (by kernel_rfl) (by kernel_rfl) (fun _ _ _ h => h) (.inl ⟨by kernel_rfl, fun W9 hW9 => ?_⟩) hS ?_; rotate_left; · (obtain ⟨hw0, hw1⟩ := hW9; go_simp; rfl))
          go_simp
          (refine anyD_light (i := 6) (v := ?_) rfl (by kernel_rfl) (by kernel_rfl) (by kernel_rfl) (by kernel_rfl) (by kernel_rfl) (fun _ _ _ h => h) (.inl ⟨by kernel_rfl, fun W9 hW9 => ?_⟩) hS ?_; rotate_left; · (obtain ⟨hw0, hw1⟩ := hW9; go_simp; rfl))
          (refine anyD_light (i := 7) (v := ?_) rfl (by kernel_rfl) (by kernel_rfl) (by kernel_rfl) (by kernel_rfl) (by kernel_rfl) (fun _ _ _ h => h) (.inl ⟨by kernel_rfl, fun W9 hW9 => ?_⟩) hS ?_; rotate_left; · (obtain ⟨hw0, hw1⟩ := hW9; go_simp; rfl))
          (refine anyD_light (i := 8) (v := ?_) rfl (by kernel_rfl) (by kernel_rfl) (by kernel_rfl) (by kernel_rfl) (by kernel_rfl) (fun _ _ _ h => h) (.inl ⟨by kernel_rfl, fun W9 hW9 => ?_⟩) hS ?_; rotate_left; · (obtain ⟨hw0, hw1⟩ := hW9; go_simp; rfl))
          go_simp
          refine anyD_oneG (i := 9) (by kernel_rfl) rfl rfl (fun K hK => ?_)
          have HK := Lib.hid hK
          clear hK
          unfold Oper.wp
          go_simp
          refine (Hha.out _ (Hb5.out.trans (HBV.out.mono Hb5.out.size))).mono ?_
          rintro e w6 ⟨rfl, rfl⟩
          have hS := hS
          refine HK.out _ _ (fun _ => hS) ?_
          clear HK
          (refine anyD_light (i := 10) (v := ?_) rfl (by kernel_rfl) (by kernel_rfl) (by kernel_rfl) (by kernel_rfl) (by kernel_rfl) (fun _ _ _ h => h) (.inl ⟨by kernel_rfl, fun W9 hW9 => ?_⟩) hS ?_; rotate_left; · (obtain ⟨hw0, hw1⟩ := hW9; go_simp; rfl))
          (refine anyD_light (i := 11) (v := ?_) rfl (by kernel_rfl) (by kernel_rfl) (by kernel_rfl) (by kernel_rfl) (by kernel_rfl) (fun _ _ _ h => h) (.inl ⟨by kernel_rfl, fun W9 hW9 => ?_⟩) hS ?_; rotate_left; · (obtain ⟨hw0, hw1⟩ := hW9; go_simp; rfl))
          (refine anyD_light (i := 12) (v := ?_) rfl (by kernel_rfl) (by kernel_rfl) (by kernel_rfl) (by kernel_rfl) (by kernel_rfl) (fun _ _ _ h => h) (.inl ⟨by kernel_rfl, fun W9 hW9 => ?_⟩) hS ?_; rotate_left; · (obtain ⟨hw0, hw1⟩ := hW9; go_simp; rfl))
          (refine anyD_light (i := 13) (v := ?_) rfl (by kernel_rfl) (by kernel_rfl) (by kernel_rfl) (by kernel_rfl) (by kernel_rfl) (fun _ _ _ h => h) (.inl ⟨by kernel_rfl, fun W9 hW9 => ?_⟩) hS ?_; rotate_left; · (obtain ⟨hw0, hw1⟩ := hW9; go_simp; rfl))
          (refine anyD_light (i := 14) (v := ?_) rfl (by kernel_rfl) (by kernel_rfl) (by kernel_rfl) (by kernel_rfl) (by kernel_rfl) (fun _ _ _ h => h) (.inl ⟨by kernel_rfl, fun W9 hW9 => ?_⟩) hS ?_; rotate_left; · (obtain ⟨hw0, hw1⟩ := hW9; go_simp; rfl))
          (refine anyD_light (i := 15) (v := ?_) rfl (by kernel_rfl) (by kernel_rfl) (by kernel_rfl) (by kernel_rfl) (by kernel_rfl) (fun _ _ _ h => h) (.inl ⟨by kernel_rfl, fun W9 hW9 => ?_⟩) hS ?_; rotate_left; · (obtain ⟨hw0, hw1⟩ := hW9; go_simp; rfl))
          go_simp
          (refine anyD_light (i := 16) (v := undef) rfl (by kernel_rfl) (by kernel_rfl) (by kernel_rfl) (by kernel_rfl) (by kernel_rfl) (fun _ _ _ h => h) (.inr ⟨by kernel_rfl, rfl⟩) hS ?_)
          (refine anyD_light (i := 17) (v := undef) rfl (by kernel_rfl) (by kernel_rfl) (by kernel_rfl) (by kernel_rfl) (by kernel_rfl) (fun _ _ _ h => h) (.inr ⟨by kernel_rfl, rfl⟩) hS ?_)
          (refine anyD_light (i := 18) (v := undef) rfl (by kernel_rfl) (by kernel_rfl) (by kernel_rfl) (by kernel_rfl) (by kernel_rfl) (fun _ _ _ h => h) (.inr ⟨by kernel_rfl, rfl⟩) hS ?_)
          (refine anyD_light (i := 19) (v := undef) rfl (by kernel_rfl) (by kernel_rfl) (by kernel_rfl) (by kernel_rfl) (by kernel_rfl) (fun _ _ _ h => h) (.inr ⟨by kernel_rfl, rfl⟩) hS ?_)
          (refine anyD_light (i := 20) (v := undef) rfl (by kernel_rfl) (by kernel_rfl) (by kernel_rfl) (by kernel_rfl) (by kernel_rfl) (fun _ _ _ h => h) (.inr ⟨by kernel_rfl, rfl⟩) hS ?_)
          (refine anyD_light (i := 21) (v := undef) rfl (by kernel_rfl) (by kernel_rfl) (by kernel_rfl) (by kernel_rfl) (by kernel_rfl) (fun _ _ _ h => h) (.inr ⟨by kernel_rfl, rfl⟩) hS ?_)
          go_simp
          (refine anyD_light (i := 22) (v := undef) rfl (by kernel_rfl) (by kernel_rfl) (by kernel_rfl) (by kernel_rfl) (by kernel_rfl) (fun _ _ _ h => h) (.inr ⟨by kernel_rfl, rfl⟩) hS ?_)
          (refine anyD_light (i := 23) (v := undef) rfl (by kernel_rfl) (by kernel_rfl) (by kernel_rfl) (by kernel_rfl) (by kernel_rfl) (fun _ _ _ h => h) (.inr ⟨by kernel_rfl, rfl⟩) hS ?_)
          (refine anyD_light (i := 24) (v := undef) rfl (by kernel_rfl) (by kernel_rfl) (by kernel_rfl) (by kernel_rfl) (by kernel_rfl) (fun _ _ _ h => h) (.inr ⟨by kernel_rfl, rfl⟩) hS ?_)
          (refine anyD_light (i := 25) (v := undef) rfl (by kernel_rfl) (by kernel_rfl) (by kernel_rfl) (by kernel_rfl) (by kernel_rfl) (fun _ _ _ h => h) (.inr ⟨by kernel_rfl, rfl⟩) hS ?_)
          (refine anyD_light (i := 26) (v := undef) rfl (by kernel_rfl) (by kernel_rfl) (by kernel_rfl) (by kernel_rfl) (by kernel_rfl) (fun _ _ _ h => h) (.inr ⟨by kernel_rfl, rfl⟩) hS ?_)
          (refine anyD_light (i := 27) (v := undef) rfl (by kernel_rfl) (by kernel_rfl) (by kernel_rfl) (by kernel_rfl) (by kernel_rfl) (fun _ _ _ h => h) (.inr ⟨by kernel_rfl, rfl⟩) hS ?_)
          go_simp
          (refine anyD_light (i := 28) (v := undef) rfl (by kernel_rfl) (by kernel_rfl) (by kernel_rfl) (by kernel_rfl) (by kernel_rfl) (fun _ _ _ h => h) (.inr ⟨by kernel_rfl, rfl⟩) hS ?_)
          (refine anyD_light (i := 29) (v := undef) rfl (by kernel_rfl) (by kernel_rfl) (by kernel_rfl) (by kernel_rfl) (by kernel_rfl) (fun _ _ _ h => h) (.inr ⟨by kernel_rfl, rfl⟩) hS ?_)
          (refine anyD_light (i := 30) (v := undef) rfl (by kernel_rfl) (by kernel_rfl) (by kernel_rfl) (by kernel_rfl) (by kernel_rfl) (fun _ _ _ h => h) (.inr ⟨by kernel_rfl, rfl⟩) hS ?_)
          (refine anyD_light (i := 31) (v := undef) rfl (by kernel_rfl) (by kernel_rfl) (by kernel_rfl) (by kernel_rfl) (by kernel_rfl) (fun _ _ _ h => h) (.inr ⟨by kernel_rfl, rfl⟩) hS ?_)
          (refine anyD_light (i := 32) (v := undef) rfl (by kernel_rfl) (by kernel_rfl) (by kernel_rfl) (by kernel_rfl) (by kernel_rfl) (fun _ _ _ h => h) (.inr ⟨by kernel_rfl, rfl⟩) hS ?_)
          (refine anyD_light (i := 33) (v := undef) rfl (by kernel_rfl) (by kernel_rfl) (by kernel_rfl) (by kernel_rfl) (by kernel_rfl) (fun _ _ _ h => h) (.inr ⟨by kernel_rfl, rfl⟩) hS ?_)
          go_simp
          (refine anyD_light (i := 34) (v := undef) rfl (by kernel_rfl) (by kernel_rfl) (by kernel_rfl) (by kernel_rfl) (by kernel_rfl) (fun _ _ _ h => h) (.inr ⟨by kernel_rfl, rfl⟩) hS ?_)
          (refine anyD_light (i := 35) (v := undef) rfl (by kernel_rfl) (by kernel_rfl) (by kernel_rfl) (by kernel_rfl) (by kernel_rfl) (fun _ _ _ h => h) (.inr ⟨by kernel_rfl, rfl⟩) hS ?_)
          (refine anyD_light (i := 36) (v := ?_) rfl (by kernel_rfl) (by kernel_rfl) (by kernel_rfl) (by kernel_rfl) (by kernel_rfl) (fun _ _ _ h => h) (.inl ⟨by kernel_rfl, fun W9 hW9 => ?_⟩) hS ?_; rotate_left; · (obtain ⟨hw0, hw1⟩ := hW9; go_simp; rfl))
          (refine anyD_light (i := 37) (v := ?_) rfl (by kernel_rfl) (by kernel_rfl) (by kernel_rfl) (by kernel_rfl) (by kernel_rfl) (fun _ _ _ h => h) (.inl ⟨by kernel_rfl, fun W9 hW9 => ?_⟩) hS ?_; rotate_left; · (obtain ⟨hw0, hw1⟩ := hW9; go_simp; rfl))
          go_simp
          refine anyD_done (by kernel_rfl) ?_ _
          have Hb6 := Lib.hid (Hb5.out.trans (HBV.out.mono Hb5.out.size))
          clear hS hbV
          go_wp2_with fail
          go_roundw
          case rel => exact ⟨0 + 1, sy, by omega, by go_num, rfl, Lib.hid (.inr ⟨by simpa using hlt', by rw [← Hsy.out]; congr 1; simp [← Hy.out]⟩), Hb4.out.trans (Hb6.out.mono Hb4.out.size)⟩
          case measure => simp [intOf]; omega
        · have hp0 : (0 : Int) < (i : Int) := by omega
          have hi1' : IntKind.i64.wrap ((i : Int) - 1) = ((i - 1 : Nat) : Int) := hi1.resolve_right (by omega)
          obtain ⟨hl1, hlq⟩ := (Hlast.out.resolve_left (by omega))
          obtain ⟨_, _, e8, _, hbl8, t8, _, _⟩ := Hl4.out.intAt (k := i - 1) hl1
          injection e8 with e8
          injection e8 with e81 e82
          subst e81; subst e82
          obtain ⟨pz, hpz⟩ : ∃ p, Lo[i - 1] = p := ⟨_, rfl⟩
          rw [hpz] at t8 hlq
          have had := Hadj.out (i - 1) (by rw [Hn.out]; omega)
          have e9 : Lo[i - 1 + 1]'(by rw [Hn.out]; omega) = y := by rw [← Hy.out]; congr 1; omega
          rw [e9, hpz, Hsy.out, ← hlq] at had
          have hc8 : ∀ W, Below wo.heap.size wo W → W.cell? ⟨bl, ol + (i - 1), none⟩ = some (.int .i64 pz) := fun W hW => (hW.cell hbl8).trans t8
          have hgt : ¬ last < sy := by omega
          have hgtb : decide (last < sy) = false := decide_eq_false hgt
          have hp0b : decide ((0 : Int) < (i : Int)) = true := decide_eq_true hp0
          have hq0 : (0 : Int) ≤ ((i - 1 : Nat) : Int) := by omega
          have hq1 : ((i - 1 : Nat) : Int) < (n : Int) := by omega
          have Hc8 := Lib.hid hc8; have Had := Lib.hid had
          clear hc8 t8 hlq hpz had e9 hi1
          by_cases heq : sy = last
          · have heb : (sy == last) = true := by simpa using heq
            have hyl : ¬ y < pz := by have := Had.out.2 heq.symm; omega
            have hylb : decide (y < pz) = false := decide_eq_false hyl
            have Heq := Lib.hid heq
            clear heq
            have hS : (w5.drewN 1).cell? ⟨gE, 0, none⟩ = some (.int .i64 0) ∧ (w5.drewN 1).cell? ⟨bl, ol + i, none⟩ = some (.int .i64 y) ∧ (w5.drewN 1).cell? ⟨bl, ol + (i - 1), none⟩ = some (.int .i64 pz) := ⟨(HkE.out.ext (below_drewN' _ w5 1)).two.1, Hcl.out _ (Hb5.out.trans ((below_drewN' w5.heap.size w5 1).mono Hb5.out.size)), Hc8.out _ (Hb5.out.trans ((below_drewN' w5.heap.size w5 1).mono Hb5.out.size))⟩
            go_wp2_with fail
            refine wp_region_D (fun W => W.cell? ⟨gE, 0, none⟩ = some (.int .i64 0) ∧ W.cell? ⟨bl, ol + i, none⟩ = some (.int .i64 y) ∧ W.cell? ⟨bl, ol + (i - 1), none⟩ = some (.int .i64 pz)) (fun _ => false) (by kernel_rfl) ?_
            change anyD _ _ _ _ _ _ _ _ _ (w5.drewN 1)
            have hbV := below_drewN' w5.heap.size w5 1
            generalize w5.drewN 1 = V0 at hS hbV ⊢
            have HBV := Lib.hid hbV
            (refine anyD_light (i := 0) (v := ?_) rfl (by kernel_rfl) (by kernel_rfl) (by kernel_rfl) (by kernel_rfl) (by kernel_rfl) (fun _ _ _ h => h) (.inl ⟨by kernel_rfl, fun W9 hW9 => ?_⟩) hS ?_; rotate_left; · (obtain ⟨hw0, hw1, hw2⟩ := hW9; go_simp; rfl))
            (refine anyD_light (i := 1) (v := ?_) rfl (by kernel_rfl) (by kernel_rfl) (by kernel_rfl) (by kernel_rfl) (by kernel_rfl) (fun _ _ _ h => h) (.inl ⟨by kernel_rfl, fun W9 hW9 => ?_⟩) hS ?_; rotate_left; · (obtain ⟨hw0, hw1, hw2⟩ := hW9; go_simp; rfl))
            (refine anyD_light (i := 2) (v := ?_) rfl (by kernel_rfl) (by kernel_rfl) (by kernel_rfl) (by kernel_rfl) (by kernel_rfl) (fun _ _ _ h => h) (.inl ⟨by kernel_rfl, fun W9 hW9 => ?_⟩) hS ?_; rotate_left; · (obtain ⟨hw0, hw1, hw2⟩ := hW9; go_simp; rfl))
            (refine anyD_light (i := 3) (v := ?_) rfl (by kernel_rfl) (by kernel_rfl) (by kernel_rfl) (by kernel_rfl) (by kernel_rfl) (fun _ _ _ h => h) (.inl ⟨by kernel_rfl, fun W9 hW9 => ?_⟩) hS ?_; rotate_left; · (obtain ⟨hw0, hw1, hw2⟩ := hW9; go_simp; rfl))
            (refine anyD_light (i := 4) (v := ?_) rfl (by kernel_rfl) (by kernel_rfl) (by kernel_rfl) (by kernel_rfl) (by kernel_rfl) (fun _ _ _ h => h) (.inl ⟨by kernel_rfl, fun W9 hW9 => ?_⟩) hS ?_; rotate_left; · (obtain ⟨hw0, hw1, hw2⟩ := hW9; go_simp; rfl))
            (refine anyD_light (i := 5) (v := ?_) rfl (by kernel_rfl) (by kernel_rfl) (by kernel_rfl) (by kernel_rfl) (by kernel_rfl) (fun _ _ _ h => h) (.inl ⟨by kernel_rfl, fun W9 hW9 => ?_⟩) hS ?_; rotate_left; · (obtain ⟨hw0, hw1, hw2⟩ := hW9; go_simp; rfl))
            go_simp
            (refine anyD_light (i := 6) (v := ?_) rfl (by kernel_rfl) (by kernel_rfl) (by kernel_rfl) (by kernel_rfl) (by kernel_rfl) (fun _ _ _ h => h) (.inl ⟨by kernel_rfl, fun W9 hW9 => ?_⟩) hS ?_; rotate_left; · (obtain ⟨hw0, hw1, hw2⟩ := hW9; go_simp; rfl))
            (refine anyD_light (i := 7) (v := ?_) rfl (by kernel_rfl) (by kernel_rfl) (by kernel_rfl) (by kernel_rfl) (by kernel_rfl) (fun _ _ _ h => h) (.inl ⟨by kernel_rfl, fun W9 hW9 => ?_⟩) hS ?_; rotate_left; · (obtain ⟨hw0, hw1, hw2⟩ := hW9; go_simp; rfl))
            (refine anyD_light (i := 8) (v := ?_) rfl (by kernel_rfl) (by kernel_rfl) (by kernel_rfl) (by kernel_rfl) (by kernel_rfl) (fun _ _ _ h => h) (.inl ⟨by kernel_rfl, fun W9 hW9 => ?_⟩) hS ?_; rotate_left; · (obtain ⟨hw0, hw1, hw2⟩ := hW9; go_simp; rfl))
            go_simp
            refine anyD_oneG (i := 9) (by kernel_rfl) rfl rfl (fun K hK => ?_)
            have HK := Lib.hid hK
            clear hK
            unfold Oper.wp
            go_simp
            refine (Hha.out _ (Hb5.out.trans (HBV.out.mono Hb5.out.size))).mono ?_
            rintro e w6 ⟨rfl, rfl⟩
            have hS := hS
            refine HK.out _ _ (fun _ => hS) ?_
            clear HK
            (refine anyD_light (i := 10) (v := ?_) rfl (by kernel_rfl) (by kernel_rfl) (by kernel_rfl) (by kernel_rfl) (by kernel_rfl) (fun _ _ _ h => h) (.inl ⟨by kernel_rfl, fun W9 hW9 => ?_⟩) hS ?_; rotate_left; · (obtain ⟨hw0, hw1, hw2⟩ := hW9; go_simp; rfl))
            (refine anyD_light (i := 11) (v := ?_) rfl (by kernel_rfl) (by kernel_rfl) (by kernel_rfl) (by kernel_rfl) (by kernel_rfl) (fun _ _ _ h => h) (.inl ⟨by kernel_rfl, fun W9 hW9 => ?_⟩) hS ?_; rotate_left; · (obtain ⟨hw0, hw1, hw2⟩ := hW9; go_simp; rfl))
            (refine anyD_light (i := 12) (v := ?_) rfl (by kernel_rfl) (by kernel_rfl) (by kernel_rfl) (by kernel_rfl) (by kernel_rfl) (fun _ _ _ h => h) (.inl ⟨by kernel_rfl, fun W9 hW9 => ?_⟩) hS ?_; rotate_left; · (obtain ⟨hw0, hw1, hw2⟩ := hW9; go_simp; rfl))
            (refine anyD_light (i := 13) (v := ?_) rfl (by kernel_rfl) (by kernel_rfl) (by kernel_rfl) (by kernel_rfl) (by kernel_rfl) (fun _ _ _ h => h) (.inl ⟨by kernel_rfl, fun W9 hW9 => ?_⟩) hS ?_; rotate_left; · (obtain ⟨hw0, hw1, hw2⟩ := hW9; go_simp; rfl))
            (refine anyD_light (i := 14) (v := ?_) rfl (by kernel_rfl) (by kernel_rfl) (by kernel_rfl) (by kernel_rfl) (by kernel_rfl) (fun _ _ _ h => h) (.inl ⟨by kernel_rfl, fun W9 hW9 => ?_⟩) hS ?_; rotate_left; · (obtain ⟨hw0, hw1, hw2⟩ := hW9; go_simp; rfl))
            (refine anyD_light (i := 15) (v := ?_) rfl (by kernel_rfl) (by kernel_rfl) (by kernel_rfl) (by kernel_rfl) (by kernel_rfl) (fun _ _ _ h => h) (.inl ⟨by kernel_rfl, fun W9 hW9 => ?_⟩) hS ?_; rotate_left; · (obtain ⟨hw0, hw1, hw2⟩ := hW9; go_simp; rfl))
            go_simp
            (refine anyD_light (i := 16) (v := ?_) rfl (by kernel_rfl) (by kernel_rfl) (by kernel_rfl) (by kernel_rfl) (by kernel_rfl) (fun _ _ _ h => h) (.inl ⟨by kernel_rfl, fun W9 hW9 => ?_⟩) hS ?_; rotate_left; · (obtain ⟨hw0, hw1, hw2⟩ := hW9; go_simp; rfl))
            (refine anyD_light (i := 17) (v := ?_) rfl (by kernel_rfl) (by kernel_rfl) (by kernel_rfl) (by kernel_rfl) (by kernel_rfl) (fun _ _ _ h => h) (.inl ⟨by kernel_rfl, fun W9 hW9 => ?_⟩) hS ?_; rotate_left; · (obtain ⟨hw0, hw1, hw2⟩ := hW9; go_simp; rfl))
            (refine anyD_light (i := 18) (v := ?_) rfl (by kernel_rfl) (by kernel_rfl) (by kernel_rfl) (by kernel_rfl) (by kernel_rfl) (fun _ _ _ h => h) (.inl ⟨by kernel_rfl, fun W9 hW9 => ?_⟩) hS ?_; rotate_left; · (obtain ⟨hw0, hw1, hw2⟩ := hW9; go_simp; rfl))
            (refine anyD_light (i := 19) (v := ?_) rfl (by kernel_rfl) (by kernel_rfl) (by kernel_rfl) (by kernel_rfl) (by kernel_rfl) (fun _ _ _ h => h) (.inl ⟨by kernel_rfl, fun W9 hW9 => ?_⟩) hS ?_; rotate_left; · (obtain ⟨hw0, hw1, hw2⟩ := hW9; go_simp; rfl))
            (refine anyD_light (i := 20) (v := ?_) rfl (by kernel_rfl) (by kernel_rfl) (by kernel_rfl) (by kernel_rfl) (by kernel_rfl) (fun _ _ _ h => h) (.inl ⟨by kernel_rfl, fun W9 hW9 => ?_⟩) hS ?_; rotate_left; · (obtain ⟨hw0, hw1, hw2⟩ := hW9; go_simp; rfl))
            (refine anyD_light (i := 21) (v := ?_) rfl (by kernel_rfl) (by kernel_rfl) (by kernel_rfl) (by kernel_rfl) (by kernel_rfl) (fun _ _ _ h => h) (.inl ⟨by kernel_rfl, fun W9 hW9 => ?_⟩) hS ?_; rotate_left; · (obtain ⟨hw0, hw1, hw2⟩ := hW9; go_simp; rfl))
            go_simp
            (refine anyD_light (i := 22) (v := ?_) rfl (by kernel_rfl) (by kernel_rfl) (by kernel_rfl) (by kernel_rfl) (by kernel_rfl) (fun _ _ _ h => h) (.inl ⟨by kernel_rfl, fun W9 hW9 => ?_⟩) hS ?_; rotate_left; · (obtain ⟨hw0, hw1, hw2⟩ := hW9; go_simp; rfl))
            (refine anyD_light (i := 23) (v := ?_) rfl (by kernel_rfl) (by kernel_rfl) (by kernel_rfl) (by kernel_rfl) (by kernel_rfl) (fun _ _ _ h => h) (.inl ⟨by kernel_rfl, fun W9 hW9 => ?_⟩) hS ?_; rotate_left; · (obtain ⟨hw0, hw1, hw2⟩ := hW9; go_simp; rfl))
            (refine anyD_light (i := 24) (v := ?_) rfl (by kernel_rfl) (by kernel_rfl) (by kernel_rfl) (by kernel_rfl) (by kernel_rfl) (fun _ _ _ h => h) (.inl ⟨by kernel_rfl, fun W9 hW9 => ?_⟩) hS ?_; rotate_left; · (obtain ⟨hw0, hw1, hw2⟩ := hW9; go_simp; rfl))
            (refine anyD_light (i := 25) (v := ?_) rfl (by kernel_rfl) (by kernel_rfl) (by kernel_rfl) (by kernel_rfl) (by kernel_rfl) (fun _ _ _ h => h) (.inl ⟨by kernel_rfl, fun W9 hW9 => ?_⟩) hS ?_; rotate_left; · (obtain ⟨hw0, hw1, hw2⟩ := hW9; go_simp; rfl))
            (refine anyD_light (i := 26) (v := ?_) rfl (by kernel_rfl) (by kernel_rfl) (by kernel_rfl) (by kernel_rfl) (by kernel_rfl) (fun _ _ _ h => h) (.inl ⟨by kernel_rfl, fun W9 hW9 => ?_⟩) hS ?_; rotate_left; · (obtain ⟨hw0, hw1, hw2⟩ := hW9; go_simp; rfl))
            (refine anyD_light (i := 27) (v := ?_) rfl (by kernel_rfl) (by kernel_rfl) (by kernel_rfl) (by kernel_rfl) (by kernel_rfl) (fun _ _ _ h => h) (.inl ⟨by kernel_rfl, fun W9 hW9 => ?_⟩) hS ?_; rotate_left; · (obtain ⟨hw0, hw1, hw2⟩ := hW9; go_simp; rfl))
            go_simp
            (refine anyD_light (i := 28) (v := ?_) rfl (by kernel_rfl) (by kernel_rfl) (by kernel_rfl) (by kernel_rfl) (by kernel_rfl) (fun _ _ _ h => h) (.inl ⟨by kernel_rfl, fun W9 hW9 => ?_⟩) hS ?_; rotate_left; · (obtain ⟨hw0, hw1, hw2⟩ := hW9; go_simp; rfl))
            (refine anyD_light (i := 29) (v := ?_) rfl (by kernel_rfl) (by kernel_rfl) (by kernel_rfl) (by kernel_rfl) (by kernel_rfl) (fun _ _ _ h => h) (.inl ⟨by kernel_rfl, fun W9 hW9 => ?_⟩) hS ?_; rotate_left; · (obtain ⟨hw0, hw1, hw2⟩ := hW9; go_simp; rfl))
            (refine anyD_light (i := 30) (v := ?_) rfl (by kernel_rfl) (by kernel_rfl) (by kernel_rfl) (by kernel_rfl) (by kernel_rfl) (fun _ _ _ h => h) (.inl ⟨by kernel_rfl, fun W9 hW9 => ?_⟩) hS ?_; rotate_left; · (obtain ⟨hw0, hw1, hw2⟩ := hW9; go_simp; rfl))
            (refine anyD_light (i := 31) (v := ?_) rfl (by kernel_rfl) (by kernel_rfl) (by kernel_rfl) (by kernel_rfl) (by kernel_rfl) (fun _ _ _ h => h) (.inl ⟨by kernel_rfl, fun W9 hW9 => ?_⟩) hS ?_; rotate_left; · (obtain ⟨hw0, hw1, hw2⟩ := hW9; go_simp; rfl))
            (refine anyD_light (i := 32) (v := ?_) rfl (by kernel_rfl) (by kernel_rfl) (by kernel_rfl) (by kernel_rfl) (by kernel_rfl) (fun _ _ _ h => h) (.inl ⟨by kernel_rfl, fun W9 hW9 => ?_⟩) hS ?_; rotate_left; · (obtain ⟨hw0, hw1, hw2⟩ := hW9; go_simp; rfl))
            (refine anyD_light (i := 33) (v := ?_) rfl (by kernel_rfl) (by kernel_rfl) (by kernel_rfl) (by kernel_rfl) (by kernel_rfl) (fun _ _ _ h => h) (.inl ⟨by kernel_rfl, fun W9 hW9 => ?_⟩) hS ?_; rotate_left; · (obtain ⟨hw0, hw1, hw2⟩ := hW9; go_simp; rfl))
            go_simp
            (refine anyD_light (i := 34) (v := ?_) rfl (by kernel_rfl) (by kernel_rfl) (by kernel_rfl) (by kernel_rfl) (by kernel_rfl) (fun _ _ _ h => h) (.inl ⟨by kernel_rfl, fun W9 hW9 => ?_⟩) hS ?_; rotate_left; · (obtain ⟨hw0, hw1, hw2⟩ := hW9; go_simp; rfl))
            (refine anyD_light (i := 35) (v := ?_) rfl (by kernel_rfl) (by kernel_rfl) (by kernel_rfl) (by kernel_rfl) (by kernel_rfl) (fun _ _ _ h => h) (.inl ⟨by kernel_rfl, fun W9 hW9 => ?_⟩) hS ?_; rotate_left; · (obtain ⟨hw0, hw1, hw2⟩ := hW9; go_simp; rfl))
            (refine anyD_light (i := 36) (v := ?_) rfl (by kernel_rfl) (by kernel_rfl) (by kernel_rfl) (by kernel_rfl) (by kernel_rfl) (fun _ _ _ h => h) (.inl ⟨by kernel_rfl, fun W9 hW9 => ?_⟩) hS ?_; rotate_left; · (obtain ⟨hw0, hw1, hw2⟩ := hW9; go_simp; rfl))
            (refine anyD_light (i := 37) (v := ?_) rfl (by kernel_rfl) (by kernel_rfl) (by kernel_rfl) (by kernel_rfl) (by kernel_rfl) (fun _ _ _ h => h) (.inl ⟨by kernel_rfl, fun W9 hW9 => ?_⟩) hS ?_; rotate_left; · (obtain ⟨hw0, hw1, hw2⟩ := hW9; go_simp; rfl))
            go_simp
            refine anyD_done (by kernel_rfl) ?_ _
            have Hb6 := Lib.hid (Hb5.out.trans (HBV.out.mono Hb5.out.size))
            clear hS hbV
            go_wp2_with fail
            go_roundw
            case rel => exact ⟨i + 1, sy, by omega, by go_num, rfl, Lib.hid (.inr ⟨by simpa using hlt', by rw [← Hsy.out]; congr 1; simp [← Hy.out]⟩), Hb4.out.trans (Hb6.out.mono Hb4.out.size)⟩
            case measure => simp [intOf]; omega
          · have heb : (sy == last) = false := by simpa using heq
            clear heq
            have hS : (w5.drewN 1).cell? ⟨gE, 0, none⟩ = some (.int .i64 0) ∧ (w5.drewN 1).cell? ⟨bl, ol + i, none⟩ = some (.int .i64 y) ∧ (w5.drewN 1).cell? ⟨bl, ol + (i - 1), none⟩ = some (.int .i64 pz) := ⟨(HkE.out.ext (below_drewN' _ w5 1)).two.1, Hcl.out _ (Hb5.out.trans ((below_drewN' w5.heap.size w5 1).mono Hb5.out.size)), Hc8.out _ (Hb5.out.trans ((below_drewN' w5.heap.size w5 1).mono Hb5.out.size))⟩
            go_wp2_with fail
            refine wp_region_D (fun W => W.cell? ⟨gE, 0, none⟩ = some (.int .i64 0) ∧ W.cell? ⟨bl, ol + i, none⟩ = some (.int .i64 y) ∧ W.cell? ⟨bl, ol + (i - 1), none⟩ = some (.int .i64 pz)) (fun _ => false) (by kernel_rfl) ?_
            change anyD _ _ _ _ _ _ _ _ _ (w5.drewN 1)
            have hbV := below_drewN' w5.heap.size w5 1
            generalize w5.drewN 1 = V0 at hS hbV ⊢
            have HBV := Lib.hid hbV
            (refine anyD_light (i := 0) (v := ?_) rfl (by kernel_rfl) (by kernel_rfl) (by kernel_rfl) (by kernel_rfl) (by kernel_rfl) (fun _ _ _ h => h) (.inl ⟨by kernel_rfl, fun W9 hW9 => ?_⟩) hS ?_; rotate_left; · (obtain ⟨hw0, hw1, hw2⟩ := hW9; go_simp; rfl))
            (refine anyD_light (i := 1) (v := ?_) rfl (by kernel_rfl) (by kernel_rfl) (by kernel_rfl) (by kernel_rfl) (by kernel_rfl) (fun _ _ _ h => h) (.inl ⟨by kernel_rfl, fun W9 hW9 => ?_⟩) hS ?_; rotate_left; · (obtain ⟨hw0, hw1, hw2⟩ := hW9; go_simp; rfl))
            (refine anyD_light (i := 2) (v := ?_) rfl (by kernel_rfl) (by kernel_rfl) (by kernel_rfl) (by kernel_rfl) (by kernel_rfl) (fun _ _ _ h => h) (.inl ⟨by kernel_rfl, fun W9 hW9 => ?_⟩) hS ?_; rotate_left; · (obtain ⟨hw0, hw1, hw2⟩ := hW9; go_simp; rfl))
            (refine anyD_light (i := 3) (v := ?_) rfl (by kernel_rfl) (by kernel_rfl) (by kernel_rfl) (by kernel_rfl) (by kernel_rfl) (fun _ _ _ h => h) (.inl ⟨by kernel_rfl, fun W9 hW9 => ?_⟩) hS ?_; rotate_left; · (obtain ⟨hw0, hw1, hw2⟩ := hW9; go_simp; rfl))
            (refine anyD_light (i := 4) (v := ?_) rfl (by kernel_rfl) (by kernel_rfl) (by kernel_rfl) (by kernel_rfl) (by kernel_rfl) (fun _ _ _ h => h) (.inl ⟨by kernel_rfl, fun W9 hW9 => ?_⟩) hS ?_; rotate_left; · (obtain ⟨hw0, hw1, hw2⟩ := hW9; go_simp; rfl))
            (refine anyD_light (i := 5) (v := ?_) rfl (by kernel_rfl) (by kernel_rfl) (by kernel_rfl) (by kernel_rfl) (by kernel_rfl) (fun _ _ _ h => h) (.inl ⟨by kernel_rfl, fun W9 hW9 => ?_⟩) hS ?_; rotate_left; · (obtain ⟨hw0, hw1, hw2⟩ := hW9; go_simp; rfl))
            go_simp
            (refine anyD_light (i := 6) (v := ?_) rfl (by kernel_rfl) (by kernel_rfl) (by kernel_rfl) (by kernel_rfl) (by kernel_rfl) (fun _ _ _ h => h) (.inl ⟨by kernel_rfl, fun W9 hW9 => ?_⟩) hS ?_; rotate_left; · (obtain ⟨hw0, hw1, hw2⟩ := hW9; go_simp; rfl))
            (refine anyD_light (i := 7) (v := ?_) rfl (by kernel_rfl) (by kernel_rfl) (by kernel_rfl) (by kernel_rfl) (by kernel_rfl) (fun _ _ _ h => h) (.inl ⟨by kernel_rfl, fun W9 hW9 => ?_⟩) hS ?_; rotate_left; · (obtain ⟨hw0, hw1, hw2⟩ := hW9; go_simp; rfl))
            (refine anyD_light (i := 8) (v := ?_) rfl (by kernel_rfl) (by kernel_rfl) (by kernel_rfl) (by kernel_rfl) (by kernel_rfl) (fun _ _ _ h => h) (.inl ⟨by kernel_rfl, fun W9 hW9 => ?_⟩) hS ?_; rotate_left; · (obtain ⟨hw0, hw1, hw2⟩ := hW9; go_simp; rfl))
            go_simp
            refine anyD_oneG (i := 9) (by kernel_rfl) rfl rfl (fun K hK => ?_)
            have HK := Lib.hid hK
            clear hK
            unfold Oper.wp
            go_simp
            refine (Hha.out _ (Hb5.out.trans (HBV.out.mono Hb5.out.size))).mono ?_
            rintro e w6 ⟨rfl, rfl⟩
            have hS := hS
            refine HK.out _ _ (fun _ => hS) ?_
            clear HK
            (refine anyD_light (i := 10) (v := ?_) rfl (by kernel_rfl) (by kernel_rfl) (by kernel_rfl) (by kernel_rfl) (by kernel_rfl) (fun _ _ _ h => h) (.inl ⟨by kernel_rfl, fun W9 hW9 => ?_⟩) hS ?_; rotate_left; · (obtain ⟨hw0, hw1, hw2⟩ := hW9; go_simp; rfl))
            (refine anyD_light (i := 11) (v := ?_) rfl (by kernel_rfl) (by kernel_rfl) (by kernel_rfl) (by kernel_rfl) (by kernel_rfl) (fun _ _ _ h => h) (.inl ⟨by kernel_rfl, fun W9 hW9 => ?_⟩) hS ?_; rotate_left; · (obtain ⟨hw0, hw1, hw2⟩ := hW9; go_simp; rfl))
            (refine anyD_light (i := 12) (v := ?_) rfl (by kernel_rfl) (by kernel_rfl) (by kernel_rfl) (by kernel_rfl) (by kernel_rfl) (fun _ _ _ h => h) (.inl ⟨by kernel_rfl, fun W9 hW9 => ?_⟩) hS ?_; rotate_left; · (obtain ⟨hw0, hw1, hw2⟩ := hW9; go_simp; rfl))
            (refine anyD_light (i := 13) (v := ?_) rfl (by kernel_rfl) (by kernel_rfl) (by kernel_rfl) (by kernel_rfl) (by kernel_rfl) (fun _ _ _ h => h) (.inl ⟨by kernel_rfl, fun W9 hW9 => ?_⟩) hS ?_; rotate_left; · (obtain ⟨hw0, hw1, hw2⟩ := hW9; go_simp; rfl))
            (refine anyD_light (i := 14) (v := ?_) rfl (by kernel_rfl) (by kernel_rfl) (by kernel_rfl) (by kernel_rfl) (by kernel_rfl) (fun _ _ _ h => h) (.inl ⟨by kernel_rfl, fun W9 hW9 => ?_⟩) hS ?_; rotate_left; · (obtain ⟨hw0, hw1, hw2⟩ := hW9; go_simp; rfl))
            (refine anyD_light (i := 15) (v := ?_) rfl (by kernel_rfl) (by kernel_rfl) (by kernel_rfl) (by kernel_rfl) (by kernel_rfl) (fun _ _ _ h => h) (.inl ⟨by kernel_rfl, fun W9 hW9 => ?_⟩) hS ?_; rotate_left; · (obtain ⟨hw0, hw1, hw2⟩ := hW9; go_simp; rfl))
            go_simp
            (refine anyD_light (i := 16) (v := ?_) rfl (by kernel_rfl) (by kernel_rfl) (by kernel_rfl) (by kernel_rfl) (by kernel_rfl) (fun _ _ _ h => h) (.inl ⟨by kernel_rfl, fun W9 hW9 => ?_⟩) hS ?_; rotate_left; · (obtain ⟨hw0, hw1, hw2⟩ := hW9; go_simp; rfl))
            (refine anyD_light (i := 17) (v := ?_) rfl (by kernel_rfl) (by kernel_rfl) (by kernel_rfl) (by kernel_rfl) (by kernel_rfl) (fun _ _ _ h => h) (.inl ⟨by kernel_rfl, fun W9 hW9 => ?_⟩) hS ?_; rotate_left; · (obtain ⟨hw0, hw1, hw2⟩ := hW9; go_simp; rfl))
            (refine anyD_light (i := 18) (v := ?_) rfl (by kernel_rfl) (by kernel_rfl) (by kernel_rfl) (by kernel_rfl) (by kernel_rfl) (fun _ _ _ h => h) (.inl ⟨by kernel_rfl, fun W9 hW9 => ?_⟩) hS ?_; rotate_left; · (obtain ⟨hw0, hw1, hw2⟩ := hW9; go_simp; rfl))
            (refine anyD_light (i := 19) (v := ?_) rfl (by kernel_rfl) (by kernel_rfl) (by kernel_rfl) (by kernel_rfl) (by kernel_rfl) (fun _ _ _ h => h) (.inl ⟨by kernel_rfl, fun W9 hW9 => ?_⟩) hS ?_; rotate_left; · (obtain ⟨hw0, hw1, hw2⟩ := hW9; go_simp; rfl))
            (refine anyD_light (i := 20) (v := ?_) rfl (by kernel_rfl) (by kernel_rfl) (by kernel_rfl) (by kernel_rfl) (by kernel_rfl) (fun _ _ _ h => h) (.inl ⟨by kernel_rfl, fun W9 hW9 => ?_⟩) hS ?_; rotate_left; · (obtain ⟨hw0, hw1, hw2⟩ := hW9; go_simp; rfl))
            (refine anyD_light (i := 21) (v := ?_) rfl (by kernel_rfl) (by kernel_rfl) (by kernel_rfl) (by kernel_rfl) (by kernel_rfl) (fun _ _ _ h => h) (.inl ⟨by kernel_rfl, fun W9 hW9 => ?_⟩) hS ?_; rotate_left; · (obtain ⟨hw0, hw1, hw2⟩ := hW9; go_simp; rfl))
            go_simp
            (refine anyD_light (i := 22) (v := ?_) rfl (by kernel_rfl) (by kernel_rfl) (by kernel_rfl) (by kernel_rfl) (by kernel_rfl) (fun _ _ _ h => h) (.inl ⟨by kernel_rfl, fun W9 hW9 => ?_⟩) hS ?_; rotate_left; · (obtain ⟨hw0, hw1, hw2⟩ := hW9; go_simp; rfl))
            (refine anyD_light (i := 23) (v := ?_) rfl (by kernel_rfl) (by kernel_rfl) (by kernel_rfl) (by kernel_rfl) (by kernel_rfl) (fun _ _ _ h => h) (.inl ⟨by kernel_rfl, fun W9 hW9 => ?_⟩) hS ?_; rotate_left; · (obtain ⟨hw0, hw1, hw2⟩ := hW9; go_simp; rfl))
            (refine anyD_light (i := 24) (v := undef) rfl (by kernel_rfl) (by kernel_rfl) (by kernel_rfl) (by kernel_rfl) (by kernel_rfl) (fun _ _ _ h => h) (.inr ⟨by kernel_rfl, rfl⟩) hS ?_)
            (refine anyD_light (i := 25) (v := undef) rfl (by kernel_rfl) (by kernel_rfl) (by kernel_rfl) (by kernel_rfl) (by kernel_rfl) (fun _ _ _ h => h) (.inr ⟨by kernel_rfl, rfl⟩) hS ?_)
            (refine anyD_light (i := 26) (v := undef) rfl (by kernel_rfl) (by kernel_rfl) (by kernel_rfl) (by kernel_rfl) (by kernel_rfl) (fun _ _ _ h => h) (.inr ⟨by kernel_rfl, rfl⟩) hS ?_)
            (refine anyD_light (i := 27) (v := undef) rfl (by kernel_rfl) (by kernel_rfl) (by kernel_rfl) (by kernel_rfl) (by kernel_rfl) (fun _ _ _ h => h) (.inr ⟨by kernel_rfl, rfl⟩) hS ?_)
            go_simp
            (refine anyD_light (i := 28) (v := undef) rfl (by kernel_rfl) (by kernel_rfl) (by kernel_rfl) (by kernel_rfl) (by kernel_rfl) (fun _ _ _ h => h) (.inr ⟨by kernel_rfl, rfl⟩) hS ?_)
            (refine anyD_light (i := 29) (v := undef) rfl (by kernel_rfl) (by kernel_rfl) (by kernel_rfl) (by kernel_rfl) (by kernel_rfl) (fun _ _ _ h => h) (.inr ⟨by kernel_rfl, rfl⟩) hS ?_)
            (refine anyD_light (i := 30) (v := undef) rfl (by kernel_rfl) (by kernel_rfl) (by kernel_rfl) (by kernel_rfl) (by kernel_rfl) (fun _ _ _ h => h) (.inr ⟨by kernel_rfl, rfl⟩) hS ?_)
            (refine anyD_light (i := 31) (v := undef) rfl (by kernel_rfl) (by kernel_rfl) (by kernel_rfl) (by kernel_rfl) (by kernel_rfl) (fun _ _ _ h => h) (.inr ⟨by kernel_rfl, rfl⟩) hS ?_)
            (refine anyD_light (i := 32) (v := undef) rfl (by kernel_rfl) (by kernel_rfl) (by kernel_rfl) (by kernel_rfl) (by kernel_rfl) (fun _ _ _ h => h) (.inr ⟨by kernel_rfl, rfl⟩) hS ?_)
            (refine anyD_light (i := 33) (v := undef) rfl (by kernel_rfl) (by kernel_rfl) (by kernel_rfl) (by kernel_rfl) (by kernel_rfl) (fun _ _ _ h => h) (.inr ⟨by kernel_rfl, rfl⟩) hS ?_)
            go_simp
            (refine anyD_light (i := 34) (v := ?_) rfl (by kernel_rfl) (by kernel_rfl) (by kernel_rfl) (by kernel_rfl) (by kernel_rfl) (fun _ _ _ h => h) (.inl ⟨by kernel_rfl, fun W9 hW9 => ?_⟩) hS ?_; rotate_left; · (obtain ⟨hw0, hw1, hw2⟩ := hW9; go_simp; rfl))
            (refine anyD_light (i := 35) (v := ?_) rfl (by kernel_rfl) (by kernel_rfl) (by kernel_rfl) (by kernel_rfl) (by kernel_rfl) (fun _ _ _ h => h) (.inl ⟨by kernel_rfl, fun W9 hW9 => ?_⟩) hS ?_; rotate_left; · (obtain ⟨hw0, hw1, hw2⟩ := hW9; go_simp; rfl))
            (refine anyD_light (i := 36) (v := ?_) rfl (by kernel_rfl) (by kernel_rfl) (by kernel_rfl) (by kernel_rfl) (by kernel_rfl) (fun _ _ _ h => h) (.inl ⟨by kernel_rfl, fun W9 hW9 => ?_⟩) hS ?_; rotate_left; · (obtain ⟨hw0, hw1, hw2⟩ := hW9; go_simp; rfl))
            (refine anyD_light (i := 37) (v := ?_) rfl (by kernel_rfl) (by kernel_rfl) (by kernel_rfl) (by kernel_rfl) (by kernel_rfl) (fun _ _ _ h => h) (.inl ⟨by kernel_rfl, fun W9 hW9 => ?_⟩) hS ?_; rotate_left; · (obtain ⟨hw0, hw1, hw2⟩ := hW9; go_simp; rfl))
            go_simp
            refine anyD_done (by kernel_rfl) ?_ _
            have Hb6 := Lib.hid (Hb5.out.trans (HBV.out.mono Hb5.out.size))
            clear hS hbV
            go_wp2_with fail
            go_roundw
            case rel => exact ⟨i + 1, sy, by omega, by go_num, rfl, Lib.hid (.inr ⟨by simpa using hlt', by rw [← Hsy.out]; congr 1; simp [← Hy.out]⟩), Hb4.out.trans (Hb6.out.mono Hb4.out.size)⟩
            case measure => simp [intOf]; omega
      · have hii : ¬ (i : Int) < (n : Int) := by omega
        have Hb4 := Lib.hid (Hend.out _ hb4)
        clear hb4
        go_wp2_with fail
        go_ret
        exact ⟨rfl, by first | exact Hb4.out | (have := Hb4.out; rw [hg] at this; exact this)⟩
  · have hfn : (oi != 0) = true := by simpa using hf
    have heq := run_eql_fault' oi oj
    go_wp2_with fail
    rw [HW3.out]
    go_ret
    exact ⟨rfl, by first | exact Hend.out _ (Below.refl _ _) | (have := Hend.out _ (Below.refl _ _); rw [hg] at this; exact this)⟩
end Go.Proofs.YtnlhocbaighedaaGreatDoor

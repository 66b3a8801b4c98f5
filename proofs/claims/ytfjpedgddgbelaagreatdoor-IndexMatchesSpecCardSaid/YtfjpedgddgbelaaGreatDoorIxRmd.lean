/-
  The law's removed, where it answers true.
-/
import Derived.Test.YtfjpedgddgbelaaGreatDoorIxAdd
namespace Go.Proofs.YtfjpedgddgbelaaGreatDoor
open Go.RowKit
set_option linter.unusedVariables false
namespace Ix
def restN (id : Int) (ts : List Term) (k : Nat) : Nat := ((ts.take k).filter fun t => !((othersF id t.2).length == 0)).length
theorem restN_step (id : Int) (ts : List Term) {k : Nat} (hk : k < ts.length) : restN id ts (k + 1) = restN id ts k + if (othersF id ts[k].2).length = 0 then 0 else 1 := by
  unfold restN
  rw [List.take_succ_eq_append_getElem hk, List.filter_append, List.length_append]
  by_cases h : (othersF id ts[k].2).length = 0
  · simp [h]
  · simp [h]
theorem restN_le (id : Int) (ts : List Term) (k : Nat) : restN id ts k ≤ k := by
  unfold restN
  refine Nat.le_trans (List.length_filter_le _ _) ?_
  rw [List.length_take]
  omega
end Ix
set_option maxRecDepth 100000 in
set_option maxHeartbeats 2000000 in
theorem removed_ok (u v u' v' : Value) (x r : Ix.Idx) (id : Int) (w : World) (h0 : SlR intC M0 w u x.1) (h1 : SlR termC M0 w v x.2) (k0 : SlR intC M0 w u' r.1) (k1 : SlR termC M0 w v' r.2) (hpo : ∀ t ∈ x.2, t.2.length ≤ 1000000) (hsz : SzIx r.2)
    (hgood : Ix.removedF x r id = true) :
    Calls Tryz.prog 30 #[.agg #[u, v], .agg #[u', v'], .int .i64 id] w fun e w' => e = .returned (.bool true) ∧ Below w.heap.size w w' := by
  obtain ⟨A0, c0, rfl, _, _⟩ := h0.form
  obtain ⟨A1, c1, rfl, _, _⟩ := h1.form
  obtain ⟨B0, d0, rfl, _, _⟩ := k0.form
  obtain ⟨B1, d1, rfl, _, _⟩ := k1.form
  obtain ⟨hx1, hx2⟩ := h1.lenM
  obtain ⟨hx3, hx4⟩ := h0.lenM
  obtain ⟨ha1, ha2⟩ := k1.lenM
  obtain ⟨ha3, ha4⟩ := k0.lenM
  unfold Ix.removedF at hgood
  simp only [Bool.and_eq_true, decide_eq_true_eq, List.all_eq_true, beq_iff_eq, Bool.not_eq_true'] at hgood
  obtain ⟨⟨⟨⟨g1, g2⟩, g3⟩, g4⟩, g5⟩ := hgood
  have g5' : Ix.restN id x.2 x.2.length = r.2.length := by unfold Ix.restN; rw [List.take_length]; exact g5
  have G := Lib.hid (And.intro g4 g5')
  obtain ⟨w1, gx, ga, hW, hgx, hga, hs1, kx, ka, hal⟩ := box2 w #[.slice A0 x.1.length c0, .slice A1 x.2.length c1] 25 #[.slice B0 r.1.length d0, .slice B1 r.2.length d1] 25
  have HH := Lib.hid (And.intro h0 (And.intro h1 (And.intro k0 k1))); have HW := Lib.hid (And.intro hW (And.intro hgx (And.intro hga hs1)))
  have Hkx := Lib.hid kx; have Hka := Lib.hid ka; have Hal := Lib.hid hal
  have hln : ((r.1.length : Int) != (x.1.length : Int) - 1) = false := by rw [bne, beq_iff_eq.2 g1]; rfl
  have hlw : IntKind.i64.wrap ((x.1.length : Int) - 1) = (x.1.length : Int) - 1 := IntWalk.i64_in _ (by omega)
  have hrc := run_code
  obtain ⟨x0, x1, _, _, _⟩ := kx.two
  obtain ⟨y0, y1, _, _, _⟩ := ka.two
  rw [← hW, ← hga, ← hgx] at y0 y1
  rw [← hW, ← hgx] at x0 x1
  have hha := refHas_ok M0 (.slice B0 r.1.length d0) r.1 id w1 (k0.ext hal)
  rw [g2] at hha
  have hft := indexFault_ok (.slice B0 r.1.length d0) (.slice B1 r.2.length d1) r.1 r.2 w1 (k0.ext hal) (k1.ext hal) hsz
  rw [show Ix.indexF (r.1, r.2) = (0, 0) from Ix.indexF_zero2 g3] at hft
  have Hha := Lib.hid hha; have Hft := Lib.hid hft
  clear h0 h1 k0 k1 hW hgx hga hs1 kx ka hal g1 g2 g3 g4 g5 g5' hsz hha hft
  go_enter Tryz.func30, Tryz.ntmps30
  go_wp2_with fail
  rw [HW.out.1, HW.out.2.1, HW.out.2.2.1]
  refine Hha.out.mono ?_
  rintro e w3 ⟨rfl, rfl⟩
  clear x0 x1 y0 y1
  obtain ⟨y0, y1, _, _, _⟩ := Hka.out.two
  go_wp2_with fail
  refine Hft.out.mono ?_
  rintro e w3 ⟨rfl, hb3⟩
  have Hs := Lib.hid (And.intro (Hkx.out.ext hb3) (And.intro (Hka.out.ext hb3) (Hal.out.trans (hb3.mono Hal.out.size))))
  clear hb3 y0 y1 Hha Hft Hkx Hka Hal
  go_wp2
  clear hrc hln hlw
  go_loopw [7, 8] (fun nv iv wr => ∃ i : Nat, i ≤ x.2.length ∧ iv = .int .i64 (i : Int) ∧ nv = .int .i64 (Ix.restN id x.2 i : Nat) ∧ Hid (Below w3.heap.size w3 wr)) (fun _ iv _ => x.2.length - (intOf iv).toNat)
  case atStart => exact ⟨0, Nat.zero_le _, rfl, rfl, Lib.hid (Below.refl _ _)⟩
  case round =>
    obtain ⟨wo, rfl⟩ : ∃ W0, W0 = wr := ⟨_, rfl⟩
    obtain ⟨i, hi, rfl, rfl, hb⟩ := hrel
    have kx := Hs.out.1.ext hb.out
    have hbw := Hs.out.2.2.trans (hb.out.mono Hs.out.2.2.size)
    obtain ⟨x0, x1, _, _, _⟩ := kx.two
    by_cases hlt : i < x.2.length
    · skip
      have hst := Ix.restN_step id x.2 hlt
      have hrl := Ix.restN_le id x.2 i
      obtain ⟨N, hN⟩ : ∃ N, Ix.restN id x.2 i = N := ⟨_, rfl⟩
      rw [hN] at hst hrl ⊢
      obtain ⟨bt, offt, A2, c2, hA, _, _, p0, p1, hwl, hps⟩ := (HH.out.2.1.ext hbw).termAt hlt
      have hpB := hpo _ (List.getElem_mem hlt)
      subst hA
      have hg := G.out.1 _ (List.getElem_mem hlt)
      obtain ⟨⟨wd, ps⟩, ht⟩ : ∃ t, x.2[i] = t := ⟨_, rfl⟩
      rw [ht] at p0 p1 hwl hps hg hpB hst
      dsimp only at p0 p1 hwl hps hg hpB hst
      obtain ⟨hp1, hp2⟩ := hps.lenM
      have hil : (i : Int) < (x.2.length : Int) := by omega
      have hi0 : (0 : Int) ≤ (i : Int) := by omega
      have hiw : IntKind.i64.wrap (i : Int) = (i : Int) := IntWalk.i64_in _ (by omega)
      have HpsB := Lib.hid hps.toMB; have Hg := Lib.hid hg; have Hp := Lib.hid (And.intro p0 p1); have Hkx := Lib.hid kx; have Hst := Lib.hid hst; have Hbw := Lib.hid hbw
      clear hps hg ht kx hst hN hbw
      go_wp2
      clear x0 x1 p0 p1
      go_loopw [9, 10] (fun ov kv wr => ∃ (k : Nat) (AO : Option Addr) (cO : Nat) (O : List Ix.Post), k ≤ ps.length ∧ kv = .int .i64 (k : Int) ∧ ov = .slice AO O.length cO ∧ Hid (O = Ix.othersF id (ps.take k)) ∧ Hid (Own postC M0 wr wo.heap.size 96 ov O) ∧ Hid (Below wo.heap.size wo wr)) (fun _ kv _ => ps.length - (intOf kv).toNat)
      case atStart => exact ⟨0, none, 0, [], Nat.zero_le _, rfl, rfl, Lib.hid rfl, Lib.hid (Own.nil _ _ _ _ _), Lib.hid (Below.refl _ _)⟩
      case round =>
        obtain ⟨w7, rfl⟩ : ∃ W0, W0 = wr := ⟨_, rfl⟩
        obtain ⟨k, AO, cO, O, hk, rfl, rfl, hO, ownO, hb7⟩ := hrel
        obtain ⟨x0, x1, _, _, _⟩ := (Hkx.out.ext hb7.out).two
        have p0 := cell_ext hb7.out Hp.out.1
        have p1 := cell_ext hb7.out Hp.out.2
        by_cases hkt : k < ps.length
        · skip
          obtain ⟨bp, offp, A4, c4, hA4, _, _, y0, y1, xl1, xl2, hpl⟩ := (HpsB.out.ext hb7.out).postAt hkt
          subst hA4
          have hot := othersF_take id ps hkt
          rw [← hO.out] at hot
          have hOl : O.length ≤ k := by rw [hO.out]; exact othersF_len id ps k
          obtain ⟨⟨pid, pl⟩, hp⟩ : ∃ p, ps[k] = p := ⟨_, rfl⟩
          rw [hp] at y0 y1 xl1 xl2 hpl hot
          dsimp only at y0 y1 xl1 xl2 hpl hot
          have hki : (k : Int) < (ps.length : Int) := by omega
          have hk0 : (0 : Int) ≤ (k : Int) := by omega
          have hkw : IntKind.i64.wrap (k : Int) = (k : Int) := IntWalk.i64_in _ (by omega)
          by_cases e : pid = id
          · subst e
            have hee : (pid != pid) = false := by simp
            rw [if_pos rfl, List.append_nil] at hot
            have Hfin := Lib.hid hot.symm
            clear hot hpl hp
            go_wp2
            go_roundw
            case rel => exact ⟨k + 1, AO, cO, O, by omega, by go_num, rfl, Hfin, ownO, hb7⟩
            case measure => simp [intOf]; omega
          · have hee : (pid != id) = true := by simpa using e
            rw [if_neg e] at hot
            have hrd : postC.rd (fun b => M0 b ∨ (Value.slice AO O.length cO).ownBlock = some b) w7 [.int .i64 pid, .slice A4 pl.length c4] (pid, pl) := ⟨[.int .i64 pid], [.slice A4 pl.length c4], rfl, ⟨rfl, xl1, xl2⟩, _, rfl, hpl.sub fun b _ hor => hor.elim (fun h => h.elim) fun h => .inr (ownO.out.base b h)⟩
            have own7 := ownO.out
            have hs7 := hb7.out.size
            have Hot := Lib.hid hot; have Hrd := Lib.hid hrd
            clear hot hpl hp hrd
            go_wp2_with (at_builtin; refine wpList_push_Own postC (M := M0) (B := wo.heap.size) TPosts rfl (.tmp 61) (.tmp 71) rfl rfl own7 rfl (cs := [.int .i64 pid, .slice A4 pl.length c4]) (y := (pid, pl)) Hrd.out (fun _ h => h.elim) ?a1 ?b1 hs7 ?_)
            case a1 => unfold maxLen; omega
            case b1 => omega
            intro A8 c8 L8 w8 hL8 own8 hb8 hgr8 _
            have Hfin := Lib.hid (And.intro own8 (hb7.out.trans hb8))
            clear own8 hb8 own7 hgr8
            go_wp2
            go_roundw
            case rel => exact ⟨k + 1, A8, c8, L8, by omega, by go_num, rfl, Lib.hid (by rw [hL8.out, Hot.out]), Lib.hid Hfin.out.1, Lib.hid Hfin.out.2⟩
            case measure => simp [intOf]; omega
        · obtain rfl : k = ps.length := by omega
          have hO2 : O = Ix.othersF id ps := by rw [hO.out, List.take_length]
          have hbx := Hbw.out.trans (hb7.out.mono Hbw.out.size)
          have hpp := fun W' (hb' : Below w7.heap.size w7 W') => lawPostings_ok M0 (.slice B0 r.1.length d0) (.slice B1 r.2.length d1) r.1 r.2 wd W' (HH.out.2.2.2.ext (hbx.trans (hb'.mono hbx.size)))
          obtain ⟨Q, hQ⟩ : ∃ Q, Ix.postingsF (r.1, r.2) wd = Q := ⟨_, rfl⟩
          rw [hQ] at hpp
          have hOQ : (O == Q) = true := by rw [hO2, Hg.out, ← hQ]; exact beq_self_eq_true _
          have hsp : ∀ W' vq, Below w7.heap.size w7 W' → SlR postC M0 W' vq Q → Calls Tryz.prog 28 #[.slice AO O.length cO, vq] W' fun e w' => e = .returned (.bool true) ∧ Below W'.heap.size W' w' := fun W' vq hb' hr => by
            have := samePost_ok (.slice AO O.length cO) vq O Q W' ((ownO.out.ext hb').read0) hr
            rw [hOQ] at this
            exact this
          have hst : Ix.restN id x.2 (i + 1) = N + if O.length = 0 then 0 else 1 := by rw [Hst.out, ← hO2]
          have Hpp := Lib.hid hpp; have Hsp := Lib.hid hsp; have Hst2 := Lib.hid hst
          have ka := Hs.out.2.1.ext (hb.out.trans (hb7.out.mono hb.out.size))
          obtain ⟨y0, y1, _, _, _⟩ := ka.two
          have hSS : ∀ W', Below w7.heap.size w7 W' → W'.cell? ⟨ga, 0, none⟩ = some (.slice B0 r.1.length d0) ∧ W'.cell? ⟨ga, 1, none⟩ = some (.slice B1 r.2.length d1) ∧ W'.cell? ⟨gx, 1, none⟩ = some (.slice (some ⟨bt, offt, none⟩) x.2.length c1) ∧ W'.cell? ⟨bt, offt + i * 2, none⟩ = some (.string (bs wd)) := fun W' hb => ⟨cell_ext hb y0, cell_ext hb y1, cell_ext hb x1, cell_ext hb p0⟩
          have HS := Lib.hid hSS
          have hS := HS.out _ (below_drewN' w7.heap.size w7 1)
          clear hpp hsp hbx hQ hOQ hO2 hst hSS ka y0 y1
          go_wp2_with fail
          clear x0 x1 p0 p1
          refine wp_region_D (fun W => W.cell? ⟨ga, 0, none⟩ = some (.slice B0 r.1.length d0) ∧ W.cell? ⟨ga, 1, none⟩ = some (.slice B1 r.2.length d1) ∧ W.cell? ⟨gx, 1, none⟩ = some (.slice (some ⟨bt, offt, none⟩) x.2.length c1) ∧ W.cell? ⟨bt, offt + i * 2, none⟩ = some (.string (bs wd))) (fun _ => false) (by kernel_rfl) ?_
          change anyD _ _ _ _ _ _ _ _ _ (w7.drewN 1)
          have hbV := below_drewN' w7.heap.size w7 1
          generalize w7.drewN 1 = V0 at hS hbV ⊢
          (refine anyD_light (i := 0) (v := ?_) rfl (by kernel_rfl) (by kernel_rfl) (by kernel_rfl) (by kernel_rfl) (by kernel_rfl) (fun _ _ _ h => h) (.inl ⟨by kernel_rfl, fun W9 hW9 => ?_⟩) hS ?_; rotate_left; · (obtain ⟨hw0, hw1, hw2, hw3⟩ := hW9; go_simp; rfl))
          (refine anyD_light (i := 1) (v := ?_) rfl (by kernel_rfl) (by kernel_rfl) (by kernel_rfl) (by kernel_rfl) (by kernel_rfl) (fun _ _ _ h => h) (.inl ⟨by kernel_rfl, fun W9 hW9 => ?_⟩) hS ?_; rotate_left; · (obtain ⟨hw0, hw1, hw2, hw3⟩ := hW9; go_simp; rfl))
          (refine anyD_light (i := 2) (v := ?_) rfl (by kernel_rfl) (by kernel_rfl) (by kernel_rfl) (by kernel_rfl) (by kernel_rfl) (fun _ _ _ h => h) (.inl ⟨by kernel_rfl, fun W9 hW9 => ?_⟩) hS ?_; rotate_left; · (obtain ⟨hw0, hw1, hw2, hw3⟩ := hW9; go_simp; rfl))
          (refine anyD_light (i := 3) (v := ?_) rfl (by kernel_rfl) (by kernel_rfl) (by kernel_rfl) (by kernel_rfl) (by kernel_rfl) (fun _ _ _ h => h) (.inl ⟨by kernel_rfl, fun W9 hW9 => ?_⟩) hS ?_; rotate_left; · (obtain ⟨hw0, hw1, hw2, hw3⟩ := hW9; go_simp; rfl))
          (refine anyD_light (i := 4) (v := ?_) rfl (by kernel_rfl) (by kernel_rfl) (by kernel_rfl) (by kernel_rfl) (by kernel_rfl) (fun _ _ _ h => h) (.inl ⟨by kernel_rfl, fun W9 hW9 => ?_⟩) hS ?_; rotate_left; · (obtain ⟨hw0, hw1, hw2, hw3⟩ := hW9; go_simp; rfl))
          (refine anyD_light (i := 5) (v := ?_) rfl (by kernel_rfl) (by kernel_rfl) (by kernel_rfl) (by kernel_rfl) (by kernel_rfl) (fun _ _ _ h => h) (.inl ⟨by kernel_rfl, fun W9 hW9 => ?_⟩) hS ?_; rotate_left; · (obtain ⟨hw0, hw1, hw2, hw3⟩ := hW9; go_simp; rfl))
          go_simp
          (refine anyD_light (i := 6) (v := ?_) rfl (by kernel_rfl) (by kernel_rfl) (by kernel_rfl) (by kernel_rfl) (by kernel_rfl) (fun _ _ _ h => h) (.inl ⟨by kernel_rfl, fun W9 hW9 => ?_⟩) hS ?_; rotate_left; · (obtain ⟨hw0, hw1, hw2, hw3⟩ := hW9; go_simp; rfl))
          (refine anyD_light (i := 7) (v := ?_) rfl (by kernel_rfl) (by kernel_rfl) (by kernel_rfl) (by kernel_rfl) (by kernel_rfl) (fun _ _ _ h => h) (.inl ⟨by kernel_rfl, fun W9 hW9 => ?_⟩) hS ?_; rotate_left; · (obtain ⟨hw0, hw1, hw2, hw3⟩ := hW9; go_simp; rfl))
          go_simp
          refine anyD_one (i := 8) (by kernel_rfl) rfl rfl (fun K hK => ?_)
          have HK := Lib.hid hK
          clear hK
          unfold Oper.wp
          go_simp
          refine ((Hpp.out V0 hbV)).mono ?_
          rintro e w9 ⟨vq, rfl, hrq, hb9⟩
          obtain ⟨AQ, cQ, rfl, _, _⟩ := hrq.form
          have hb19 := hbV.trans (hb9.mono hbV.size)
          clear hS hb9
          have hS := HS.out _ hb19
          refine HK.out _ _ (fun _ => hS) ?_
          clear HK
          go_simp
          refine anyD_one (i := 9) (by kernel_rfl) rfl rfl (fun K hK => ?_)
          have HK := Lib.hid hK
          clear hK
          unfold Oper.wp
          go_simp
          refine ((Hsp.out w9 _ hb19 hrq)).mono ?_
          rintro e w10 ⟨rfl, hb10⟩
          have hb110 := hb19.trans (hb10.mono hb19.size)
          clear hS hb10 hb19 hrq
          have hS := HS.out _ hb110
          refine HK.out _ _ (fun _ => hS) ?_
          clear HK
          (refine anyD_light (i := 10) (v := ?_) rfl (by kernel_rfl) (by kernel_rfl) (by kernel_rfl) (by kernel_rfl) (by kernel_rfl) (fun _ _ _ h => h) (.inl ⟨by kernel_rfl, fun W9 hW9 => ?_⟩) hS ?_; rotate_left; · (obtain ⟨hw0, hw1, hw2, hw3⟩ := hW9; go_simp; rfl))
          go_simp
          refine anyD_done (by kernel_rfl) ?_ _
          have Hfin := Lib.hid (hb.out.trans ((hb7.out.trans (hb110.mono hb7.out.size)).mono hb.out.size))
          clear hb110 hS
          by_cases hL0 : O.length = 0
          · have hd : ¬ (0 : Int) < (O.length : Int) := by omega
            have hst := Hst2.out
            rw [if_pos hL0, Nat.add_zero] at hst
            have Hst3 := Lib.hid hst.symm
            clear hst hL0
            go_wp2
            go_roundw
            case rel => exact ⟨i + 1, by omega, by go_num, by rw [← Hst3.out]; rfl, Hfin⟩
            case measure => simp [intOf]; omega
          · have hd : (0 : Int) < (O.length : Int) := by omega
            have hst := Hst2.out
            rw [if_neg hL0] at hst
            have Hst3 := Lib.hid hst.symm
            have hnw : IntKind.i64.wrap ((N : Int) + 1) = (N : Int) + 1 := IntWalk.i64_in _ (by omega)
            clear hst hL0
            go_wp2
            go_roundw
            case rel => exact ⟨i + 1, by omega, by go_num, by rw [← Hst3.out]; go_num, Hfin⟩
            case measure => simp [intOf]; omega
    · obtain rfl : i = x.2.length := by omega
      have ka := Hs.out.2.1.ext hb.out
      obtain ⟨y0, y1, _, _, _⟩ := ka.two
      rw [G.out.2]
      have hee : ((r.2.length : Int) == (r.2.length : Int)) = true := beq_self_eq_true _
      have Hb := Lib.hid hbw
      clear ka kx hbw
      go_wp2
      try go_quiet (fail)
      try go_wp2
      go_ret
      exact ⟨rfl, Hb.out⟩
end Go.Proofs.YtfjpedgddgbelaaGreatDoor

/-
  The reference's Docs: the texts of an index.
-/
import Derived.Test.YtfjpedgddgbelaaGreatDoorG31
import Derived.Test.YtfjpedgddgbelaaGreatDoorG19
import Derived.Test.YtfjpedgddgbelaaGreatDoorIxB
namespace Go.Proofs.YtfjpedgddgbelaaGreatDoor
open Go.RowKit
set_option linter.unusedVariables false
theorem TDocL : SlT Tryz.prog 1 112 59 24 := SlT.mk' Tryz.underlying112 (by kernel_rfl : (Tryz.prog.info? 59).map (fun i => (i.zero, i.size, i.bytes)) = some (some (.slice none 0 0), 1, 24)) rfl
set_option maxRecDepth 100000 in
set_option maxHeartbeats 8000000 in
theorem docs_ok (a b : Value) (ids : List Int) (ts : List Ix.Term) (w : World) (h0 : SlR intC M0 w a ids) (h1 : SlR termC M0 w b ts) (hpos : ∀ t ∈ ts, ∀ p ∈ t.2, ∀ n ∈ p.2, 0 ≤ n) (hn : ids.length ≤ 1048576) (hK : Sr.costT ts ≤ 4000000000000) (hv : ∀ t ∈ ts, t.1.length ≤ 1048576) :
    Calls Tryz.prog 81 #[.agg #[a, b]] w fun e w' => ∃ (A : Option Addr) (c : Nat) (L : List (List Str)), e = .returned (.slice A L.length c) ∧ Hid (L = ids.map (Sr.docF (ids, ts))) ∧ Own (sliceC strC) M0 w' w.heap.size 59 (.slice A L.length c) L ∧ Below w.heap.size w w' := by
  obtain ⟨A0, c0, rfl, _, _⟩ := h0.form
  obtain ⟨A1, c1, rfl, _, _⟩ := h1.form
  have hm1 := h1.len_le
  unfold maxLen at hm1
  obtain ⟨W0, g, hW, hg, hs, kx, hal⟩ := boxA w #[.slice A0 ids.length c0, .slice A1 ts.length c1] 25
  replace h0 := h0.ext hal
  replace h1 := h1.ext hal
  obtain ⟨K, hKe⟩ : ∃ K, Sr.costT ts = K := ⟨_, rfl⟩
  have HK0 := Lib.hid hKe; have Hpos := Lib.hid hpos; have Hvl := Lib.hid hv
  rw [hKe] at hK
  have HW := Lib.hid hW
  clear hW hs hpos hv hKe
  go_enter Tryz.func81, Tryz.ntmps81
  go_wp2
  rw [HW.out]
  go_loopw [3, 4] (fun ov iv wr => ∃ (i : Nat) (A : Option Addr) (c : Nat) (Lo : List (List Str)), i ≤ ids.length ∧ iv = .int .i64 (i : Int) ∧ ov = .slice A Lo.length c ∧ Hid (Lo = (ids.take i).map (Sr.docF (ids, ts))) ∧ Lo.length = i ∧ Own (sliceC strC) M0 wr W0.heap.size 59 (.slice A Lo.length c) Lo ∧ Below W0.heap.size W0 wr) (fun _ iv _ => ids.length - (intOf iv).toNat)
  case atStart => exact ⟨0, none, 0, [], Nat.zero_le _, rfl, rfl, Lib.hid rfl, rfl, Own.nil _ _ _ _ _, Below.refl _ _⟩
  case round =>
    obtain ⟨i, A2, c2, Lo, hi, rfl, rfl, hLo, hLol, owno, hbo⟩ := hrel
    obtain ⟨wo, rfl⟩ : ∃ W, W = wr := ⟨_, rfl⟩
    obtain ⟨q0, q1, _, _, hgw⟩ := (kx.ext hbo).two
    have hiw : (0 : Int) ≤ (i : Int) := by omega
    by_cases hlt : i < ids.length
    · obtain ⟨b0, o0, rfl, _, _, p0, _⟩ := (h0.ext hbo).intAt hlt
      obtain ⟨id, hid⟩ : ∃ id, id = ids[i] := ⟨_, rfl⟩
      rw [← hid] at p0
      have hii : (i : Int) < (ids.length : Int) := by omega
      have Hid0 := Lib.hid hid; have Howno := Lib.hid owno; have HLol := Lib.hid hLol
      have h1o := h1.ext hbo
      have hb0 := World.block_lt_of_cell? wo _ p0
      have Hp0 := Lib.hid (And.intro p0 hb0); have Hq := Lib.hid (And.intro q0 (And.intro q1 hgw))
      clear hid owno hLol
      go_wp2_with fail
      clear q0 q1 p0
      go_loopw [5, 6] (fun lv kv wr => ∃ (k : Nat) (A : Option Addr) (c : Nat) (L : List Str), k ≤ ts.length ∧ kv = .int .i64 (k : Int) ∧ lv = .slice A L.length c ∧ Hid (L = Sr.docT id [] (ts.take k)) ∧ L.length ≤ 5001 ∧ Sr.tot L + Sr.costT (ts.drop k) ≤ K ∧ Own strC M0 wr wo.heap.size 9 (.slice A L.length c) L ∧ Below wo.heap.size wo wr) (fun _ kv _ => ts.length - (intOf kv).toNat)
      case atStart => exact ⟨0, none, 0, [], Nat.zero_le _, rfl, rfl, Lib.hid rfl, by simp, by rw [List.drop_zero, HK0.out]; simp [Sr.tot], Own.nil _ _ _ _ _, Below.refl _ _⟩
      case round =>
        obtain ⟨k, A3, c3', L0, hk, rfl, rfl, hL0, hL05, ht0, own0, hbk⟩ := hrel
        obtain ⟨wk, rfl⟩ : ∃ W, W = wr := ⟨_, rfl⟩
        have q0 := (hbk.cell hgw).trans Hq.out.1
        have q1 := (hbk.cell hgw).trans Hq.out.2.1
        have hkw : (0 : Int) ≤ (k : Int) := by omega
        by_cases hlk : k < ts.length
        · obtain ⟨b1, o1, A4, c3, rfl, _, hbl1, r0, r1, _, hps⟩ := h1o.termAt hlk
          have hdt := Sr.docT_step id hlk
          rw [← hL0.out] at hdt
          have hcd := Sr.costT_drop hlk
          have hvy := Hvl.out _ (List.getElem_mem hlk)
          have hpt := Hpos.out _ (List.getElem_mem hlk)
          obtain ⟨⟨y, ps⟩, hy⟩ : ∃ t, t = ts[k] := ⟨_, rfl⟩
          rw [← hy] at hdt hcd hvy hpt r0 r1 hps
          dsimp only at hdt hcd hvy hpt r0 r1 hps
          replace r0 := (hbk.cell hbl1).trans r0
          replace r1 := (hbk.cell hbl1).trans r1
          have hpm := hps.len_le
          unfold maxLen at hpm
          obtain ⟨Rt, hRt⟩ : ∃ R, Sr.costT (ts.drop (k + 1)) = R := ⟨_, rfl⟩
          rw [hRt] at hcd
          rw [hcd] at ht0
          have hki : (k : Int) < (ts.length : Int) := by omega
          obtain ⟨W5, g5, hW5, hg5, hs5, k5, hal5⟩ := boxA wk #[.string (bs y), .slice A4 ps.length c3] 43
          have Hdt := Lib.hid hdt; have HRt := Lib.hid hRt; have Hpt := Lib.hid hpt; have HW5 := Lib.hid hW5
          have hn5 : ∀ b, (Value.slice A3 L0.length c3').ownBlock = some b → b ≠ g5 := fun b hb e => by
            have := own0.lt b hb
            omega
          have own05 := own0.ext hal5
          have hb5 := hbk.trans (hal5.mono hbk.size)
          have Hk := Lib.hid (And.intro k5 (And.intro own05 (And.intro hb5 hn5)))
          have Hps := Lib.hid hps
          clear hdt hcd hRt hy hpt hW5 hs5 k5 own05 hn5 hal5 hb5 hps own0 hbl1
          go_wp2_with fail
          rw [HW5.out]
          clear q0 q1 r0 r1
          go_loopw [5, 8] (fun lv nv wr => ∃ (n : Nat) (A : Option Addr) (c : Nat) (L : List Str), n ≤ ps.length ∧ nv = .int .i64 (n : Int) ∧ lv = .slice A L.length c ∧ Hid (L = Sr.docP id y L0 (ps.take n)) ∧ L.length ≤ 5001 ∧ Sr.tot L + Sr.costP y (ps.drop n) + Rt ≤ K ∧ Own strC M0 wr wo.heap.size 9 (.slice A L.length c) L ∧ Below wo.heap.size wo wr ∧ Blk wr g5 43 #[.string (bs y), .slice A4 ps.length c3] ∧ (∀ b, (Value.slice A L.length c).ownBlock = some b → b ≠ g5)) (fun _ nv _ => ps.length - (intOf nv).toNat)
          case atStart =>
            obtain ⟨z1, z2, z3, z4⟩ := Hk.out
            exact ⟨0, A3, c3', L0, Nat.zero_le _, rfl, rfl, Lib.hid rfl, hL05, by rw [List.drop_zero]; omega, z2, z3, z1, z4⟩
          case round =>
            obtain ⟨n, A5, c5, L1, hn', rfl, rfl, hL1, hL15, ht1, own1, hb1, k5, hn5⟩ := hrel
            obtain ⟨wn, rfl⟩ : ∃ W, W = wr := ⟨_, rfl⟩
            obtain ⟨r0, r1, _⟩ := k5.two
            have hn0 : (0 : Int) ≤ (n : Int) := by omega
            by_cases hln : n < ps.length
            · obtain ⟨b3, o3, A6, c4, rfl, _, hb3, s0, s1, _, _, hns⟩ := Hps.out.postAt hln
              have hds := Sr.docP_step id y L0 hln
              rw [← hL1.out] at hds
              have hcp := Sr.costP_drop y hln
              have hpz := Hpt.out _ (List.getElem_mem hln)
              obtain ⟨⟨pid, ns⟩, hp⟩ : ∃ p, p = ps[n] := ⟨_, rfl⟩
              rw [← hp] at hds hcp hpz s0 s1 hns
              dsimp only at hds hcp hpz s0 s1 hns
              obtain ⟨R2, hR2⟩ : ∃ R, Sr.costP y (ps.drop (n + 1)) = R := ⟨_, rfl⟩
              rw [hR2] at hcp
              rw [hcp] at ht1
              have hni : (n : Int) < (ps.length : Int) := by omega
              have t0 := (hb1.cell hb3).trans s0
              have t1 := (hb1.cell hb3).trans s1
              have q0 := (hb1.cell Hq.out.2.2).trans Hq.out.1
              have p0 := (hb1.cell Hp0.out.2).trans Hp0.out.1
              have Hds := Lib.hid hds; have HR2 := Lib.hid hR2; have Hpz := Lib.hid hpz; have Hs1 := Lib.hid (And.intro s1 hb3); have Hns := Lib.hid hns
              have hbd : Below wo.heap.size wo wn.drew := hb1.drew
              have ownd := own1.ext (Below.refl wn.heap.size wn).drew
              have k5d := k5.ext (Below.refl wn.heap.size wn).drew
              have Hd := Lib.hid (And.intro hbd (And.intro ownd k5d))
              clear hds hcp hR2 hpz s0 s1 hns hp hb3 hbd ownd k5d
              by_cases hpe : pid = id
              · have hne : (pid != id) = false := by simp [hpe]
                have Hds2 := Lib.hid (Hds.out.trans (if_pos hpe))
                clear hpe Hds
                go_wp2_with fail
                go_region
                go_wp2_with fail
                clear q0 p0 r0 r1 t0 t1 own1 hb1 k5
                go_loopw [5, 9] (fun lv mv wr => ∃ (m : Nat) (A : Option Addr) (c : Nat) (L : List Str), m ≤ ns.length ∧ mv = .int .i64 (m : Int) ∧ lv = .slice A L.length c ∧ Hid (L = Sr.placesF L1 y (ns.take m)) ∧ L.length ≤ 5001 ∧ Sr.tot L + (ns.length - m) * (y.length + 1) + R2 + Rt ≤ K ∧ Own strC M0 wr wo.heap.size 9 (.slice A L.length c) L ∧ Below wo.heap.size wo wr ∧ Blk wr g5 43 #[.string (bs y), .slice (some ⟨b3, o3, none⟩) ps.length c3] ∧ (∀ b, (Value.slice A L.length c).ownBlock = some b → b ≠ g5)) (fun _ mv _ => ns.length - (intOf mv).toNat)
                case atStart =>
                  obtain ⟨z1, z2, z3⟩ := Hd.out
                  exact ⟨0, A5, c5, L1, Nat.zero_le _, rfl, rfl, Lib.hid rfl, hL15, by rw [Nat.sub_zero]; omega, z2, z1, z3, hn5⟩
                case round =>
                  obtain ⟨m, A7, c7, L2, hm', rfl, rfl, hL2, hL25, ht2, own2, hb2, k52, hn52⟩ := hrel
                  obtain ⟨wm, rfl⟩ : ∃ W, W = wr := ⟨_, rfl⟩
                  obtain ⟨r0, r1, _⟩ := k52.two
                  have t1 := (hb2.cell Hs1.out.2).trans Hs1.out.1
                  have hm0 : (0 : Int) ≤ (m : Int) := by omega
                  have hnsm := Hns.out.len_le
                  unfold maxLen at hnsm
                  by_cases hlm : m < ns.length
                  · obtain ⟨b4, o4, rfl, _, hb4, u0, _, hzz⟩ := Hns.out.intAt hlm
                    have hmul : (ns.length - m) * (y.length + 1) = (ns.length - (m + 1)) * (y.length + 1) + (y.length + 1) := by rw [show ns.length - m = (ns.length - (m + 1)) + 1 by omega, Nat.add_mul, Nat.one_mul]
                    rw [hmul] at ht2
                    obtain ⟨Z, hZ⟩ : ∃ Z, (ns.length - (m + 1)) * (y.length + 1) = Z := ⟨_, rfl⟩
                    rw [hZ] at ht2
                    have hst := Sr.places_step y L1 hlm
                    rw [← hL2.out] at hst
                    obtain ⟨z, hz⟩ : ∃ z : Nat, ns[m] = (z : Int) := ⟨ns[m].toNat, by have := Hpz.out _ (List.getElem_mem hlm); omega⟩
                    rw [hz] at u0 hst hzz
                    rw [Int.toNat_natCast] at hst
                    replace hzz : z ≤ 9223372036854775807 := by omega
                    have hmi : (m : Int) < (ns.length : Int) := by omega
                    have hcells : ∀ W, Below wo.heap.size wo W → Blk W g5 43 #[.string (bs y), .slice (some ⟨b3, o3, none⟩) ps.length c3] → W.cell? ⟨g5, 0, none⟩ = some (.string (bs y)) ∧ W.cell? ⟨g5, 1, none⟩ = some (.slice (some ⟨b3, o3, none⟩) ps.length c3) ∧ W.cell? ⟨b3, o3 + n * 2 + 1, none⟩ = some (.slice (some ⟨b4, o4, none⟩) ns.length c4) ∧ W.cell? ⟨b4, o4 + m, none⟩ = some (.int .i64 (z : Int)) := fun W hb hk => ⟨hk.two.1, hk.two.2.1, (hb.cell Hs1.out.2).trans Hs1.out.1, (hb.cell hb4).trans u0⟩
                    have Hcells := Lib.hid hcells; have Hst := Lib.hid hst; have HZ := Lib.hid hZ; have Hown := Lib.hid own2; have Hbw := Lib.hid hb2; have Hk5 := Lib.hid k52; have Hn5 := Lib.hid hn52
                    have hS := Hcells.out (wm.drewN 1) (Hbw.out.trans (below_drewN' _ _ _)) (Hk5.out.ext (below_drewN' _ _ _))
                    clear hcells hst hZ hz u0 hmul own2 hb2 k52 hn52 hb4 hL2
                    go_wp2_with fail
                    clear r0 r1 t1
                    refine wp_region_D (fun W => W.cell? ⟨g5, 0, none⟩ = some (.string (bs y)) ∧ W.cell? ⟨g5, 1, none⟩ = some (.slice (some ⟨b3, o3, none⟩) ps.length c3) ∧ W.cell? ⟨b3, o3 + n * 2 + 1, none⟩ = some (.slice (some ⟨b4, o4, none⟩) ns.length c4) ∧ W.cell? ⟨b4, o4 + m, none⟩ = some (.int .i64 (z : Int))) (fun _ => false) (by kernel_rfl) ?_
                    change anyD _ _ _ _ _ _ _ _ _ (wm.drewN 1)
                    have hbV := below_drewN' wm.heap.size wm 1
                    generalize wm.drewN 1 = V0 at hS hbV ⊢
                    (refine anyD_light (i := 0) (v := ?_) rfl (by kernel_rfl) (by kernel_rfl) (by kernel_rfl) (by kernel_rfl) (by kernel_rfl) (fun _ _ _ h => h) (.inl ⟨by kernel_rfl, fun W9 hW9 => ?_⟩) hS ?_; rotate_left; · (obtain ⟨hw0, hw1, hw2, hw3⟩ := hW9; go_simp; rfl))
                    (refine anyD_light (i := 1) (v := ?_) rfl (by kernel_rfl) (by kernel_rfl) (by kernel_rfl) (by kernel_rfl) (by kernel_rfl) (fun _ _ _ h => h) (.inl ⟨by kernel_rfl, fun W9 hW9 => ?_⟩) hS ?_; rotate_left; · (obtain ⟨hw0, hw1, hw2, hw3⟩ := hW9; go_simp; rfl))
                    (refine anyD_light (i := 2) (v := ?_) rfl (by kernel_rfl) (by kernel_rfl) (by kernel_rfl) (by kernel_rfl) (by kernel_rfl) (fun _ _ _ h => h) (.inl ⟨by kernel_rfl, fun W9 hW9 => ?_⟩) hS ?_; rotate_left; · (obtain ⟨hw0, hw1, hw2, hw3⟩ := hW9; go_simp; rfl))
                    (refine anyD_light (i := 3) (v := ?_) rfl (by kernel_rfl) (by kernel_rfl) (by kernel_rfl) (by kernel_rfl) (by kernel_rfl) (fun _ _ _ h => h) (.inl ⟨by kernel_rfl, fun W9 hW9 => ?_⟩) hS ?_; rotate_left; · (obtain ⟨hw0, hw1, hw2, hw3⟩ := hW9; go_simp; rfl))
                    (refine anyD_light (i := 4) (v := ?_) rfl (by kernel_rfl) (by kernel_rfl) (by kernel_rfl) (by kernel_rfl) (by kernel_rfl) (fun _ _ _ h => h) (.inl ⟨by kernel_rfl, fun W9 hW9 => ?_⟩) hS ?_; rotate_left; · (obtain ⟨hw0, hw1, hw2, hw3⟩ := hW9; go_simp; rfl))
                    (refine anyD_light (i := 5) (v := ?_) rfl (by kernel_rfl) (by kernel_rfl) (by kernel_rfl) (by kernel_rfl) (by kernel_rfl) (fun _ _ _ h => h) (.inl ⟨by kernel_rfl, fun W9 hW9 => ?_⟩) hS ?_; rotate_left; · (obtain ⟨hw0, hw1, hw2, hw3⟩ := hW9; go_simp; rfl))
                    go_simp
                    (refine anyD_light (i := 6) (v := ?_) rfl (by kernel_rfl) (by kernel_rfl) (by kernel_rfl) (by kernel_rfl) (by kernel_rfl) (fun _ _ _ h => h) (.inl ⟨by kernel_rfl, fun W9 hW9 => ?_⟩) hS ?_; rotate_left; · (obtain ⟨hw0, hw1, hw2, hw3⟩ := hW9; go_simp; rfl))
                    (refine anyD_light (i := 7) (v := ?_) rfl (by kernel_rfl) (by kernel_rfl) (by kernel_rfl) (by kernel_rfl) (by kernel_rfl) (fun _ _ _ h => h) (.inl ⟨by kernel_rfl, fun W9 hW9 => ?_⟩) hS ?_; rotate_left; · (obtain ⟨hw0, hw1, hw2, hw3⟩ := hW9; go_simp; rfl))
                    (refine anyD_light (i := 8) (v := ?_) rfl (by kernel_rfl) (by kernel_rfl) (by kernel_rfl) (by kernel_rfl) (by kernel_rfl) (fun _ _ _ h => h) (.inl ⟨by kernel_rfl, fun W9 hW9 => ?_⟩) hS ?_; rotate_left; · (obtain ⟨hw0, hw1, hw2, hw3⟩ := hW9; go_simp; rfl))
                    (refine anyD_light (i := 9) (v := ?_) rfl (by kernel_rfl) (by kernel_rfl) (by kernel_rfl) (by kernel_rfl) (by kernel_rfl) (fun _ _ _ h => h) (.inl ⟨by kernel_rfl, fun W9 hW9 => ?_⟩) hS ?_; rotate_left; · (obtain ⟨hw0, hw1, hw2, hw3⟩ := hW9; go_simp; rfl))
                    (refine anyD_light (i := 10) (v := ?_) rfl (by kernel_rfl) (by kernel_rfl) (by kernel_rfl) (by kernel_rfl) (by kernel_rfl) (fun _ _ _ h => h) (.inl ⟨by kernel_rfl, fun W9 hW9 => ?_⟩) hS ?_; rotate_left; · (obtain ⟨hw0, hw1, hw2, hw3⟩ := hW9; go_simp; rfl))
                    (refine anyD_light (i := 11) (v := ?_) rfl (by kernel_rfl) (by kernel_rfl) (by kernel_rfl) (by kernel_rfl) (by kernel_rfl) (fun _ _ _ h => h) (.inl ⟨by kernel_rfl, fun W9 hW9 => ?_⟩) hS ?_; rotate_left; · (obtain ⟨hw0, hw1, hw2, hw3⟩ := hW9; go_simp; rfl))
                    go_simp
                    go_simp
                    refine anyD_one (i := 12) (by kernel_rfl) rfl rfl (fun K hK => ?_)
                    have HK := Lib.hid hK
                    clear hK
                    have hpl := placed_ok wo.heap.size A7 c7 L2 z y V0 (Hown.out.ext hbV) (by have := hbV.size; have := Hbw.out.size; omega) hzz hL25 (by omega)
                    have Hpl := Lib.hid hpl
                    clear hpl
                    unfold Oper.wp
                    go_simp
                    refine (Hpl.out).mono ?_
                    rintro e w1 ⟨A9, c9, L9, rfl, hL9, own9, hb9, hk9, ht9⟩
                    have hb19 := (Hbw.out.trans (hbV.mono Hbw.out.size)).trans hb9
                    have k59 : Blk w1 g5 43 #[.string (bs y), .slice (some ⟨b3, o3, none⟩) ps.length c3] := (hk9 g5 (by have := Hk5.out.lt; have := hbV.size; omega) (fun e => Hn5.out g5 e rfl)).trans (Hk5.out.ext hbV)
                    clear hS
                    have hS := Hcells.out w1 hb19 k59
                    refine HK.out _ _ (fun _ => hS) ?_
                    clear HK
                    (refine anyD_light (i := 13) (v := ?_) rfl (by kernel_rfl) (by kernel_rfl) (by kernel_rfl) (by kernel_rfl) (by kernel_rfl) (fun _ _ _ h => h) (.inl ⟨by kernel_rfl, fun W9 hW9 => ?_⟩) hS ?_; rotate_left; · (obtain ⟨hw0, hw1, hw2, hw3⟩ := hW9; go_simp; rfl))
                    go_simp
                    refine anyD_done (by kernel_rfl) ?_ _
                    go_wp2
                    go_roundw
                    case rel => exact ⟨m + 1, A9, c9, L9, by omega, by go_num, rfl, Lib.hid (by rw [hL9.out, Hst.out]), by rw [hL9.out]; exact Sr.placed_le _ _ _ hL25, by have h9 := Sr.placed_tot L2 z y; rw [← hL9.out] at h9; rw [HZ.out]; omega, own9, hb19, k59, fun b hb e => by
                      rcases ht9 b hb with h | h
                      · exact Hn5.out b h e
                      · have := k59.lt; have := Hk5.out.lt; have := hbV.size; omega⟩
                    case measure => simp [intOf]; omega
                  · obtain rfl : m = ns.length := by omega
                    go_wp2
                    go_roundw
                    case rel => exact ⟨n + 1, A7, c7, L2, by omega, by go_num, rfl, Lib.hid (by rw [hL2.out, List.take_length, Hds2.out]), hL25, by rw [HR2.out]; simp at ht2; omega, own2, hb2, k52, hn52⟩
                    case measure => simp [intOf]; omega
              · have hne : (pid != id) = true := by simp [hpe]
                have Hds2 := Lib.hid (Hds.out.trans (if_neg hpe))
                clear hpe Hds
                go_wp2_with fail
                go_region
                go_wp2
                go_roundw
                case rel => exact ⟨n + 1, A5, c5, L1, by omega, by go_num, rfl, Lib.hid (by rw [Hds2.out]), hL15, by rw [HR2.out]; omega, Hd.out.2.1, Hd.out.1, Hd.out.2.2, hn5⟩
                case measure => simp [intOf]; omega
            · obtain rfl : n = ps.length := by omega
              go_wp2
              go_roundw
              case rel => exact ⟨k + 1, A5, c5, L1, by omega, by go_num, rfl, Lib.hid (by rw [hL1.out, List.take_length, Hdt.out]), hL15, by rw [HRt.out]; simp [Sr.costP] at ht1; omega, own1, hb1⟩
              case measure => simp [intOf]; omega
        · obtain rfl : k = ts.length := by omega
          rw [List.take_length] at hL0
          have hM : ∀ b, (Value.slice A3 L0.length c3').ownBlock = some b → ¬ (M0 b ∨ (Value.slice A2 Lo.length c2).ownBlock = some b) := fun b hb h => by
            rcases h with h | h
            · exact h
            · have h1' := Howno.out.lt b h
              have h2' := own0.base b hb
              omega
          have hrow := (own0.flat (M' := fun b => M0 b ∨ (Value.slice A2 Lo.length c2).ownBlock = some b) (w' := wk) fun _ _ => rfl).read hM
          have ownk := Howno.out.ext hbk
          have hbs := hbo.size
          have hbb := Nat.le_trans hbs hbk.size
          clear q0 own0
          go_wp2_with (at_builtin; refine wpList_push_Own (sliceC strC) (M := M0) (B := W0.heap.size) TDocL rfl (.tmp 72) (.tmp 74) rfl rfl ownk rfl (cs := [.slice A3 L0.length c3']) (y := L0) ⟨_, rfl, hrow⟩ (fun _ h => h.elim) ?a1 ?b1 hbb ?_)
          case a1 => have := HLol.out; unfold maxLen; omega
          case b1 => have := HLol.out; omega
          intro A9 c9 L9 w9 hL9 own9 hb9 _ _
          go_wp2
          go_roundw
          case rel => exact ⟨i + 1, A9, c9, L9, by omega, by go_num, rfl, Lib.hid (by rw [hL9.out, hLo.out, List.take_succ_eq_append_getElem hlt, List.map_append, ← Hid0.out, hL0.out]; rfl), by rw [hL9.out, List.length_append, HLol.out]; rfl, own9, (hbo.trans (hbk.mono hbo.size)).trans hb9⟩
          case measure => simp [intOf]; omega
    · obtain rfl : i = ids.length := by omega
      go_wp2
      go_ret
      exact ⟨A2, c2, Lo, rfl, Lib.hid (by rw [hLo.out, List.take_length]), owno.lower hal.size, hal.trans (hbo.mono hal.size)⟩
end Go.Proofs.YtfjpedgddgbelaaGreatDoor

/-
  Contracts and plain facts, one after another: The reference's Docs: the texts of an index; The reference's isWord, stands; The reference's Nodes; The law's plain: an index of small places and plain words.
-/
import Derived.Test.YtnlhocbaighedaaGreatDoorR23
import Derived.Test.YtnlhocbaighedaaGreatDoorQyNd
import Derived.Test.YtnlhocbaighedaaGreatDoorIxB
import Derived.Test.YtnlhocbaighedaaGreatDoorSrSp
import Derived.Test.YtnlhocbaighedaaGreatDoorR2
import Derived.Test.YtnlhocbaighedaaGreatDoorR19
import Derived.Test.YtnlhocbaighedaaGreatDoorR16
import Derived.Test.YtnlhocbaighedaaGreatDoorR4
namespace Go.Proofs.YtnlhocbaighedaaGreatDoor
open Go.RowKit
set_option linter.unusedVariables false
theorem TDocL : SlT Tryz.prog 1 65 53 24 := SlT.mk' Tryz.underlying65 (by kernel_rfl : (Tryz.prog.info? 53).map (fun i => (i.zero, i.size, i.bytes)) = some (some (.slice none 0 0), 1, 24)) rfl
set_option maxRecDepth 100000 in
set_option maxHeartbeats 8000000 in
theorem docs_ok (a b : Value) (ids : List Int) (ts : List Ix.Term) (w : World) (h0 : SlR intC M0 w a ids) (h1 : SlR termC M0 w b ts) (hpos : ∀ t ∈ ts, ∀ p ∈ t.2, ∀ n ∈ p.2, 0 ≤ n) (hn : ids.length ≤ 1048576) (hK : Sr.costT ts ≤ 4000000000000) (hv : ∀ t ∈ ts, t.1.length ≤ 1048576) :
  Calls Tryz.prog 29 #[.agg #[a, b]] w fun e w' => ∃ (A : Option Addr) (c : Nat) (L : List (List Str)), e = .returned (.slice A L.length c) ∧ Hid (L = ids.map (Sr.docF (ids, ts))) ∧ Own (sliceC strC) M0 w' w.heap.size 53 (.slice A L.length c) L ∧ Below w.heap.size w w' := by
 obtain ⟨A0, c0, rfl, _, _⟩ := h0.form
 obtain ⟨A1, c1, rfl, _, _⟩ := h1.form
 have hm1 := h1.len_le
 unfold maxLen at hm1
 obtain ⟨W0, g, hW, hg, hs, kx, hal⟩ := boxA w #[.slice A0 ids.length c0, .slice A1 ts.length c1] 25
 replace h0 := h0.ext hal
 replace h1 := h1.ext hal
 obtain ⟨K, hKe⟩ : ∃ K, Sr.costT ts = K := ⟨_, rfl⟩
 have HK0 := Lib.hid hKe; have Hpos := Lib.hid hpos; have Hvl := Lib.hid hv
 rw [hKe] at hK
 have HW := Lib.hid hW
 clear hW hs hpos hv hKe
 go_enter Tryz.func29, Tryz.ntmps29
 go_wp2
 rw [HW.out]
 go_loopw [3, 4] (fun ov iv wr => ∃ (i : Nat) (A : Option Addr) (c : Nat) (Lo : List (List Str)), i ≤ ids.length ∧ iv = .int .i64 (i : Int) ∧ ov = .slice A Lo.length c ∧ Hid (Lo = (ids.take i).map (Sr.docF (ids, ts))) ∧ Lo.length = i ∧ Own (sliceC strC) M0 wr W0.heap.size 53 (.slice A Lo.length c) Lo ∧ Below W0.heap.size W0 wr) (fun _ iv _ => ids.length - (intOf iv).toNat)
 case atStart => exact ⟨0, none, 0, [], Nat.zero_le _, rfl, rfl, Lib.hid rfl, rfl, Own.nil _ _ _ _ _, Below.refl _ _⟩
 case round =>
  obtain ⟨i, A2, c2, Lo, hi, rfl, rfl, hLo, hLol, owno, hbo⟩ := hrel
  obtain ⟨wo, rfl⟩ : ∃ W, W = wr := ⟨_, rfl⟩
  obtain ⟨q0, q1, _, _, hgw⟩ := (kx.ext hbo).two
  have hiw : (0 : Int) ≤ (i : Int) := by omega
  by_cases hlt : i < ids.length
  ·obtain ⟨b0, o0, rfl, _, _, p0, _⟩ := (h0.ext hbo).intAt hlt
   obtain ⟨id, hid⟩ : ∃ id, id = ids[i] := ⟨_, rfl⟩
   rw [← hid] at p0
   have hii : (i : Int) < (ids.length : Int) := by omega
   have Hid0 := Lib.hid hid; have Howno := Lib.hid owno; have HLol := Lib.hid hLol
   have h1o := h1.ext hbo
   have hb0 := World.block_lt_of_cell? wo _ p0
   have Hp0 := Lib.hid (And.intro p0 hb0); have Hq := Lib.hid (And.intro q0 (And.intro q1 hgw))
   clear hid owno hLol
   go_wp2_with fail
   clear q0 q1 p0
   go_loopw [5, 6] (fun lv kv wr => ∃ (k : Nat) (A : Option Addr) (c : Nat) (L : List Str), k ≤ ts.length ∧ kv = .int .i64 (k : Int) ∧ lv = .slice A L.length c ∧ Hid (L = Sr.docT id [] (ts.take k)) ∧ L.length ≤ 5001 ∧ Sr.tot L + Sr.costT (ts.drop k) ≤ K ∧ Own strC M0 wr wo.heap.size 9 (.slice A L.length c) L ∧ Below wo.heap.size wo wr) (fun _ kv _ => ts.length - (intOf kv).toNat)
   case atStart => exact ⟨0, none, 0, [], Nat.zero_le _, rfl, rfl, Lib.hid rfl, by simp, by rw [List.drop_zero, HK0.out]; simp [Sr.tot], Own.nil _ _ _ _ _, Below.refl _ _⟩
   case round =>
    obtain ⟨k, A3, c3', L0, hk, rfl, rfl, hL0, hL05, ht0, own0, hbk⟩ := hrel
    obtain ⟨wk, rfl⟩ : ∃ W, W = wr := ⟨_, rfl⟩
    have q0 := (hbk.cell hgw).trans Hq.out.1
    have q1 := (hbk.cell hgw).trans Hq.out.2.1
    have hkw : (0 : Int) ≤ (k : Int) := by omega
    by_cases hlk : k < ts.length
    ·obtain ⟨b1, o1, A4, c3, rfl, _, hbl1, r0, r1, _, hps⟩ := h1o.termAt hlk
     have hdt := Sr.docT_step id hlk
     rw [← hL0.out] at hdt
     have hcd := Sr.costT_drop hlk
     have hvy := Hvl.out _ (List.getElem_mem hlk)
     have hpt := Hpos.out _ (List.getElem_mem hlk)
     obtain ⟨⟨y, ps⟩, hy⟩ : ∃ t, t = ts[k] := ⟨_, rfl⟩
     rw [← hy] at hdt hcd hvy hpt r0 r1 hps
     dsimp only at hdt hcd hvy hpt r0 r1 hps
     replace r0 := (hbk.cell hbl1).trans r0
     replace r1 := (hbk.cell hbl1).trans r1
     have hpm := hps.len_le
     unfold maxLen at hpm
     obtain ⟨Rt, hRt⟩ : ∃ R, Sr.costT (ts.drop (k + 1)) = R := ⟨_, rfl⟩
     rw [hRt] at hcd
     rw [hcd] at ht0
     have hki : (k : Int) < (ts.length : Int) := by omega
     obtain ⟨W5, g5, hW5, hg5, hs5, k5, hal5⟩ := boxA wk #[.string (bs y), .slice A4 ps.length c3] 62
     have Hdt := Lib.hid hdt; have HRt := Lib.hid hRt; have Hpt := Lib.hid hpt; have HW5 := Lib.hid hW5
     have hn5 : ∀ b, (Value.slice A3 L0.length c3').ownBlock = some b → b ≠ g5 := fun b hb e => by
      have := own0.lt b hb
      omega
     have own05 := own0.ext hal5
     have hb5 := hbk.trans (hal5.mono hbk.size)
     have Hk := Lib.hid (And.intro k5 (And.intro own05 (And.intro hb5 hn5)))
     have Hps := Lib.hid hps
     clear hdt hcd hRt hy hpt hW5 hs5 k5 own05 hn5 hal5 hb5 hps own0 hbl1
     go_wp2_with fail
     rw [HW5.out]
     clear q0 q1 r0 r1
     go_loopw [5, 8] (fun lv nv wr => ∃ (n : Nat) (A : Option Addr) (c : Nat) (L : List Str), n ≤ ps.length ∧ nv = .int .i64 (n : Int) ∧ lv = .slice A L.length c ∧ Hid (L = Sr.docP id y L0 (ps.take n)) ∧ L.length ≤ 5001 ∧ Sr.tot L + Sr.costP y (ps.drop n) + Rt ≤ K ∧ Own strC M0 wr wo.heap.size 9 (.slice A L.length c) L ∧ Below wo.heap.size wo wr ∧ Blk wr g5 62 #[.string (bs y), .slice A4 ps.length c3] ∧ (∀ b, (Value.slice A L.length c).ownBlock = some b → b ≠ g5)) (fun _ nv _ => ps.length - (intOf nv).toNat)
     case atStart =>
      obtain ⟨z1, z2, z3, z4⟩ := Hk.out
      exact ⟨0, A3, c3', L0, Nat.zero_le _, rfl, rfl, Lib.hid rfl, hL05, by rw [List.drop_zero]; omega, z2, z3, z1, z4⟩
     case round =>
      obtain ⟨n, A5, c5, L1, hn', rfl, rfl, hL1, hL15, ht1, own1, hb1, k5, hn5⟩ := hrel
      obtain ⟨wn, rfl⟩ : ∃ W, W = wr := ⟨_, rfl⟩
      obtain ⟨r0, r1, _⟩ := k5.two
      have hn0 : (0 : Int) ≤ (n : Int) := by omega
      by_cases hln : n < ps.length
      ·obtain ⟨b3, o3, A6, c4, rfl, _, hb3, s0, s1, _, _, hns⟩ := Hps.out.postAt hln
       have hds := Sr.docP_step id y L0 hln
       rw [← hL1.out] at hds
       have hcp := Sr.costP_drop y hln
       have hpz := Hpt.out _ (List.getElem_mem hln)
       obtain ⟨⟨pid, ns⟩, hp⟩ : ∃ p, p = ps[n] := ⟨_, rfl⟩
       rw [← hp] at hds hcp hpz s0 s1 hns
       dsimp only at hds hcp hpz s0 s1 hns
       obtain ⟨R2, hR2⟩ : ∃ R, Sr.costP y (ps.drop (n + 1)) = R := ⟨_, rfl⟩
       rw [hR2] at hcp
       rw [hcp] at ht1
       have hni : (n : Int) < (ps.length : Int) := by omega
       have t0 := (hb1.cell hb3).trans s0
       have t1 := (hb1.cell hb3).trans s1
       have q0 := (hb1.cell Hq.out.2.2).trans Hq.out.1
       have p0 := (hb1.cell Hp0.out.2).trans Hp0.out.1
       have Hds := Lib.hid hds; have HR2 := Lib.hid hR2; have Hpz := Lib.hid hpz; have Hs1 := Lib.hid (And.intro s1 hb3); have Hns := Lib.hid hns
       have hbd : Below wo.heap.size wo wn.drew := hb1.drew
       have ownd := own1.ext (Below.refl wn.heap.size wn).drew
       have k5d := k5.ext (Below.refl wn.heap.size wn).drew
       have Hd := Lib.hid (And.intro hbd (And.intro ownd k5d))
       clear hds hcp hR2 hpz s0 s1 hns hp hb3 hbd ownd k5d
       by_cases hpe : pid = id
       ·have hne : (pid != id) = false := by simp [hpe]
        have Hds2 := Lib.hid (Hds.out.trans (if_pos hpe))
        clear hpe Hds
        go_wp2_with fail
        go_region
        go_wp2_with fail
        clear q0 p0 r0 r1 t0 t1 own1 hb1 k5
        go_loopw [5, 9] (fun lv mv wr => ∃ (m : Nat) (A : Option Addr) (c : Nat) (L : List Str), m ≤ ns.length ∧ mv = .int .i64 (m : Int) ∧ lv = .slice A L.length c ∧ Hid (L = Sr.placesF L1 y (ns.take m)) ∧ L.length ≤ 5001 ∧ Sr.tot L + (ns.length - m) * (y.length + 1) + R2 + Rt ≤ K ∧ Own strC M0 wr wo.heap.size 9 (.slice A L.length c) L ∧ Below wo.heap.size wo wr ∧ Blk wr g5 62 #[.string (bs y), .slice (some ⟨b3, o3, none⟩) ps.length c3] ∧ (∀ b, (Value.slice A L.length c).ownBlock = some b → b ≠ g5)) (fun _ mv _ => ns.length - (intOf mv).toNat)
        case atStart =>
         obtain ⟨z1, z2, z3⟩ := Hd.out
         exact ⟨0, A5, c5, L1, Nat.zero_le _, rfl, rfl, Lib.hid rfl, hL15, by rw [Nat.sub_zero]; omega, z2, z1, z3, hn5⟩
        case round =>
         obtain ⟨m, A7, c7, L2, hm', rfl, rfl, hL2, hL25, ht2, own2, hb2, k52, hn52⟩ := hrel
         obtain ⟨wm, rfl⟩ : ∃ W, W = wr := ⟨_, rfl⟩
         obtain ⟨r0, r1, _⟩ := k52.two
         have t1 := (hb2.cell Hs1.out.2).trans Hs1.out.1
         have hm0 : (0 : Int) ≤ (m : Int) := by omega
         have hnsm := Hns.out.len_le
         unfold maxLen at hnsm
         by_cases hlm : m < ns.length
         ·obtain ⟨b4, o4, rfl, _, hb4, u0, _, hzz⟩ := Hns.out.intAt hlm
          have hmul : (ns.length - m) * (y.length + 1) = (ns.length - (m + 1)) * (y.length + 1) + (y.length + 1) := by rw [show ns.length - m = (ns.length - (m + 1)) + 1 by omega, Nat.add_mul, Nat.one_mul]
          rw [hmul] at ht2
          obtain ⟨Z, hZ⟩ : ∃ Z, (ns.length - (m + 1)) * (y.length + 1) = Z := ⟨_, rfl⟩
          rw [hZ] at ht2
          have hst := Sr.places_step y L1 hlm
          rw [← hL2.out] at hst
          obtain ⟨z, hz⟩ : ∃ z : Nat, ns[m] = (z : Int) := ⟨ns[m].toNat, by have := Hpz.out _ (List.getElem_mem hlm); omega⟩
          rw [hz] at u0 hst hzz
          rw [Int.toNat_natCast] at hst
          replace hzz : z ≤ 9223372036854775807 := by omega
          have hmi : (m : Int) < (ns.length : Int) := by omega
          have hcells : ∀ W, Below wo.heap.size wo W → Blk W g5 62 #[.string (bs y), .slice (some ⟨b3, o3, none⟩) ps.length c3] → W.cell? ⟨g5, 0, none⟩ = some (.string (bs y)) ∧ W.cell? ⟨g5, 1, none⟩ = some (.slice (some ⟨b3, o3, none⟩) ps.length c3) ∧ W.cell? ⟨b3, o3 + n * 2 + 1, none⟩ = some (.slice (some ⟨b4, o4, none⟩) ns.length c4) ∧ W.cell? ⟨b4, o4 + m, none⟩ = some (.int .i64 (z : Int)) := fun W hb hk => ⟨hk.two.1, hk.two.2.1, (hb.cell Hs1.out.2).trans Hs1.out.1, (hb.cell hb4).trans u0⟩
          have Hcells := Lib.hid hcells; have Hst := Lib.hid hst; have HZ := Lib.hid hZ; have Hown := Lib.hid own2; have Hbw := Lib.hid hb2; have Hk5 := Lib.hid k52; have Hn5 := Lib.hid hn52
          have hS := Hcells.out (wm.drewN 1) (Hbw.out.trans (below_drewN' _ _ _)) (Hk5.out.ext (below_drewN' _ _ _))
          clear hcells hst hZ hz u0 hmul own2 hb2 k52 hn52 hb4 hL2
          go_wp2_with fail
          clear r0 r1 t1
          refine wp_region_D (fun W => W.cell? ⟨g5, 0, none⟩ = some (.string (bs y)) ∧ W.cell? ⟨g5, 1, none⟩ = some (.slice (some ⟨b3, o3, none⟩) ps.length c3) ∧ W.cell? ⟨b3, o3 + n * 2 + 1, none⟩ = some (.slice (some ⟨b4, o4, none⟩) ns.length c4) ∧ W.cell? ⟨b4, o4 + m, none⟩ = some (.int .i64 (z : Int))) (fun _ => false) (by kernel_rfl) ?_
          change anyD _ _ _ _ _ _ _ _ _ (wm.drewN 1)
          have hbV := below_drewN' wm.heap.size wm 1
          generalize wm.drewN 1 = V0 at hS hbV ⊢
          (refine anyD_l5 (i := 0) (v := ?_) rfl (by kernel_rfl) (fun _ _ _ h => h) (.inl ⟨by kernel_rfl, fun W9 hW9 => ?_⟩) hS ?_; rotate_left; · (obtain ⟨hw0, hw1, hw2, hw3⟩ := hW9; go_simp; rfl))
          (refine anyD_l5 (i := 1) (v := ?_) rfl (by kernel_rfl) (fun _ _ _ h => h) (.inl ⟨by kernel_rfl, fun W9 hW9 => ?_⟩) hS ?_; rotate_left; · (obtain ⟨hw0, hw1, hw2, hw3⟩ := hW9; go_simp; rfl))
          (refine anyD_l5 (i := 2) (v := ?_) rfl (by kernel_rfl) (fun _ _ _ h => h) (.inl ⟨by kernel_rfl, fun W9 hW9 => ?_⟩) hS ?_; rotate_left; · (obtain ⟨hw0, hw1, hw2, hw3⟩ := hW9; go_simp; rfl))
          (refine anyD_l5 (i := 3) (v := ?_) rfl (by kernel_rfl) (fun _ _ _ h => h) (.inl ⟨by kernel_rfl, fun W9 hW9 => ?_⟩) hS ?_; rotate_left; · (obtain ⟨hw0, hw1, hw2, hw3⟩ := hW9; go_simp; rfl))
          (refine anyD_l5 (i := 4) (v := ?_) rfl (by kernel_rfl) (fun _ _ _ h => h) (.inl ⟨by kernel_rfl, fun W9 hW9 => ?_⟩) hS ?_; rotate_left; · (obtain ⟨hw0, hw1, hw2, hw3⟩ := hW9; go_simp; rfl))
          (refine anyD_l5 (i := 5) (v := ?_) rfl (by kernel_rfl) (fun _ _ _ h => h) (.inl ⟨by kernel_rfl, fun W9 hW9 => ?_⟩) hS ?_; rotate_left; · (obtain ⟨hw0, hw1, hw2, hw3⟩ := hW9; go_simp; rfl))
          go_simp
          (refine anyD_l5 (i := 6) (v := ?_) rfl (by kernel_rfl) (fun _ _ _ h => h) (.inl ⟨by kernel_rfl, fun W9 hW9 => ?_⟩) hS ?_; rotate_left; · (obtain ⟨hw0, hw1, hw2, hw3⟩ := hW9; go_simp; rfl))
          (refine anyD_l5 (i := 7) (v := ?_) rfl (by kernel_rfl) (fun _ _ _ h => h) (.inl ⟨by kernel_rfl, fun W9 hW9 => ?_⟩) hS ?_; rotate_left; · (obtain ⟨hw0, hw1, hw2, hw3⟩ := hW9; go_simp; rfl))
          (refine anyD_l5 (i := 8) (v := ?_) rfl (by kernel_rfl) (fun _ _ _ h => h) (.inl ⟨by kernel_rfl, fun W9 hW9 => ?_⟩) hS ?_; rotate_left; · (obtain ⟨hw0, hw1, hw2, hw3⟩ := hW9; go_simp; rfl))
          (refine anyD_l5 (i := 9) (v := ?_) rfl (by kernel_rfl) (fun _ _ _ h => h) (.inl ⟨by kernel_rfl, fun W9 hW9 => ?_⟩) hS ?_; rotate_left; · (obtain ⟨hw0, hw1, hw2, hw3⟩ := hW9; go_simp; rfl))
          (refine anyD_l5 (i := 10) (v := ?_) rfl (by kernel_rfl) (fun _ _ _ h => h) (.inl ⟨by kernel_rfl, fun W9 hW9 => ?_⟩) hS ?_; rotate_left; · (obtain ⟨hw0, hw1, hw2, hw3⟩ := hW9; go_simp; rfl))
          (refine anyD_l5 (i := 11) (v := ?_) rfl (by kernel_rfl) (fun _ _ _ h => h) (.inl ⟨by kernel_rfl, fun W9 hW9 => ?_⟩) hS ?_; rotate_left; · (obtain ⟨hw0, hw1, hw2, hw3⟩ := hW9; go_simp; rfl))
          go_simp
          go_simp
          refine anyD_one (i := 12) (by kernel_rfl) rfl rfl (fun K hK => ?_)
          have HK := Lib.hid hK
          clear hK
          have hpl := placed_ok wo.heap.size A7 c7 L2 z y V0 (Hown.out.ext hbV) (by have := hbV.size; have := Hbw.out.size; omega) hzz hL25 (by omega)
          have Hpl := Lib.hid hpl
          clear hpl
          unfold Oper.wp
          go_simp
          refine (Hpl.out).mono ?_
          rintro e w1 ⟨A9, c9, L9, rfl, hL9, own9, hb9, hk9, ht9⟩
          have hb19 := (Hbw.out.trans (hbV.mono Hbw.out.size)).trans hb9
          have k59 : Blk w1 g5 62 #[.string (bs y), .slice (some ⟨b3, o3, none⟩) ps.length c3] := (hk9 g5 (by have := Hk5.out.lt; have := hbV.size; omega) (fun e => Hn5.out g5 e rfl)).trans (Hk5.out.ext hbV)
          clear hS
          have hS := Hcells.out w1 hb19 k59
          refine HK.out _ _ (fun _ => hS) ?_
          clear HK
          (refine anyD_l5 (i := 13) (v := ?_) rfl (by kernel_rfl) (fun _ _ _ h => h) (.inl ⟨by kernel_rfl, fun W9 hW9 => ?_⟩) hS ?_; rotate_left; · (obtain ⟨hw0, hw1, hw2, hw3⟩ := hW9; go_simp; rfl))
          go_simp
          refine anyD_done (by kernel_rfl) ?_ _
          go_wp2
          go_roundw
          case rel => exact ⟨m + 1, A9, c9, L9, by omega, by go_num, rfl, Lib.hid (by rw [hL9.out, Hst.out]), by rw [hL9.out]; exact Sr.placed_le _ _ _ hL25, by have h9 := Sr.placed_tot L2 z y; rw [← hL9.out] at h9; rw [HZ.out]; omega, own9, hb19, k59, fun b hb e => by
           rcases ht9 b hb with h | h
           ·exact Hn5.out b h e
           ·have := k59.lt; have := Hk5.out.lt; have := hbV.size; omega⟩
          case measure => simp [intOf]; omega
         ·obtain rfl : m = ns.length := by omega
          go_wp2
          go_roundw
          case rel => exact ⟨n + 1, A7, c7, L2, by omega, by go_num, rfl, Lib.hid (by rw [hL2.out, List.take_length, Hds2.out]), hL25, by rw [HR2.out]; simp at ht2; omega, own2, hb2, k52, hn52⟩
          case measure => simp [intOf]; omega
       ·have hne : (pid != id) = true := by simp [hpe]
        have Hds2 := Lib.hid (Hds.out.trans (if_neg hpe))
        clear hpe Hds
        go_wp2_with fail
        go_region
        go_wp2
        go_roundw
        case rel => exact ⟨n + 1, A5, c5, L1, by omega, by go_num, rfl, Lib.hid (by rw [Hds2.out]), hL15, by rw [HR2.out]; omega, Hd.out.2.1, Hd.out.1, Hd.out.2.2, hn5⟩
        case measure => simp [intOf]; omega
      ·obtain rfl : n = ps.length := by omega
       go_wp2
       go_roundw
       case rel => exact ⟨k + 1, A5, c5, L1, by omega, by go_num, rfl, Lib.hid (by rw [hL1.out, List.take_length, Hdt.out]), hL15, by rw [HRt.out]; simp [Sr.costP] at ht1; omega, own1, hb1⟩
       case measure => simp [intOf]; omega
    ·obtain rfl : k = ts.length := by omega
     rw [List.take_length] at hL0
     have hM : ∀ b, (Value.slice A3 L0.length c3').ownBlock = some b → ¬ (M0 b ∨ (Value.slice A2 Lo.length c2).ownBlock = some b) := fun b hb h => by
      rcases h with h | h
      ·exact h
      ·have h1' := Howno.out.lt b h
       have h2' := own0.base b hb
       omega
     have hrow := (own0.flat (M' := fun b => M0 b ∨ (Value.slice A2 Lo.length c2).ownBlock = some b) (w' := wk) fun _ _ => rfl).read hM
     have ownk := Howno.out.ext hbk
     have hbs := hbo.size
     have hbb := Nat.le_trans hbs hbk.size
     clear q0 own0
     go_wp2_with (at_builtin; refine wpList_push_Own (sliceC strC) (M := M0) (B := W0.heap.size) TDocL rfl (.tmp 72) (.tmp 74) rfl rfl ownk rfl (cs := [.slice A3 L0.length c3']) (y := L0) ⟨_, rfl, hrow⟩ (fun _ h => h.elim) ?a1 ?b1 hbb ?_)
     case a1 => have := HLol.out; unfold maxLen; omega
     case b1 => have := HLol.out; omega
     intro A9 c9 L9 w9 hL9 own9 hb9 _ _
     go_wp2
     go_roundw
     case rel => exact ⟨i + 1, A9, c9, L9, by omega, by go_num, rfl, Lib.hid (by rw [hL9.out, hLo.out, List.take_succ_eq_append_getElem hlt, List.map_append, ← Hid0.out, hL0.out]; rfl), by rw [hL9.out, List.length_append, HLol.out]; rfl, own9, (hbo.trans (hbk.mono hbo.size)).trans hb9⟩
     case measure => simp [intOf]; omega
  ·obtain rfl : i = ids.length := by omega
   go_wp2
   go_ret
   exact ⟨A2, c2, Lo, rfl, Lib.hid (by rw [hLo.out, List.take_length]), owno.lower hal.size, hal.trans (hbo.mono hal.size)⟩
end Go.Proofs.YtnlhocbaighedaaGreatDoor
namespace Go.Proofs.YtnlhocbaighedaaGreatDoor
open Go.RowKit
set_option linter.unusedVariables false
set_option maxRecDepth 100000 in
set_option maxHeartbeats 4000000 in
theorem isWord_ok (s : Str) (hs : s.length ≤ 4000000) (w : World) (hT : TabsU w) : Calls Tryz.prog 40 #[.string (bs s)] w fun e w' => e = .returned (.bool (Q.wordOk s)) ∧ Below w.heap.size w w' := by
 have hw := refWords_ok s hs w hT
 have Hw := Lib.hid hw
 clear hw hT
 go_enter Tryz.func40, Tryz.ntmps40
 go_wp2_with fail
 refine Hw.out.mono ?_
 rintro e w1 ⟨A, c, L, rfl, hL, own, hb⟩
 have hw : Q.wordOk s = (decide (s.length ≤ 8000) && (L == [s])) := by rw [hL.out]; rfl
 clear Hw
 by_cases h1 : s.length ≤ 8000
 ·have h1i : (s.length : Int) ≤ 8000 := by omega
  match L, own, hw with
  | [x], own, hw =>
   obtain ⟨b, off, rfl, _, _, p0, _⟩ := own.read0.strAt (k := 0) (by simp)
   have hw2 : Q.wordOk s = (x == s) := by
    rw [hw, decide_eq_true h1, Bool.true_and, Bool.eq_iff_iff]; simp
   have Hw := Lib.hid hw2
   clear hw hw2
   simp only [List.getElem_cons_zero, Nat.add_zero] at p0
   cases ht : (x == s) with
   | true =>
    go_wp2
    go_ret
    exact ⟨ret_bool (by rw [Hw.out, ht]), hb⟩
   | false =>
    go_wp2
    go_ret
    exact ⟨ret_bool (by rw [Hw.out, ht]), hb⟩
  | [], own, hw =>
   have hw2 : Q.wordOk s = false := by rw [hw, Bool.eq_false_iff]; simp
   have Hw := Lib.hid hw2
   clear hw hw2
   go_wp2
   go_ret
   exact ⟨ret_bool (by rw [Hw.out]), hb⟩
  | x :: y :: r, own, hw =>
   have hw2 : Q.wordOk s = false := by rw [hw, Bool.eq_false_iff]; simp
   have hl : (((x :: y :: r).length : Int) == 1) = false := by rw [beq_eq_false_iff_ne]; simp only [List.length_cons]; omega
   have Hw := Lib.hid hw2
   clear hw hw2
   go_wp2
   go_ret
   exact ⟨ret_bool (by rw [Hw.out]), hb⟩
 ·have h1i : ¬ (s.length : Int) ≤ 8000 := by omega
  have hw2 : Q.wordOk s = false := by rw [hw, decide_eq_false h1, Bool.false_and]
  have Hw := Lib.hid hw2
  clear hw hw2
  go_wp2
  go_ret
  exact ⟨ret_bool (by rw [Hw.out]), hb⟩
set_option maxRecDepth 100000 in
set_option maxHeartbeats 4000000 in
theorem stands_ok (v : Value) (l : List Str) (i : Int) (x : Str) (w : World) (h : SlR strC M0 w v l) (h0 : 0 ≤ i) (hi : i ≤ 9223372036854775807) (hl : ∀ s ∈ l, s.length ≤ 4398046511104) :
  Calls Tryz.prog 31 #[v, .int .i64 i, .string (bs x)] w fun e w' => e = .returned (.bool (Sr.standsF l i.toNat x)) ∧ Below w.heap.size w w' := by
 obtain ⟨A, c, rfl, _, _⟩ := h.form
 have hcm := h.len_le
 unfold maxLen at hcm
 by_cases hlt : i.toNat < l.length
 ·obtain ⟨b, off, rfl, _, _, p0, _⟩ := h.strAt hlt
  have hs := refSplit_ok l[i.toNat] (hl _ (List.getElem_mem hlt)) w
  have hf : Sr.standsF l i.toNat x = (splitS l[i.toNat]).any (· == x) := by
   unfold Sr.standsF
   rw [decide_eq_true hlt, Bool.true_and, Ix.getD_get hlt, contains_anyS]
  obtain ⟨k, rfl⟩ : ∃ k : Nat, i = (k : Int) := ⟨i.toNat, by omega⟩
  simp only [Int.toNat_natCast] at p0 hs hf hlt ⊢
  obtain ⟨y, hy⟩ : ∃ y, y = l[k] := ⟨_, rfl⟩
  rw [← hy] at p0 hs hf
  have Hs := Lib.hid hs; have Hf := Lib.hid hf
  have hki : (k : Int) < (l.length : Int) := by omega
  clear hs hf hy hl
  go_enter Tryz.func31, Tryz.ntmps31
  go_wp2_with fail
  refine Hs.out.mono ?_
  rintro e w1 ⟨A2, c2, L, rfl, hL, own, hb⟩
  have hh := hasText_ok M0 _ L x w1 own.read0
  have Hh := Lib.hid hh
  clear hh
  go_wp2_with fail
  refine Hh.out.mono ?_
  rintro e w2 ⟨rfl, rfl⟩
  go_wp2
  go_ret
  exact ⟨ret_bool (by rw [Hf.out, hL.out]), hb⟩
 ·have hf : Sr.standsF l i.toNat x = false := by unfold Sr.standsF; rw [decide_eq_false hlt, Bool.false_and]
  have hki : ¬ i < (l.length : Int) := by omega
  have Hf := Lib.hid hf
  clear hf hl
  go_enter Tryz.func31, Tryz.ntmps31
  go_wp2
  go_ret
  exact ⟨ret_bool (by rw [Hf.out]), Below.refl _ _⟩
end Go.Proofs.YtnlhocbaighedaaGreatDoor
namespace Go.Proofs.YtnlhocbaighedaaGreatDoor
open Go.RowKit
set_option linter.unusedVariables false
theorem TQs : SlT Tryz.prog 4 26 28 56 := SlT.mk' Tryz.underlying26 (by kernel_rfl : (Tryz.prog.info? 28).map (fun i => (i.zero, i.size, i.bytes)) = some (some (.agg #[.int .i64 0, .string ⟨#[]⟩, .int .i64 0, .slice none 0 0]), 4, 56)) rfl
theorem QAt.sub {f : Nat} {M M' : Nat → Prop} {w : World} {v : Value} {q : Q} (h : QAt f M w v q) (hm : ∀ b, b < w.heap.size → M' b → M b) : QAt f M' w v q := by
 obtain ⟨A, c, e, h1, h2, h3, hv⟩ := h
 exact ⟨A, c, e, h1, h2, h3, hv.sub hm⟩
set_option maxRecDepth 100000 in
set_option maxHeartbeats 4000000 in
theorem nodes_ok : ∀ (f : Nat) (q : Q) (v : Value) (n : Nat) (w : World) (M : Nat → Prop), n ≤ 60 → (∀ b, M b → b < w.heap.size) → QAt f M w v q → q.bulk ≤ 4000000 →
  Calls Tryz.prog 38 #[v, .int .i64 (n : Int)] w fun r w' => ∃ (A : Option Addr) (c : Nat) (L : List Q), r = .returned (.slice A L.length c) ∧ Hid (Sr.Cut L (Q.pre (f + 1) q) n) ∧ Own (qF (f + 1)) M w' w.heap.size 28 (.slice A L.length c) L ∧ Below w.heap.size w w' := by
 intro f
 induction f using Nat.strongRecOn with | _ f ih => ?_
 intro q v n w M hn hM hq hbk
 have hqr := hq.rd
 obtain ⟨A, c, rfl, _, _, _, hv⟩ := hq
 obtain ⟨ps, hps⟩ : ∃ l, q.parts = l := ⟨_, rfl⟩
 have hpre : Q.pre (f + 1) q = q :: ps.flatMap (Q.pre f) := by rw [← hps]; rfl
 have hbk2 := Q.bulk_eq q
 rw [hps] at hv hqr hbk2 ⊢
 have hpm : ∀ (m : Nat) (h : m < ps.length), ps[m].bulk ≤ 4000000 := fun m h => by
  have := Q.bulks_mem (List.getElem_mem h)
  omega
 have hqm := hv.len_le
 unfold maxLen at hqm
 rw [hpre]
 have hvB := hv.toMB
 obtain ⟨W0, g, hW, hg, hs, kq, hal⟩ := boxA w #[.int .i64 q.kind, .string (bs q.text), .int .i64 q.num, .slice A ps.length c] 28
 obtain ⟨q0, q1, q2, q3, _⟩ := kq.four
 have own0 : Own (qF (f + 1)) M (W0.alloc (.cells [.int .i64 q.kind, .string (bs q.text), .int .i64 q.num, .slice A ps.length c].toArray 28)) W0.heap.size 28 (.slice (some ⟨W0.heap.size, 0, none⟩) [q].length [q].length) [q] :=
  Own.built (w := W0) (M := M) (C := qF (f + 1)) 28 (Els.single (Codec.ext hqr hal)) (Nat.le_refl _) (by simp [maxLen])
 obtain ⟨W1, g1, hW1, hg1, hs1, _, hal1⟩ := boxA W0 #[.int .i64 q.kind, .string (bs q.text), .int .i64 q.num, .slice A ps.length c] 28
 rw [show (W0.alloc (.cells [.int .i64 q.kind, .string (bs q.text), .int .i64 q.num, .slice A ps.length c].toArray 28)) = W1 from hW1] at own0
 have hsl : (Value.slice (some ⟨W0.heap.size, 0, none⟩) [q].length [q].length) = .slice (some ⟨g + 1, 0, none⟩) [q].length 1 := by rw [hs]; rfl
 rw [hsl] at own0
 rw [← hW, ← hg] at q0 q1 q2 q3
 have hss : w.heap.size ≤ W0.heap.size := hal.size
 have HW := Lib.hid hW; have HW1 := Lib.hid hW1; have Hg := Lib.hid hg; have Hg1 := Lib.hid hg1; have Hq := Lib.hid kq; have Hih := Lib.hid ih; have Hpm := Lib.hid hpm; have Hhal := Lib.hid hal; have HvB := Lib.hid hvB; have HM := Lib.hid hM; have Hown0 := Lib.hid own0
 clear hsl hW hW1 hg hg1 kq ih hpm hal hvB hM hs hs1 hqr hv hps hpre hbk2 own0
 go_enter Tryz.func38, Tryz.ntmps38
 go_wp2_with fail
 rw [HW.out, HW1.out]
 try rw [Hg.out]
 try rw [Hg1.out]
 clear q0 q1 q2 q3
 go_loopw [5, 6] (fun ov iv wr => ∃ (m : Nat) (A2 : Option Addr) (c2 : Nat) (L : List Q), m ≤ ps.length ∧ iv = .int .i64 (m : Int) ∧ ov = .slice A2 L.length c2 ∧ Hid (Sr.Cut L (q :: (ps.take m).flatMap (Q.pre f)) n) ∧ Own (qF (f + 1)) M wr W0.heap.size 28 (.slice A2 L.length c2) L ∧ Below W0.heap.size W0 wr) (fun _ iv _ => ps.length - (intOf iv).toNat)
 case atStart => exact ⟨0, _, 1, [q], Nat.zero_le _, rfl, rfl, Lib.hid ⟨List.prefix_rfl, .inl rfl⟩, Hown0.out, hal1⟩
 case round =>
  obtain ⟨m, A2, c2, L, hm, rfl, rfl, hL, own, hb⟩ := hrel
  obtain ⟨wo, rfl⟩ : ∃ W, W = wr := ⟨_, rfl⟩
  obtain ⟨q0, q1, q2, q3, _⟩ := (Hq.out.ext hb).four
  have hm0 : (0 : Int) ≤ (m : Int) := by omega
  have hLl := own.len_le
  unfold maxLen at hLl
  by_cases hlt : m < ps.length
  ·have hmi : (m : Int) < (ps.length : Int) := by omega
   by_cases hle : L.length ≤ n
   ·have hli : (L.length : Int) ≤ (n : Int) := by omega
    have hbw : Below w.heap.size w wo := Hhal.out.trans (hb.mono Hhal.out.size)
    obtain ⟨b, off, e, A4, c4, rfl, hfe, _, _, s0, s1, s2, s3, hqa⟩ := (HvB.out.ext hbw).qAt hlt
    have hM2 : ∀ b, (M b ∨ (Value.slice A2 L.length c2).ownBlock = some b) → b < wo.heap.size := fun b h => by
     rcases h with h | h
     ·have := HM.out b h; have := hbw.size; omega
     ·exact own.lt b h
    have hq2 := hqa.sub (M' := fun b => M b ∨ (Value.slice A2 L.length c2).ownBlock = some b) fun b hb h => by
     rcases h with h | h
     ·exact .inl h
     ·exact .inr (Nat.le_trans hss (own.base b h))
    have hc := Hih.out e (by omega) ps[m] _ (n - L.length) wo _ (by omega) hM2 hq2 (Hpm.out m hlt)
    have hpb := Q.pre_bulk (e + 1) ps[m]
    have hpm := Hpm.out m hlt
    rw [← hfe] at hc hpb
    have hcs := fun L' h' => Sr.Cut.step (q := q) (f := f) (lim := n) (L := L) (L' := L') hlt hL.out hle h'
    obtain ⟨p, hp⟩ : ∃ p, p = ps[m] := ⟨_, rfl⟩
    rw [← hp] at s0 s1 s2 s3 hc hpb hpm hcs
    have hsub : IntKind.i64.wrap ((n : Int) - (L.length : Int)) = ((n - L.length : Nat) : Int) := by rw [show (n : Int) - (L.length : Int) = ((n - L.length : Nat) : Int) by omega]; exact IntWalk.i64_in _ (by omega)
    have Hc := Lib.hid hc; have Hcs := Lib.hid hcs; have Hb := Lib.hid hb; have HM2 := Lib.hid hM2; have Hfe := Lib.hid hfe
    clear hfe hc hcs hb hM2 hq2 hqa hbw hp q0 q1 q2
    go_wp2_with fail
    refine Hc.out.mono ?_
    rintro r w4 ⟨A3, c3, L3, rfl, hL3, own3, hb4⟩
    have own4 := own.ext hb4
    have hsrc := (own3.readB HM2.out).qMono (g := f + 1) (by have := Hfe.out; omega)
    have hl3 : L3.length ≤ 1000000 := by have := hL3.out.1.length_le; omega
    have hbw4 := Hb.out.trans (hb4.mono Hb.out.size)
    have hbs := hbw4.size
    clear Hc own own3 hb4 q3 s0 s1 s2 s3
    go_wp2_with (at_builtin; refine wpList_append_Own (qF (f + 1)) (M := M) (B := W0.heap.size) (l := L) (l' := L3) TQs rfl (.tmp 22) (.tmp 32) rfl (v := .slice A2 L.length c2) rfl own4 rfl hsrc ?a1 ?b1 hbs ?_)
    case a1 => unfold maxLen; omega
    case b1 => omega
    intro A5 c5 L5 w5 hL5 own5 hb5 _ _
    go_wp2
    go_roundw
    case rel => exact ⟨m + 1, A5, c5, L5, by omega, by go_num, rfl, Lib.hid (by rw [hL5.out]; exact Hcs.out L3 hL3.out), own5, hbw4.trans hb5⟩
    case measure => simp [intOf]; omega
   ·have hli : ¬ (L.length : Int) ≤ (n : Int) := by omega
    clear q0 q1 q2
    go_wp2
    go_ret
    exact ⟨A2, c2, L, rfl, Lib.hid (hL.out.all (.inr (by omega))), own.lower hss, Hhal.out.trans (hb.mono Hhal.out.size)⟩
  ·have hmi : ¬ (m : Int) < (ps.length : Int) := by omega
   clear q0 q1 q2
   go_wp2
   go_ret
   exact ⟨A2, c2, L, rfl, Lib.hid (hL.out.all (.inl (by omega))), own.lower hss, Hhal.out.trans (hb.mono Hhal.out.size)⟩
end Go.Proofs.YtnlhocbaighedaaGreatDoor
namespace Go.Proofs.YtnlhocbaighedaaGreatDoor
open Go.RowKit
set_option linter.unusedVariables false
theorem all_at {α : Type} {l : List α} {p : α → Bool} (h : ∀ (j : Nat) (hj : j < l.length), p l[j] = true) : l.all p = true := by
 rw [List.all_eq_true]; intro x hx; obtain ⟨j, hj, rfl⟩ := List.mem_iff_getElem.1 hx; exact h j hj
theorem all_not {α : Type} {l : List α} {p : α → Bool} {j : Nat} (hj : j < l.length) (h : p l[j] = false) : l.all p = false := by
 rw [Bool.eq_false_iff]; intro e; have := List.all_eq_true.1 e _ (List.getElem_mem hj); rw [h] at this; cases this
set_option maxRecDepth 100000 in
set_option maxHeartbeats 4000000 in
theorem plain_ok (a b : Value) (ids : List Int) (ts : List Ix.Term) (w : World) (h1 : SlR termC M0 w b ts) (hv : ∀ t ∈ ts, t.1.length ≤ 1048576) :
  Calls Tryz.prog 11 #[.agg #[a, b]] w fun e w' => e = .returned (.bool (Sr.plainF (ids, ts))) ∧ Below w.heap.size w w' := by
 obtain ⟨A1, c1, rfl, _, _⟩ := h1.form
 have hm1 := h1.len_le
 unfold maxLen at hm1
 unfold Sr.plainF
 obtain ⟨W0, g, hW, hg, hs, kx, hal⟩ := boxA w #[a, .slice A1 ts.length c1] 25
 replace h1 := h1.ext hal
 have HW := Lib.hid hW; have Hv := Lib.hid hv
 clear hW hs hv
 go_enter Tryz.func11, Tryz.ntmps11
 go_wp2_with fail
 rw [HW.out]
 go_loopw [3] (fun iv wr => ∃ i : Nat, i ≤ ts.length ∧ iv = .int .i64 (i : Int) ∧ Hid (∀ (j : Nat) (hj : j < ts.length), j < i → (!decide (1 < (splitS ts[j].1).length) && ts[j].2.all Sr.plainP) = true) ∧ Below W0.heap.size W0 wr) (fun iv _ => ts.length - (intOf iv).toNat)
 case atStart => exact ⟨0, Nat.zero_le _, rfl, Lib.hid fun j _ h => absurd h (by omega), Below.refl _ _⟩
 case round =>
  obtain ⟨i, hi, rfl, hpre, hb⟩ := hrel
  obtain ⟨wi, rfl⟩ : ∃ W, W = wr := ⟨_, rfl⟩
  obtain ⟨x0, x1, _⟩ := (kx.ext hb).two
  have hi0 : (0 : Int) ≤ (i : Int) := by omega
  by_cases hlt : i < ts.length
  ·have hii : (i : Int) < (ts.length : Int) := by omega
   obtain ⟨b1, o1, A4, c3, rfl, _, hbl, r0, r1, _, hps⟩ := (h1.ext hb).termAt hlt
   have hvy := Hv.out _ (List.getElem_mem hlt)
   obtain ⟨⟨y, ps⟩, hy⟩ : ∃ t, t = ts[i] := ⟨_, rfl⟩
   rw [← hy] at hvy r0 r1 hps
   dsimp only at hvy r0 r1 hps
   have hpm := hps.len_le
   unfold maxLen at hpm
   have hsp := refSplit_ok y (by omega) wi
   have hlen := splitS_len y
   have Hsp := Lib.hid hsp; have Hy := Lib.hid hy; have Hb := Lib.hid hb
   clear hsp hy hb
   go_wp2_with fail
   refine Hsp.out.mono ?_
   rintro e w1 ⟨Aw, cw, Lw, rfl, hLw, _, hb1⟩
   have hb2 := Hb.out.trans (hb1.mono Hb.out.size)
   replace x0 := (hb1.cell (World.block_lt_of_cell? _ _ x0)).trans x0
   replace x1 := (hb1.cell (World.block_lt_of_cell? _ _ x1)).trans x1
   replace r0 := (hb1.cell hbl).trans r0
   replace r1 := (hb1.cell hbl).trans r1
   replace hps := hps.ext hb1
   clear Hsp hlen
   by_cases h1s : 1 < Lw.length
   ·have h1i : (1 : Int) < (Lw.length : Int) := by omega
    go_wp2
    go_ret
    exact ⟨ret_bool (by rw [all_not hlt]; rw [← Hy.out]; dsimp only; rw [← hLw.out, decide_eq_true h1s]; rfl), hal.trans (hb2.mono hal.size)⟩
   ·have h1i : ¬ (1 : Int) < (Lw.length : Int) := by omega
    have Hb2 := Lib.hid hb2; have Hr := Lib.hid (And.intro x1 (And.intro r1 (And.intro (World.block_lt_of_cell? _ _ x1) (World.block_lt_of_cell? _ _ r1)))); have Hps := Lib.hid hps
    clear hb2 hps
    go_wp2_with fail
    clear x0 x1 r0 r1
    go_loopw [4] (fun kv wr => ∃ k : Nat, k ≤ ps.length ∧ kv = .int .i64 (k : Int) ∧ Hid (∀ (j : Nat) (hj : j < ps.length), j < k → Sr.plainP ps[j] = true) ∧ wr = w1) (fun kv _ => ps.length - (intOf kv).toNat)
    case atStart => exact ⟨0, Nat.zero_le _, rfl, Lib.hid fun j _ h => absurd h (by omega), rfl⟩
    case round =>
     obtain ⟨k, hk, rfl, hpk, hwr⟩ := hrel
     obtain ⟨wk, rfl⟩ : ∃ W, W = wr := ⟨_, rfl⟩
     subst hwr
     obtain ⟨x1, r1, _, _⟩ := Hr.out
     have hk0 : (0 : Int) ≤ (k : Int) := by omega
     by_cases hlk : k < ps.length
     ·have hki : (k : Int) < (ps.length : Int) := by omega
      obtain ⟨b3, o3, A6, c4, rfl, _, _, s0, s1, _, _, hns⟩ := Hps.out.postAt hlk
      obtain ⟨⟨pid, ns⟩, hp⟩ : ∃ p, p = ps[k] := ⟨_, rfl⟩
      rw [← hp] at s0 s1 hns
      dsimp only at s0 s1 hns
      have hnm := hns.len_le
      unfold maxLen at hnm
      have hpp : Sr.plainP (pid, ns) = !(decide (0 < ns.length) && decide (5000 < ns.getD (ns.length - 1) 0)) := rfl
      have Hp := Lib.hid hp
      clear hp
      by_cases hz : 0 < ns.length
      ·have hz2 : (0 : Int) < (ns.length : Int) := by omega
       obtain ⟨b5, o5, rfl, _, _, u0, _, _⟩ := hns.intAt (k := ns.length - 1) (by omega)
       rw [decide_eq_true hz, Bool.true_and, Ix.getD_get (show ns.length - 1 < ns.length by omega)] at hpp
       obtain ⟨z, hz9⟩ : ∃ z, z = ns[ns.length - 1] := ⟨_, rfl⟩
       rw [← hz9] at u0 hpp
       have hsub : IntKind.i64.wrap ((ns.length : Int) - 1) = ((ns.length - 1 : Nat) : Int) := by rw [show (ns.length : Int) - 1 = ((ns.length - 1 : Nat) : Int) by omega]; exact IntWalk.i64_in _ (by omega)
       have hsi : ((ns.length - 1 : Nat) : Int) < (ns.length : Int) := by omega
       have hs0 : (0 : Int) ≤ ((ns.length - 1 : Nat) : Int) := by omega
       obtain ⟨nl, hnl⟩ : ∃ nl, ns.length - 1 = nl := ⟨_, rfl⟩
       rw [hnl] at u0 hsub hsi hs0
       have Hpp := Lib.hid hpp
       clear hpp hz9 hnl hns
       by_cases h5 : 5000 < z
       ·go_wp2
        go_ret
        exact ⟨ret_bool (by rw [all_not hlt]; rw [← Hy.out]; dsimp only; rw [all_not hlk, Bool.and_false]; rw [← Hp.out, Hpp.out, decide_eq_true h5]; rfl), hal.trans (Hb2.out.mono hal.size)⟩
       ·go_wp2
        go_roundw
        case rel => exact ⟨k + 1, by omega, by go_num, Lib.hid fun j hj hjk => by
         by_cases e : j = k
         ·subst e; rw [← Hp.out, Hpp.out, decide_eq_false h5]; rfl
         ·exact hpk.out j hj (by omega), trivial⟩
        case measure => simp [intOf]; omega
      ·have hz2 : ¬ (0 : Int) < (ns.length : Int) := by omega
       rw [decide_eq_false hz, Bool.false_and] at hpp
       have Hpp := Lib.hid hpp
       clear hpp hns
       go_wp2
       go_roundw
       case rel => exact ⟨k + 1, by omega, by go_num, Lib.hid fun j hj hjk => by
        by_cases e : j = k
        ·subst e; rw [← Hp.out, Hpp.out]; rfl
        ·exact hpk.out j hj (by omega), trivial⟩
       case measure => simp [intOf]; omega
     ·go_wp2
      go_roundw
      case rel => exact ⟨i + 1, by omega, by go_num, Lib.hid fun j hj hji => by
       by_cases e : j = i
       ·subst e
        rw [← Hy.out]; dsimp only
        rw [← hLw.out, decide_eq_false h1s, all_at fun a ha => hpk.out a ha (by omega)]; rfl
       ·exact hpre.out j hj (by omega), Hb2.out⟩
      case measure => simp [intOf]; omega
  ·go_wp2
   go_ret
   exact ⟨ret_bool (by rw [all_at fun a ha => hpre.out a ha (by omega)]), hal.trans (hb.mono hal.size)⟩
end Go.Proofs.YtnlhocbaighedaaGreatDoor

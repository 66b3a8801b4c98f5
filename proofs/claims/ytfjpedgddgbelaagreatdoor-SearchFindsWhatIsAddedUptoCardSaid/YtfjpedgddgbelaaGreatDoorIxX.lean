/-
  index.put.
-/
import Derived.Test.YtfjpedgddgbelaaGreatDoorG16
import Derived.Deep.QuietTactic
import Derived.BigQuiet
namespace Go.Proofs.YtfjpedgddgbelaaGreatDoor
open Go.RowKit
set_option linter.unusedVariables false
set_option maxRecDepth 20000 in
set_option maxHeartbeats 8000000 in
theorem put_ok (o : Nat → Owner) (B bx : Nat) (a tv : Value) (X : List RTerm) (wd : Str) (n place : Int) (w : World) (hT : TreeAt ixT o w B tv X) (hbx : Blk w bx 25 #[a, tv]) (hbo : o bx = .no) (hBw : B ≤ w.heap.size) (hwf : Ix.Wf (X.map pt)) (hrm : Room (X.map pt)) (hn : 1 ≤ n ∧ n ≤ 1000000) (hpl : 0 ≤ place ∧ place ≤ 1000000) (hwl : wd.length ≤ maxLen) :
    Calls Tryz.prog 58 #[.pointer (some ⟨bx, 0, none⟩), .agg #[.string (bs wd), .int .i64 n], .int .i64 place] w fun e w' => ∃ (o' : Nat → Owner) (tv' : Value) (X' : List RTerm), e = .returned (.tuple #[]) ∧ TreeAt ixT o' w' B tv' X' ∧ Blk w' bx 25 #[a, tv'] ∧ X'.map pt = Ix.putT n place wd (X.map pt) ∧ Turn o bx w w' ∧ ∀ b, b < w.heap.size → o' b = o b := by
  have hal := (Below.refl w.heap.size w).alloc (Nat.le_refl _) (.cells #[.string (bs wd), .int .i64 n] 91)
  have kb4 := Blk.new w 91 #[.string (bs wd), .int .i64 n]
  obtain ⟨W, hW⟩ : ∃ W, w.alloc (.cells #[.string (bs wd), .int .i64 n] 91) = W := ⟨_, rfl⟩
  rw [hW] at hal kb4
  obtain ⟨b4, hb4⟩ : ∃ b, w.heap.size = b := ⟨_, rfl⟩
  rw [hb4] at kb4
  have hbo4 : o b4 = .no := hT.fresh b4 (by omega)
  have hx4 : b4 ≠ bx := by have := hbx.lt; omega
  have hTW := hT.ext hal
  have hbxW := hbx.ext hal
  have hsW : B ≤ W.heap.size := Nat.le_trans hBw hal.size
  obtain ⟨Y, hY⟩ : ∃ Y, Ix.putT n place wd (X.map pt) = Y := ⟨_, rfl⟩
  have hfind := fun W' (hb : Below W.heap.size W W') => find_ok a tv (X.map rt) wd W' (hTW.row.read0.ext hb) (by have := hwf.srt; unfold Al.Sorted at this ⊢; rw [List.pairwise_map] at this ⊢; exact this) (by have := hrm.terms; rw [List.length_map] at this ⊢; omega)
  have hSS : ∀ W', Below W.heap.size W W' → W'.cell? ⟨bx, 0, none⟩ = some a ∧ W'.cell? ⟨bx, 1, none⟩ = some tv ∧ W'.cell? ⟨b4, 0, none⟩ = some (.string (bs wd)) := fun W' hb => ⟨(hbxW.ext hb).two.1, (hbxW.ext hb).two.2.1, (kb4.ext hb).two.1⟩
  have HS := Lib.hid hSS
  have hS := HS.out _ (below_drewN' W.heap.size W 1)
  have Hfind := Lib.hid hfind; have HT := Lib.hid hTW; have Hwf := Lib.hid (And.intro hwf hrm); have Hbx := Lib.hid (And.intro hbxW (And.intro kb4 (And.intro hbo (And.intro hbo4 (And.intro hx4 hsW))))); have HW := Lib.hid (And.intro hW (And.intro hb4 hal)); have HY := Lib.hid hY
  obtain ⟨At, ct, htv, _, _⟩ := hT.row.shape
  rw [List.length_map] at htv
  have Htv := Lib.hid htv
  rw [hY]
  clear hfind hSS hT hTW hbx hbxW kb4 hwf hrm hal hY htv
  go_enter Tryz.func58, Tryz.ntmps58
  go_wp2
  clear hW hb4 hbo hbo4 hx4 hsW hBw
  refine wp_region_D (fun W => W.cell? ⟨bx, 0, none⟩ = some a ∧ W.cell? ⟨bx, 1, none⟩ = some tv ∧ W.cell? ⟨b4, 0, none⟩ = some (.string (bs wd))) (fun _ => false) (by kernel_rfl) ?_
  (refine anyD_light (i := 0) (v := ?_) rfl (by kernel_rfl) (by kernel_rfl) (by kernel_rfl) (by kernel_rfl) (by kernel_rfl) (fun _ _ _ h => h) (.inl ⟨by kernel_rfl, fun W9 hW9 => ?_⟩) hS ?_; rotate_left; · (obtain ⟨hw0, hw1, hw2⟩ := hW9; go_simp; rfl))
  (refine anyD_light (i := 1) (v := ?_) rfl (by kernel_rfl) (by kernel_rfl) (by kernel_rfl) (by kernel_rfl) (by kernel_rfl) (fun _ _ _ h => h) (.inl ⟨by kernel_rfl, fun W9 hW9 => ?_⟩) hS ?_; rotate_left; · (obtain ⟨hw0, hw1, hw2⟩ := hW9; go_simp; rfl))
  (refine anyD_light (i := 2) (v := ?_) rfl (by kernel_rfl) (by kernel_rfl) (by kernel_rfl) (by kernel_rfl) (by kernel_rfl) (fun _ _ _ h => h) (.inl ⟨by kernel_rfl, fun W9 hW9 => ?_⟩) hS ?_; rotate_left; · (obtain ⟨hw0, hw1, hw2⟩ := hW9; go_simp; rfl))
  (refine anyD_light (i := 3) (v := ?_) rfl (by kernel_rfl) (by kernel_rfl) (by kernel_rfl) (by kernel_rfl) (by kernel_rfl) (fun _ _ _ h => h) (.inl ⟨by kernel_rfl, fun W9 hW9 => ?_⟩) hS ?_; rotate_left; · (obtain ⟨hw0, hw1, hw2⟩ := hW9; go_simp; rfl))
  (refine anyD_light (i := 4) (v := ?_) rfl (by kernel_rfl) (by kernel_rfl) (by kernel_rfl) (by kernel_rfl) (by kernel_rfl) (fun _ _ _ h => h) (.inl ⟨by kernel_rfl, fun W9 hW9 => ?_⟩) hS ?_; rotate_left; · (obtain ⟨hw0, hw1, hw2⟩ := hW9; go_simp; rfl))
  go_simp
  refine anyD_one (i := 5) (by kernel_rfl) rfl rfl (fun K hK => ?_)
  have HK := Lib.hid hK
  clear hK
  unfold Oper.wp
  go_simp
  refine (Hfind.out _ (below_drewN' W.heap.size W 1)).mono ?_
  rintro e w2 ⟨i, ok, rfl, hsa, hb2⟩
  have hb12 : Below W.heap.size W w2 := (below_drewN' W.heap.size W 1).trans hb2
  clear hS
  have hS := HS.out _ hb12
  refine HK.out _ _ (fun _ => hS) ?_
  clear HK
  (refine anyD_light (i := 6) (v := ?_) rfl (by kernel_rfl) (by kernel_rfl) (by kernel_rfl) (by kernel_rfl) (by kernel_rfl) (fun _ _ _ h => h) (.inl ⟨by kernel_rfl, fun W9 hW9 => ?_⟩) hS ?_; rotate_left; · (obtain ⟨hw0, hw1, hw2⟩ := hW9; go_simp; rfl))
  (refine anyD_light (i := 7) (v := ?_) rfl (by kernel_rfl) (by kernel_rfl) (by kernel_rfl) (by kernel_rfl) (by kernel_rfl) (fun _ _ _ h => h) (.inl ⟨by kernel_rfl, fun W9 hW9 => ?_⟩) hS ?_; rotate_left; · (obtain ⟨hw0, hw1, hw2⟩ := hW9; go_simp; rfl))
  (refine anyD_light (i := 8) (v := ?_) rfl (by kernel_rfl) (by kernel_rfl) (by kernel_rfl) (by kernel_rfl) (by kernel_rfl) (fun _ _ _ h => h) (.inl ⟨by kernel_rfl, fun W9 hW9 => ?_⟩) hS ?_; rotate_left; · (obtain ⟨hw0, hw1, hw2⟩ := hW9; go_simp; rfl))
  (refine anyD_light (i := 9) (v := ?_) rfl (by kernel_rfl) (by kernel_rfl) (by kernel_rfl) (by kernel_rfl) (by kernel_rfl) (fun _ _ _ h => h) (.inl ⟨by kernel_rfl, fun W9 hW9 => ?_⟩) hS ?_; rotate_left; · (obtain ⟨hw0, hw1, hw2⟩ := hW9; go_simp; rfl))
  (refine anyD_light (i := 10) (v := ?_) rfl (by kernel_rfl) (by kernel_rfl) (by kernel_rfl) (by kernel_rfl) (by kernel_rfl) (fun _ _ _ h => h) (.inl ⟨by kernel_rfl, fun W9 hW9 => ?_⟩) hS ?_; rotate_left; · (obtain ⟨hw0, hw1, hw2⟩ := hW9; go_simp; rfl))
  go_simp
  refine anyD_done (by kernel_rfl) ?_ _
  have Hsa := Lib.hid hsa
  clear hS hb2 hsa Hfind
  go_upto_if 21 with fail
  go_cut [] (fun wc => PutMid o W B bx b4 a wd n place Y i wc)
  case first =>
    cases ok with
    | true =>
      go_wp2_with fail
      go_meet
      case rel =>
        rw [← HY.out]
        exact PutMid.found HT.out Hbx.out.1 Hbx.out.2.1 Hwf.out.1 Hwf.out.2 Hsa.out hb12
    | false =>
      obtain ⟨L, hL⟩ : ∃ L, (X.map rt).take i ++ (wd, .slice none 0 0) :: (X.map rt).drop i = L := ⟨_, rfl⟩
      have hins := fun V1 gv (hgv : w2.heap.size ≤ gv) (hb : Below W.heap.size W V1) (hv : Blk V1 gv 43 #[.string (bs wd), .slice none 0 0]) => insertTerm_ok M0 tv (X.map rt) (wd, .slice none 0 0) i B gv _ V1 (HT.out.row.ext hb) Hsa.out.1 (by have := Hwf.out.2.terms; rw [List.length_map] at this ⊢; omega) hv (fun M' => ⟨[.string (bs wd)], [.slice none 0 0], rfl, ⟨rfl, hwl⟩, rfl, rfl⟩) (fun e => by have := HT.out.row.lt _ e; have := hb12.size; omega) (fun h => h) (Nat.le_trans Hbx.out.2.2.2.2.2 hb.size) (fun _ h => h.elim)
      rw [hL] at hins
      have hSS : ∀ W', Below w2.heap.size w2 W' → W'.cell? ⟨bx, 1, none⟩ = some tv ∧ W'.cell? ⟨b4, 0, none⟩ = some (.string (bs wd)) := fun W' hb => (HS.out W' (hb12.trans (hb.mono hb12.size))).2
      have HS2 := Lib.hid hSS
      have hS := HS2.out _ (below_drewN' w2.heap.size w2 1)
      have Hins := Lib.hid hins; have HL := Lib.hid hL
      clear hins hSS hL
      go_wp2_with fail
      refine wp_region_D (fun W => W.cell? ⟨bx, 1, none⟩ = some tv ∧ W.cell? ⟨b4, 0, none⟩ = some (.string (bs wd))) (fun j => j == 12 || j == 13) (by kernel_rfl) ?_
      change anyD _ _ _ _ _ _ _ _ _ (w2.drewN 1)
      have hbV := below_drewN' w2.heap.size w2 1
      generalize w2.drewN 1 = V0 at hS hbV ⊢
      (refine anyD_light (i := 0) (v := ?_) rfl (by kernel_rfl) (by kernel_rfl) (by kernel_rfl) (by kernel_rfl) (by kernel_rfl) (fun _ _ _ h => h) (.inl ⟨by kernel_rfl, fun W9 hW9 => ?_⟩) hS ?_; rotate_left; · (obtain ⟨hw0, hw1⟩ := hW9; go_simp; rfl))
      (refine anyD_light (i := 1) (v := ?_) rfl (by kernel_rfl) (by kernel_rfl) (by kernel_rfl) (by kernel_rfl) (by kernel_rfl) (fun _ _ _ h => h) (.inl ⟨by kernel_rfl, fun W9 hW9 => ?_⟩) hS ?_; rotate_left; · (obtain ⟨hw0, hw1⟩ := hW9; go_simp; rfl))
      (refine anyD_light (i := 2) (v := ?_) rfl (by kernel_rfl) (by kernel_rfl) (by kernel_rfl) (by kernel_rfl) (by kernel_rfl) (fun _ _ _ h => h) (.inl ⟨by kernel_rfl, fun W9 hW9 => ?_⟩) hS ?_; rotate_left; · (obtain ⟨hw0, hw1⟩ := hW9; go_simp; rfl))
      (refine anyD_light (i := 3) (v := ?_) rfl (by kernel_rfl) (by kernel_rfl) (by kernel_rfl) (by kernel_rfl) (by kernel_rfl) (fun _ _ _ h => h) (.inl ⟨by kernel_rfl, fun W9 hW9 => ?_⟩) hS ?_; rotate_left; · (obtain ⟨hw0, hw1⟩ := hW9; go_simp; rfl))
      (refine anyD_light (i := 4) (v := ?_) rfl (by kernel_rfl) (by kernel_rfl) (by kernel_rfl) (by kernel_rfl) (by kernel_rfl) (fun _ _ _ h => h) (.inl ⟨by kernel_rfl, fun W9 hW9 => ?_⟩) hS ?_; rotate_left; · (obtain ⟨hw0, hw1⟩ := hW9; go_simp; rfl))
      (refine anyD_light (i := 5) (v := ?_) rfl (by kernel_rfl) (by kernel_rfl) (by kernel_rfl) (by kernel_rfl) (by kernel_rfl) (fun _ _ _ h => h) (.inl ⟨by kernel_rfl, fun W9 hW9 => ?_⟩) hS ?_; rotate_left; · (obtain ⟨hw0, hw1⟩ := hW9; go_simp; rfl))
      go_simp
      (refine anyD_light (i := 6) (v := ?_) rfl (by kernel_rfl) (by kernel_rfl) (by kernel_rfl) (by kernel_rfl) (by kernel_rfl) (fun _ _ _ h => h) (.inl ⟨by kernel_rfl, fun W9 hW9 => ?_⟩) hS ?_; rotate_left; · (obtain ⟨hw0, hw1⟩ := hW9; go_simp; rfl))
      (refine anyD_light (i := 7) (v := ?_) rfl (by kernel_rfl) (by kernel_rfl) (by kernel_rfl) (by kernel_rfl) (by kernel_rfl) (fun _ _ _ h => h) (.inl ⟨by kernel_rfl, fun W9 hW9 => ?_⟩) hS ?_; rotate_left; · (obtain ⟨hw0, hw1⟩ := hW9; go_simp; rfl))
      (refine anyD_light (i := 8) (v := ?_) rfl (by kernel_rfl) (by kernel_rfl) (by kernel_rfl) (by kernel_rfl) (by kernel_rfl) (fun _ _ _ h => h) (.inl ⟨by kernel_rfl, fun W9 hW9 => ?_⟩) hS ?_; rotate_left; · (obtain ⟨hw0, hw1⟩ := hW9; go_simp; rfl))
      go_simp
      refine anyD_one (i := 9) (by kernel_rfl) rfl rfl (fun K hK => ?_)
      have HK := Lib.hid hK
      clear hK
      unfold Oper.wp
      go_simp
      generalize hV : World.alloc V0 (.cells #[.string (bs wd), .slice none 0 0] 43) = V1
      have hal3 : Below w2.heap.size w2 V1 := by rw [← hV]; exact hbV.alloc hbV.size _
      have kv : Blk V1 V0.heap.size 43 #[.string (bs wd), .slice none 0 0] := by rw [← hV]; exact Blk.new V0 _ _
      clear hS hV
      have hS := HS2.out _ hal3
      refine HK.out _ _ (fun _ => hS) ?_
      clear HK
      have hb13 := hb12.trans (hal3.mono hb12.size)
      go_simp
      refine anyD_one (i := 10) (by kernel_rfl) rfl rfl (fun K hK => ?_)
      have HK := Lib.hid hK
      clear hK
      unfold Oper.wp
      go_simp
      refine (Hins.out V1 _ hbV.size hb13 kv).mono ?_
      rintro e w4 ⟨tv2, rfl, hown, hgr, hor⟩
      obtain ⟨A9, c9, rfl, _, _⟩ := hown.shape
      have hbx4 : Blk w4 bx 25 #[a, tv] := (Hbx.out.1.ext hb13).keep (hgr.block bx (Hbx.out.1.ext hb13).lt fun e => (by have := HT.out.mine bx e.symm; rw [Hbx.out.2.2.1] at this; cases this))
      have hb44 : Blk w4 b4 91 #[.string (bs wd), .int .i64 n] := (Hbx.out.2.1.ext hb13).keep (hgr.block b4 (Hbx.out.2.1.ext hb13).lt fun e => (by have := HT.out.mine b4 e.symm; rw [Hbx.out.2.2.2.1] at this; cases this))
      clear hS
      have hS : w4.cell? ⟨bx, 1, none⟩ = some tv ∧ w4.cell? ⟨b4, 0, none⟩ = some (.string (bs wd)) := ⟨hbx4.two.2.1, hb44.two.1⟩
      refine HK.out _ _ (fun _ => hS) ?_
      clear HK
      have hf9 : w4.frozen? ⟨bx, 1, none⟩ = false := hbx4.two.2.2.2.1
      (refine anyD_light (i := 11) (v := ?_) rfl (by kernel_rfl) (by kernel_rfl) (by kernel_rfl) (by kernel_rfl) (by kernel_rfl) (fun _ _ _ h => h) (.inl ⟨by kernel_rfl, fun W9 hW9 => ?_⟩) hS ?_; rotate_left; · (obtain ⟨hw0, hw1⟩ := hW9; go_simp; rfl))
      (refine anyD_light (i := 12) (v := ?_) rfl (by kernel_rfl) (by kernel_rfl) (by kernel_rfl) (by kernel_rfl) (by kernel_rfl) (fun _ _ _ h => h) (.inl ⟨by kernel_rfl, fun W9 hW9 => ?_⟩) hS ?_; rotate_left; · (obtain ⟨hw0, hw1⟩ := hW9; go_simp; rfl))
      go_simp
      refine anyD_one (i := 13) (by kernel_rfl) rfl rfl (fun K hK => ?_)
      have HK := Lib.hid hK
      clear hK
      obtain ⟨hq9, _⟩ := hS
      unfold Oper.wp
      go_simp
      refine HK.out _ _ (fun h => by cases h) ?_
      clear HK
      go_simp
      refine anyD_done (by kernel_rfl) ?_ _
      go_wp2_with fail
      go_meet
      case rel =>
        rw [← HY.out]
        exact PutMid.added HT.out Hbx.out.1 Hbx.out.2.2.1 Hbx.out.2.1 Hbx.out.2.2.2.1 Hbx.out.2.2.2.2.1 Hwf.out.1 Hwf.out.2 Hsa.out hb13 (by rw [HL.out]; exact hown) hgr hor
  case rest =>
  obtain ⟨o1, tv1, X1, hi, hT, hbx, hb4, hw, hY1, hsrt, hd, hbd, hturn, hag⟩ := hcut
  obtain ⟨wm, rfl⟩ : ∃ wm : World, wm = wc := ⟨_, rfl⟩
  clear Hsa hb12 Htv HT HS
  obtain ⟨g, c, hv, hlc, hcm, hBg, hgl, x0, x1, hoc, hwl2, hfz⟩ := hT.row.rtAt (k := i) (by simpa using hi)
  simp only [List.getElem_map, rt] at x0 x1 hoc
  rw [List.length_map] at hv
  have hPi := hT.posts _ (List.getElem_mem hi)
  have hbo1 : o1 bx = .no := by rw [hag bx Hbx.out.1.lt]; exact Hbx.out.2.2.1
  have hbo4 : o1 b4 = .no := by rw [hag b4 Hbx.out.2.1.lt]; exact Hbx.out.2.2.2.1
  obtain ⟨ps, hps⟩ : ∃ ps, X1[i].2.2 = ps := ⟨_, rfl⟩
  obtain ⟨pv, hpv⟩ : ∃ pv, X1[i].2.1 = pv := ⟨_, rfl⟩
  have hrow := hPi.row
  rw [hps, hpv] at hrow
  rw [hps] at hbd
  rw [hw] at x0
  rw [hpv] at x1 hoc
  have hsr : Al.Sorted Ix.ltI (ps.map rp) := by have h9 := hsrt; rw [hps] at h9; unfold Al.Sorted at h9 ⊢; rw [List.pairwise_map] at h9 ⊢; exact h9
  have hbs := fun W' (hb : Below wm.heap.size wm W') => bsearchP_ok M0 pv (ps.map rp) n W' (hrow.read0.ext hb) hsr (by rw [List.length_map]; omega) (fun r hr => by obtain ⟨p, hp, rfl⟩ := List.mem_map.1 hr; have := (hbd.2 p hp).2; simp only [rp]; omega) (by omega)
  obtain ⟨Ap, cp, hpf, hcp, hcpm⟩ := hrow.shape
  rw [List.length_map] at hpf hcp
  have hil : (i : Int) < (X1.length : Int) := by omega
  have hi0 : (0 : Int) ≤ (i : Int) := by omega
  have hiw : IntKind.i64.wrap (i : Int) = (i : Int) := IntWalk.i64_in _ (by rw [List.length_map] at hlc; unfold maxLen at hcm; omega)
  have hSS : ∀ W', Below wm.heap.size wm W' → W'.cell? ⟨g, i * 2, none⟩ = some (.string (bs wd)) ∧ W'.cell? ⟨g, i * 2 + 1, none⟩ = some pv ∧ W'.cell? ⟨b4, 0, none⟩ = some (.string (bs wd)) ∧ W'.cell? ⟨b4, 1, none⟩ = some (.int .i64 n) := fun W' hb => ⟨cell_ext hb x0, cell_ext hb x1, (hb4.ext hb).two.1, (hb4.ext hb).two.2.1⟩
  have HS := Lib.hid hSS
  have hS := HS.out _ (below_drewN' wm.heap.size wm 1)
  obtain ⟨_, t1, _, _, _⟩ := hbx.two
  have Hbs := Lib.hid hbs; have Hrow := Lib.hid (And.intro hrow (And.intro hbd (And.intro hps hpv))); have Hm := Lib.hid (And.intro hT (And.intro hbx (And.intro hw (And.intro hY1 (And.intro hsrt (And.intro hd (And.intro hturn (And.intro hag (And.intro hbo1 (And.intro hbo4 hb4))))))))))
  have Hv := Lib.hid hv; have Hpf := Lib.hid (And.intro hpf (And.intro hcp hcpm)); have Hg := Lib.hid (And.intro hBg (And.intro hgl hfz)); have Hsr := Lib.hid hsr
  rw [hv] at t1
  clear hbs hrow hbd hps hpv hT hbx hw hY1 hsrt hd hturn hag hbo1 hbo4 hb4 hPi hSS hv hpf hcp hcpm hBg hgl hfz hlc hcm hwl2 x0 x1 hoc hsr
  go_wp2
  clear t1
  refine wp_region_D (fun W => W.cell? ⟨g, i * 2, none⟩ = some (.string (bs wd)) ∧ W.cell? ⟨g, i * 2 + 1, none⟩ = some pv ∧ W.cell? ⟨b4, 0, none⟩ = some (.string (bs wd)) ∧ W.cell? ⟨b4, 1, none⟩ = some (.int .i64 n)) (fun _ => false) (by kernel_rfl) ?_
  (refine anyD_light (i := 0) (v := ?_) rfl (by kernel_rfl) (by kernel_rfl) (by kernel_rfl) (by kernel_rfl) (by kernel_rfl) (fun _ _ _ h => h) (.inl ⟨by kernel_rfl, fun W9 hW9 => ?_⟩) hS ?_; rotate_left; · (obtain ⟨hw0, hw1, hw2, hw3⟩ := hW9; go_simp; rfl))
  (refine anyD_light (i := 1) (v := ?_) rfl (by kernel_rfl) (by kernel_rfl) (by kernel_rfl) (by kernel_rfl) (by kernel_rfl) (fun _ _ _ h => h) (.inl ⟨by kernel_rfl, fun W9 hW9 => ?_⟩) hS ?_; rotate_left; · (obtain ⟨hw0, hw1, hw2, hw3⟩ := hW9; go_simp; rfl))
  (refine anyD_light (i := 2) (v := ?_) rfl (by kernel_rfl) (by kernel_rfl) (by kernel_rfl) (by kernel_rfl) (by kernel_rfl) (fun _ _ _ h => h) (.inl ⟨by kernel_rfl, fun W9 hW9 => ?_⟩) hS ?_; rotate_left; · (obtain ⟨hw0, hw1, hw2, hw3⟩ := hW9; go_simp; rfl))
  (refine anyD_light (i := 3) (v := ?_) rfl (by kernel_rfl) (by kernel_rfl) (by kernel_rfl) (by kernel_rfl) (by kernel_rfl) (fun _ _ _ h => h) (.inl ⟨by kernel_rfl, fun W9 hW9 => ?_⟩) hS ?_; rotate_left; · (obtain ⟨hw0, hw1, hw2, hw3⟩ := hW9; go_simp; rfl))
  (refine anyD_light (i := 4) (v := ?_) rfl (by kernel_rfl) (by kernel_rfl) (by kernel_rfl) (by kernel_rfl) (by kernel_rfl) (fun _ _ _ h => h) (.inl ⟨by kernel_rfl, fun W9 hW9 => ?_⟩) hS ?_; rotate_left; · (obtain ⟨hw0, hw1, hw2, hw3⟩ := hW9; go_simp; rfl))
  (refine anyD_light (i := 5) (v := ?_) rfl (by kernel_rfl) (by kernel_rfl) (by kernel_rfl) (by kernel_rfl) (by kernel_rfl) (fun _ _ _ h => h) (.inl ⟨by kernel_rfl, fun W9 hW9 => ?_⟩) hS ?_; rotate_left; · (obtain ⟨hw0, hw1, hw2, hw3⟩ := hW9; go_simp; rfl))
  go_simp
  go_simp
  refine anyD_one (i := 6) (by kernel_rfl) rfl rfl (fun K hK => ?_)
  have HK := Lib.hid hK
  clear hK
  unfold Oper.wp
  go_simp
  refine (Hbs.out _ (below_drewN' wm.heap.size wm 1)).mono ?_
  rintro e w5 ⟨k, hit, rfl, hsa, hb5⟩
  have hb15 : Below wm.heap.size wm w5 := (below_drewN' wm.heap.size wm 1).trans hb5
  clear hS
  have hS := HS.out _ hb15
  refine HK.out _ _ (fun _ => hS) ?_
  clear HK
  (refine anyD_light (i := 7) (v := ?_) rfl (by kernel_rfl) (by kernel_rfl) (by kernel_rfl) (by kernel_rfl) (by kernel_rfl) (fun _ _ _ h => h) (.inl ⟨by kernel_rfl, fun W9 hW9 => ?_⟩) hS ?_; rotate_left; · (obtain ⟨hw0, hw1, hw2, hw3⟩ := hW9; go_simp; rfl))
  (refine anyD_light (i := 8) (v := ?_) rfl (by kernel_rfl) (by kernel_rfl) (by kernel_rfl) (by kernel_rfl) (by kernel_rfl) (fun _ _ _ h => h) (.inl ⟨by kernel_rfl, fun W9 hW9 => ?_⟩) hS ?_; rotate_left; · (obtain ⟨hw0, hw1, hw2, hw3⟩ := hW9; go_simp; rfl))
  (refine anyD_light (i := 9) (v := ?_) rfl (by kernel_rfl) (by kernel_rfl) (by kernel_rfl) (by kernel_rfl) (by kernel_rfl) (fun _ _ _ h => h) (.inl ⟨by kernel_rfl, fun W9 hW9 => ?_⟩) hS ?_; rotate_left; · (obtain ⟨hw0, hw1, hw2, hw3⟩ := hW9; go_simp; rfl))
  (refine anyD_light (i := 10) (v := ?_) rfl (by kernel_rfl) (by kernel_rfl) (by kernel_rfl) (by kernel_rfl) (by kernel_rfl) (fun _ _ _ h => h) (.inl ⟨by kernel_rfl, fun W9 hW9 => ?_⟩) hS ?_; rotate_left; · (obtain ⟨hw0, hw1, hw2, hw3⟩ := hW9; go_simp; rfl))
  (refine anyD_light (i := 11) (v := ?_) rfl (by kernel_rfl) (by kernel_rfl) (by kernel_rfl) (by kernel_rfl) (by kernel_rfl) (fun _ _ _ h => h) (.inl ⟨by kernel_rfl, fun W9 hW9 => ?_⟩) hS ?_; rotate_left; · (obtain ⟨hw0, hw1, hw2, hw3⟩ := hW9; go_simp; rfl))
  go_simp
  refine anyD_done (by kernel_rfl) ?_ _
  obtain ⟨x0, x1, x2, x3⟩ := hS
  have Hsa := Lib.hid hsa
  have hkl := hsa.1
  rw [List.length_map] at hkl
  clear hsa hb5 Hbs
  have hpf := Hpf.out.1
  subst hpf
  go_upto_region 6 with fail
  go_cut [74] (fun v wq => v = .bool (!hit) ∧ Below wm.heap.size wm wq)
  case first =>
    by_cases hk : k < ps.length
    · obtain ⟨gp, cpp, hpv, _, _, _, _, y0, _, _, _, _, _⟩ := (Hrow.out.1.ext hb15).rpAt (k := k) (by simpa using hk)
      rw [List.length_map] at hpv
      injection hpv with hp1 hp2 hp3
      subst hp1 hp3
      simp only [List.getElem_map, rp] at y0
      have hh := Hsa.out.2.2.2
      rw [List.getElem?_eq_getElem (by simpa using hk)] at hh
      simp only [List.getElem_map, rp] at hh
      obtain ⟨m, hm⟩ : ∃ m, ps[k].1 = m := ⟨_, rfl⟩
      rw [hm] at y0 hh
      have hkI : (k : Int) < (ps.length : Int) := by omega
      have hk0 : (0 : Int) ≤ (k : Int) := by omega
      have hkw : IntKind.i64.wrap (k : Int) = (k : Int) := IntWalk.i64_in _ (by have := Hrow.out.2.1.1; omega)
      have hke : ((k : Int) == (ps.length : Int)) = false := by
        have h9 : ¬ (k : Int) = (ps.length : Int) := by omega
        simpa using h9
      have Hb15 := Lib.hid hb15
      clear hm hp2 hb15
      by_cases hmn : m = n
      · subst hmn
        have hht : hit = true := by rw [hh]; simp
        subst hht
        clear hh
        go_quiet (fail)
        go_wp2_with fail
        go_meet
        case rel => exact ⟨by simp, below_drewN Hb15.out _⟩
      · have hht : hit = false := by rw [hh]; simpa using hmn
        subst hht
        have hmb : (m == n) = false := by simpa using hmn
        clear hh
        go_quiet (fail)
        go_wp2_with fail
        go_meet
        case rel => exact ⟨by simp, below_drewN Hb15.out _⟩
    · obtain rfl : k = ps.length := by omega
      have hh := Hsa.out.2.2.2
      rw [List.getElem?_eq_none (by simp)] at hh
      have hht : hit = false := hh
      subst hht
      have Hb15 := Lib.hid hb15
      clear hh hb15
      go_quiet (fail)
      go_wp2_with fail
      go_meet
      case rel => exact ⟨by simp, below_drewN Hb15.out _⟩
  case rest =>
  clear x0 x1 x2 x3 hb15
  obtain ⟨rfl, hbq⟩ := hcut
  obtain ⟨wq, rfl⟩ : ∃ wq : World, wq = wc := ⟨_, rfl⟩
  have Hbq := Lib.hid hbq
  clear hbq
  go_upto_if 74 with fail
  go_cut [] (fun wz => PutMid2 o W B bx a tv1 wd n place Y i k wz)
  case first =>
    obtain ⟨hT, hbx, hw, hY1, hsrt, hd, hturn, hag, hbo1, hbo4, hb4⟩ := Hm.out
    have hsa := Hsa.out
    rw [← Hrow.out.2.2.1] at hsa
    cases hit with
    | true =>
      have Hd := Lib.hid (PutMid2.found hi hT hbx hw hY1 hsrt hd (by rw [Hrow.out.2.2.1]; exact fun p hp => (Hrow.out.2.1.2 p hp).1) hturn hag hsa Hbq.out)
      clear hT hbx hw hY1 hsrt hd hturn hag hbo1 hbo4 hb4 hsa
      go_wp2_with fail
      go_meet
      case rel => exact Hd.out
    | false =>
      obtain ⟨L, hL⟩ : ∃ L, (ps.map rp).take k ++ (n, .slice none 0 0) :: (ps.map rp).drop k = L := ⟨_, rfl⟩
      have hrow := Hrow.out.1
      have hbase : B ≤ wm.heap.size := Nat.le_trans Hbx.out.2.2.2.2.2 hturn.size
      have hins := fun V1 gv (hgv : wq.heap.size ≤ gv) (hb : Below wm.heap.size wm V1) (hv : Blk V1 gv 96 #[.int .i64 n, .slice none 0 0]) => insertPost_ok M0 _ (ps.map rp) (n, .slice none 0 0) k B gv _ V1 (hrow.ext hb) (by rw [List.length_map]; exact hkl) (by have := Hrow.out.2.1.1; rw [List.length_map]; omega) hv (fun M' => ⟨[.int .i64 n], [.slice none 0 0], rfl, ⟨rfl, by omega, by omega⟩, rfl, rfl⟩) (fun e => by have := hrow.lt _ e; have := Hbq.out.size; omega) (fun h => h) (Nat.le_trans hbase hb.size) (fun _ h => h.elim)
      rw [hL] at hins
      have Hadd := Lib.hid (fun pv2 w1 w2 hbl hown hgr hor => PutMid2.added (pv' := pv2) (w1 := w1) (w2 := w2) hi hT hbx hbo1 hw hY1 hsrt hd hturn hag hsa Hv.out hbl hown hgr hor)
      have hgw := hT.mine g (slice_block Hv.out)
      have hPi := hT.posts _ (List.getElem_mem hi)
      have hpm := hPi.mine
      rw [Hrow.out.2.2.2] at hpm
      have Hk := Lib.hid (And.intro hgw (And.intro hpm (And.intro hbo4 hT.row.lt)))
      have hS := HS.out _ (Hbq.out.trans ((below_drewN' wq.heap.size wq 1).mono Hbq.out.size))
      have Hins := Lib.hid hins; have HL := Lib.hid hL; have Hb4 := Lib.hid hb4
      clear hins hL hrow hbase hT hbx hw hY1 hsrt hd hturn hag hbo1 hbo4 hb4 hsa hgw hPi hpm
      go_wp2_with fail
      refine wp_region_D (fun W => W.cell? ⟨g, i * 2, none⟩ = some (.string (bs wd)) ∧ W.cell? ⟨g, i * 2 + 1, none⟩ = some (.slice Ap ps.length cp) ∧ W.cell? ⟨b4, 0, none⟩ = some (.string (bs wd)) ∧ W.cell? ⟨b4, 1, none⟩ = some (.int .i64 n)) (fun j => j == 12 || j == 13) (by kernel_rfl) ?_
      change anyD _ _ _ _ _ _ _ _ _ (wq.drewN 1)
      have hbV := below_drewN' wq.heap.size wq 1
      generalize wq.drewN 1 = V0 at hS hbV ⊢
      (refine anyD_light (i := 0) (v := ?_) rfl (by kernel_rfl) (by kernel_rfl) (by kernel_rfl) (by kernel_rfl) (by kernel_rfl) (fun _ _ _ h => h) (.inl ⟨by kernel_rfl, fun W9 hW9 => ?_⟩) hS ?_; rotate_left; · (obtain ⟨hw0, hw1, hw2, hw3⟩ := hW9; go_simp; rfl))
      (refine anyD_light (i := 1) (v := ?_) rfl (by kernel_rfl) (by kernel_rfl) (by kernel_rfl) (by kernel_rfl) (by kernel_rfl) (fun _ _ _ h => h) (.inl ⟨by kernel_rfl, fun W9 hW9 => ?_⟩) hS ?_; rotate_left; · (obtain ⟨hw0, hw1, hw2, hw3⟩ := hW9; go_simp; rfl))
      (refine anyD_light (i := 2) (v := ?_) rfl (by kernel_rfl) (by kernel_rfl) (by kernel_rfl) (by kernel_rfl) (by kernel_rfl) (fun _ _ _ h => h) (.inl ⟨by kernel_rfl, fun W9 hW9 => ?_⟩) hS ?_; rotate_left; · (obtain ⟨hw0, hw1, hw2, hw3⟩ := hW9; go_simp; rfl))
      (refine anyD_light (i := 3) (v := ?_) rfl (by kernel_rfl) (by kernel_rfl) (by kernel_rfl) (by kernel_rfl) (by kernel_rfl) (fun _ _ _ h => h) (.inl ⟨by kernel_rfl, fun W9 hW9 => ?_⟩) hS ?_; rotate_left; · (obtain ⟨hw0, hw1, hw2, hw3⟩ := hW9; go_simp; rfl))
      (refine anyD_light (i := 4) (v := ?_) rfl (by kernel_rfl) (by kernel_rfl) (by kernel_rfl) (by kernel_rfl) (by kernel_rfl) (fun _ _ _ h => h) (.inl ⟨by kernel_rfl, fun W9 hW9 => ?_⟩) hS ?_; rotate_left; · (obtain ⟨hw0, hw1, hw2, hw3⟩ := hW9; go_simp; rfl))
      (refine anyD_light (i := 5) (v := ?_) rfl (by kernel_rfl) (by kernel_rfl) (by kernel_rfl) (by kernel_rfl) (by kernel_rfl) (fun _ _ _ h => h) (.inl ⟨by kernel_rfl, fun W9 hW9 => ?_⟩) hS ?_; rotate_left; · (obtain ⟨hw0, hw1, hw2, hw3⟩ := hW9; go_simp; rfl))
      go_simp
      (refine anyD_light (i := 6) (v := ?_) rfl (by kernel_rfl) (by kernel_rfl) (by kernel_rfl) (by kernel_rfl) (by kernel_rfl) (fun _ _ _ h => h) (.inl ⟨by kernel_rfl, fun W9 hW9 => ?_⟩) hS ?_; rotate_left; · (obtain ⟨hw0, hw1, hw2, hw3⟩ := hW9; go_simp; rfl))
      (refine anyD_light (i := 7) (v := ?_) rfl (by kernel_rfl) (by kernel_rfl) (by kernel_rfl) (by kernel_rfl) (by kernel_rfl) (fun _ _ _ h => h) (.inl ⟨by kernel_rfl, fun W9 hW9 => ?_⟩) hS ?_; rotate_left; · (obtain ⟨hw0, hw1, hw2, hw3⟩ := hW9; go_simp; rfl))
      (refine anyD_light (i := 8) (v := ?_) rfl (by kernel_rfl) (by kernel_rfl) (by kernel_rfl) (by kernel_rfl) (by kernel_rfl) (fun _ _ _ h => h) (.inl ⟨by kernel_rfl, fun W9 hW9 => ?_⟩) hS ?_; rotate_left; · (obtain ⟨hw0, hw1, hw2, hw3⟩ := hW9; go_simp; rfl))
      go_simp
      refine anyD_one (i := 9) (by kernel_rfl) rfl rfl (fun K hK => ?_)
      have HK := Lib.hid hK
      clear hK
      unfold Oper.wp
      go_simp
      generalize hV : World.alloc V0 (.cells #[.int .i64 n, .slice none 0 0] 96) = V1
      have hal7 : Below wq.heap.size wq V1 := by rw [← hV]; exact hbV.alloc hbV.size _
      have kv : Blk V1 V0.heap.size 96 #[.int .i64 n, .slice none 0 0] := by rw [← hV]; exact Blk.new V0 _ _
      have hb17 := Hbq.out.trans (hal7.mono Hbq.out.size)
      clear hS hV
      have hS := HS.out _ hb17
      refine HK.out _ _ (fun _ => hS) ?_
      clear HK
      go_simp
      refine anyD_one (i := 10) (by kernel_rfl) rfl rfl (fun K hK => ?_)
      have HK := Lib.hid hK
      clear hK
      unfold Oper.wp
      go_simp
      refine (Hins.out V1 _ hbV.size hb17 kv).mono ?_
      rintro e w8 ⟨pv2, rfl, hown, hgr, hor⟩
      obtain ⟨A9, c9, rfl, _, _⟩ := hown.shape
      have keep : ∀ b, b < wm.heap.size → (o1 b = .top ∨ o1 b = .no) → w8.heap[b]? = V1.heap[b]? := fun b hb ho => hgr.block b (Nat.lt_of_lt_of_le hb hb17.size) fun e => by have := Hk.out.2.1 b e.symm; rcases ho with ho | ho <;> rw [this] at ho <;> cases ho
      have hg8 := keep g Hg.out.2.1 (.inl Hk.out.1)
      have hb48 := keep b4 Hb4.out.lt (.inr Hk.out.2.2.1)
      have hS8 : w8.cell? ⟨g, i * 2, none⟩ = some (.string (bs wd)) ∧ w8.cell? ⟨g, i * 2 + 1, none⟩ = some (.slice Ap ps.length cp) ∧ w8.cell? ⟨b4, 0, none⟩ = some (.string (bs wd)) ∧ w8.cell? ⟨b4, 1, none⟩ = some (.int .i64 n) := ⟨(World.cell?_of_block (a := ⟨g, i * 2, none⟩) hg8).trans hS.1, (World.cell?_of_block (a := ⟨g, i * 2 + 1, none⟩) hg8).trans hS.2.1, (World.cell?_of_block (a := ⟨b4, 0, none⟩) hb48).trans hS.2.2.1, (World.cell?_of_block (a := ⟨b4, 1, none⟩) hb48).trans hS.2.2.2⟩
      have hf9 : w8.frozen? ⟨g, i * 2 + 1, none⟩ = false := by rw [World.frozen?_of_block (a := ⟨g, i * 2 + 1, none⟩) hg8, frozen_ext hb17 Hg.out.2.1]; exact Hg.out.2.2 _
      have Hdone := Lib.hid (Hadd.out _ V1 w8 hb17 (by rw [Hrow.out.2.2.1, HL.out]; exact hown) (by rw [Hrow.out.2.2.2]; exact hgr) (by rw [Hrow.out.2.2.2]; exact hor))
      clear hS hown hgr hor keep hg8 hb48
      have hS := hS8
      clear hS8
      refine HK.out _ _ (fun _ => hS) ?_
      clear HK
      (refine anyD_light (i := 11) (v := ?_) rfl (by kernel_rfl) (by kernel_rfl) (by kernel_rfl) (by kernel_rfl) (by kernel_rfl) (fun _ _ _ h => h) (.inl ⟨by kernel_rfl, fun W9 hW9 => ?_⟩) hS ?_; rotate_left; · (obtain ⟨hw0, hw1, hw2, hw3⟩ := hW9; go_simp; rfl))
      (refine anyD_light (i := 12) (v := ?_) rfl (by kernel_rfl) (by kernel_rfl) (by kernel_rfl) (by kernel_rfl) (by kernel_rfl) (fun _ _ _ h => h) (.inl ⟨by kernel_rfl, fun W9 hW9 => ?_⟩) hS ?_; rotate_left; · (obtain ⟨hw0, hw1, hw2, hw3⟩ := hW9; go_simp; rfl))
      go_simp
      refine anyD_one (i := 13) (by kernel_rfl) rfl rfl (fun K hK => ?_)
      have HK := Lib.hid hK
      clear hK
      obtain ⟨_, hq9, _, _⟩ := hS
      unfold Oper.wp
      go_simp
      refine HK.out _ _ (fun h => by cases h) ?_
      clear HK
      go_simp
      refine anyD_done (by kernel_rfl) ?_ _
      go_wp2_with fail
      go_meet
      case rel => exact Hdone.out
  case rest =>
  obtain ⟨o2, X2, hi2, hk2, hT2, hbx2, hw2, hn2, hY2, hd2, hid2, hbd2, hturn2, hag2⟩ := hcut
  obtain ⟨wz, rfl⟩ : ∃ wz : World, wz = wc := ⟨_, rfl⟩
  clear Hm Hrow HS Hsa Hbq Hsr
  have hbo2 : o2 bx = .no := by rw [hag2 bx Hbx.out.1.lt]; exact Hbx.out.2.2.1
  have hBz : B ≤ wz.heap.size := Nat.le_trans Hbx.out.2.2.2.2.2 hturn2.size
  obtain ⟨g', c', hv', _, _, _, hgl', _, x1, _, _, hfz'⟩ := hT2.row.rtAt (k := i) (by simpa using hi2)
  have hgg := Hv.out.symm.trans hv'
  injection hgg with hg1 hg2 hg3
  injection hg1 with hg1
  injection hg1 with hg1
  subst hg1
  simp only [List.getElem_map, rt] at x1
  have hog := hT2.mine g (slice_block Hv.out)
  have hP2 := hT2.posts _ (List.getElem_mem hi2)
  obtain ⟨g2, c2, hpv2, hlc2, hcm2, hBg2, hgl2, _, y1, _, _, _, hfz2⟩ := hP2.row.rpAt (k := k) (by simpa using hk2)
  simp only [List.getElem_map, rp] at y1
  rw [List.length_map] at hpv2 hlc2
  have hog2 := hP2.mine g2 (slice_block hpv2)
  have hL2 := hP2.pl _ (List.getElem_mem hk2)
  have hfin := Lib.hid (fun w1 w2 lv2 hbl hown hgr hor => PutMid2.fin (lv' := lv2) (w1 := w1) (w2 := w2) hi2 hk2 hT2 hbx2 hbo2 hw2 hn2 hY2 hd2 hid2 hturn2 hag2 hpv2 hbl hown hgr hor)
  obtain ⟨m2, hm2⟩ : ∃ m, X2[i].2.2.length = m := ⟨_, rfl⟩
  rw [hpv2, hm2] at x1
  obtain ⟨pl, hpl9⟩ : ∃ pl, X2[i].2.2[k].2.2 = pl := ⟨_, rfl⟩
  obtain ⟨lv, hlv9⟩ : ∃ lv, X2[i].2.2[k].2.1 = lv := ⟨_, rfl⟩
  rw [hpl9, hlv9] at hL2
  rw [hpl9] at hbd2
  rw [hlv9] at y1
  obtain ⟨Al, cl, hlv, _, _⟩ := hL2.1.shape
  rw [hlv] at y1 hL2
  have hSS : ∀ W', Below wz.heap.size wz W' → W'.cell? ⟨g, i * 2 + 1, none⟩ = some (.slice (some ⟨g2, 0, none⟩) m2 c2) ∧ W'.cell? ⟨g2, k * 2 + 1, none⟩ = some (.slice Al pl.length cl) := fun W' hb => ⟨cell_ext hb x1, cell_ext hb y1⟩
  have HS := Lib.hid hSS
  have hS := HS.out _ (below_drewN' wz.heap.size wz 1)
  have hkI : (k : Int) < (m2 : Int) := by omega
  have hk0 : (0 : Int) ≤ (k : Int) := by omega
  have hkw : IntKind.i64.wrap (k : Int) = (k : Int) := IntWalk.i64_in _ (by unfold maxLen at hcm2; omega)
  have HO := Lib.hid hL2; have Hq := Lib.hid (And.intro hpl9 (And.intro (hlv9.trans hlv) (And.intro hog (And.intro hog2 (And.intro hgl' (And.intro hgl2 (And.intro hfz2 (And.intro hBz hbd2))))))))
  clear hSS x1 y1 hL2 hlv hlv9 hpl9 hm2 hog hog2 hgl' hgl2 hfz' hfz2 hBz hbd2 hP2 hpv2 hlc2 hcm2 hBg2 hT2 hbx2 hbo2 hw2 hn2 hY2 hd2 hid2 hturn2 hag2 hv' hg2 hg3
  go_wp2_with fail
  refine wp_region_D (fun W => W.cell? ⟨g, i * 2 + 1, none⟩ = some (.slice (some ⟨g2, 0, none⟩) m2 c2) ∧ W.cell? ⟨g2, k * 2 + 1, none⟩ = some (.slice Al pl.length cl)) (fun j => j == 17 || j == 18) (by kernel_rfl) ?_
  change anyD _ _ _ _ _ _ _ _ _ (wz.drewN 1)
  have hbV := below_drewN' wz.heap.size wz 1
  generalize wz.drewN 1 = V0 at hS hbV ⊢
  (refine anyD_light (i := 0) (v := ?_) rfl (by kernel_rfl) (by kernel_rfl) (by kernel_rfl) (by kernel_rfl) (by kernel_rfl) (fun _ _ _ h => h) (.inl ⟨by kernel_rfl, fun W9 hW9 => ?_⟩) hS ?_; rotate_left; · (obtain ⟨hw0, hw1⟩ := hW9; go_simp; rfl))
  (refine anyD_light (i := 1) (v := ?_) rfl (by kernel_rfl) (by kernel_rfl) (by kernel_rfl) (by kernel_rfl) (by kernel_rfl) (fun _ _ _ h => h) (.inl ⟨by kernel_rfl, fun W9 hW9 => ?_⟩) hS ?_; rotate_left; · (obtain ⟨hw0, hw1⟩ := hW9; go_simp; rfl))
  (refine anyD_light (i := 2) (v := ?_) rfl (by kernel_rfl) (by kernel_rfl) (by kernel_rfl) (by kernel_rfl) (by kernel_rfl) (fun _ _ _ h => h) (.inl ⟨by kernel_rfl, fun W9 hW9 => ?_⟩) hS ?_; rotate_left; · (obtain ⟨hw0, hw1⟩ := hW9; go_simp; rfl))
  (refine anyD_light (i := 3) (v := ?_) rfl (by kernel_rfl) (by kernel_rfl) (by kernel_rfl) (by kernel_rfl) (by kernel_rfl) (fun _ _ _ h => h) (.inl ⟨by kernel_rfl, fun W9 hW9 => ?_⟩) hS ?_; rotate_left; · (obtain ⟨hw0, hw1⟩ := hW9; go_simp; rfl))
  (refine anyD_light (i := 4) (v := ?_) rfl (by kernel_rfl) (by kernel_rfl) (by kernel_rfl) (by kernel_rfl) (by kernel_rfl) (fun _ _ _ h => h) (.inl ⟨by kernel_rfl, fun W9 hW9 => ?_⟩) hS ?_; rotate_left; · (obtain ⟨hw0, hw1⟩ := hW9; go_simp; rfl))
  (refine anyD_light (i := 5) (v := ?_) rfl (by kernel_rfl) (by kernel_rfl) (by kernel_rfl) (by kernel_rfl) (by kernel_rfl) (fun _ _ _ h => h) (.inl ⟨by kernel_rfl, fun W9 hW9 => ?_⟩) hS ?_; rotate_left; · (obtain ⟨hw0, hw1⟩ := hW9; go_simp; rfl))
  go_simp
  (refine anyD_light (i := 6) (v := ?_) rfl (by kernel_rfl) (by kernel_rfl) (by kernel_rfl) (by kernel_rfl) (by kernel_rfl) (fun _ _ _ h => h) (.inl ⟨by kernel_rfl, fun W9 hW9 => ?_⟩) hS ?_; rotate_left; · (obtain ⟨hw0, hw1⟩ := hW9; go_simp; rfl))
  (refine anyD_light (i := 7) (v := ?_) rfl (by kernel_rfl) (by kernel_rfl) (by kernel_rfl) (by kernel_rfl) (by kernel_rfl) (fun _ _ _ h => h) (.inl ⟨by kernel_rfl, fun W9 hW9 => ?_⟩) hS ?_; rotate_left; · (obtain ⟨hw0, hw1⟩ := hW9; go_simp; rfl))
  (refine anyD_light (i := 8) (v := ?_) rfl (by kernel_rfl) (by kernel_rfl) (by kernel_rfl) (by kernel_rfl) (by kernel_rfl) (fun _ _ _ h => h) (.inl ⟨by kernel_rfl, fun W9 hW9 => ?_⟩) hS ?_; rotate_left; · (obtain ⟨hw0, hw1⟩ := hW9; go_simp; rfl))
  (refine anyD_light (i := 9) (v := ?_) rfl (by kernel_rfl) (by kernel_rfl) (by kernel_rfl) (by kernel_rfl) (by kernel_rfl) (fun _ _ _ h => h) (.inl ⟨by kernel_rfl, fun W9 hW9 => ?_⟩) hS ?_; rotate_left; · (obtain ⟨hw0, hw1⟩ := hW9; go_simp; rfl))
  (refine anyD_light (i := 10) (v := ?_) rfl (by kernel_rfl) (by kernel_rfl) (by kernel_rfl) (by kernel_rfl) (by kernel_rfl) (fun _ _ _ h => h) (.inl ⟨by kernel_rfl, fun W9 hW9 => ?_⟩) hS ?_; rotate_left; · (obtain ⟨hw0, hw1⟩ := hW9; go_simp; rfl))
  (refine anyD_light (i := 11) (v := ?_) rfl (by kernel_rfl) (by kernel_rfl) (by kernel_rfl) (by kernel_rfl) (by kernel_rfl) (fun _ _ _ h => h) (.inl ⟨by kernel_rfl, fun W9 hW9 => ?_⟩) hS ?_; rotate_left; · (obtain ⟨hw0, hw1⟩ := hW9; go_simp; rfl))
  go_simp
  (refine anyD_light (i := 12) (v := ?_) rfl (by kernel_rfl) (by kernel_rfl) (by kernel_rfl) (by kernel_rfl) (by kernel_rfl) (fun _ _ _ h => h) (.inl ⟨by kernel_rfl, fun W9 hW9 => ?_⟩) hS ?_; rotate_left; · (obtain ⟨hw0, hw1⟩ := hW9; go_simp; rfl))
  (refine anyD_light (i := 13) (v := ?_) rfl (by kernel_rfl) (by kernel_rfl) (by kernel_rfl) (by kernel_rfl) (by kernel_rfl) (fun _ _ _ h => h) (.inl ⟨by kernel_rfl, fun W9 hW9 => ?_⟩) hS ?_; rotate_left; · (obtain ⟨hw0, hw1⟩ := hW9; go_simp; rfl))
  go_simp
  refine anyD_one (i := 14) (by kernel_rfl) rfl rfl (fun K hK => ?_)
  have HK := Lib.hid hK
  clear hK
  unfold Oper.wp
  go_simp
  generalize hV : World.alloc V0 (.cells #[.int .i64 place] 3) = V1
  have hal8 : Below wz.heap.size wz V1 := by rw [← hV]; exact hbV.alloc hbV.size _
  have hltl := HO.out.1.lt
  have xr : SlR intC (fun b => M0 b ∨ (Value.slice Al pl.length cl).ownBlock = some b) V1 (.slice (some ⟨V0.heap.size, 0, none⟩) 1 1) [place] := by rw [← hV]; exact SlR.built (C := intC) (cs := [.int .i64 place]) _ ⟨rfl, by omega, by omega⟩ (fun b hb => hb.elim (fun h => h.elim) fun h => Nat.lt_of_lt_of_le (hltl b h) hbV.size)
  clear hS hV hltl
  have hS := HS.out _ hal8
  refine HK.out _ _ (fun _ => hS) ?_
  clear HK
  go_simp
  refine anyD_one (i := 15) (by kernel_rfl) rfl rfl (fun K hK => ?_)
  have HK := Lib.hid hK
  clear hK
  refine wp_append_Own intC TInts (.tmp 100) (.tmp 102) rfl rfl (HO.out.1.ext hal8) rfl xr (by have := Hq.out.2.2.2.2.2.2.2.2; simp only [maxLen, List.length_singleton]; omega) (by have := Hq.out.2.2.2.2.2.2.2.2; simp only [List.length_singleton]; omega) (Nat.le_trans Hq.out.2.2.2.2.2.2.2.1 hal8.size) ?_
  intro A8 c8 L8 V2 hL8 own8 hbl8 hgr8 hor8
  have keep : ∀ b, b < wz.heap.size → o2 b ≠ .pl X2[i].1 X2[i].2.2[k].1 → V2.heap[b]? = V1.heap[b]? := fun b hb ho => hgr8.block b (Nat.lt_of_lt_of_le hb hal8.size) fun e => ho (HO.out.2 b e.symm)
  have hg8 := keep g Hq.out.2.2.2.2.1 (by rw [Hq.out.2.2.1]; simp)
  have hg28 := keep g2 Hq.out.2.2.2.2.2.1 (by rw [Hq.out.2.2.2.1]; simp)
  have hS8 : V2.cell? ⟨g, i * 2 + 1, none⟩ = some (.slice (some ⟨g2, 0, none⟩) m2 c2) ∧ V2.cell? ⟨g2, k * 2 + 1, none⟩ = some (.slice Al pl.length cl) := ⟨(World.cell?_of_block (a := ⟨g, i * 2 + 1, none⟩) hg8).trans hS.1, (World.cell?_of_block (a := ⟨g2, k * 2 + 1, none⟩) hg28).trans hS.2⟩
  have hf9 : V2.frozen? ⟨g2, k * 2 + 1, none⟩ = false := by rw [World.frozen?_of_block (a := ⟨g2, k * 2 + 1, none⟩) hg28, frozen_ext hal8 Hq.out.2.2.2.2.2.1]; exact Hq.out.2.2.2.2.2.2.1 _
  have Hdone := Lib.hid (hfin.out V1 V2 _ hal8 (by rw [Hq.out.1, ← hL8.out]; exact own8) (by rw [Hq.out.2.1]; exact hgr8) (by rw [Hq.out.2.1]; exact hor8.imp (fun h => h) fun h => ⟨_, Nat.le_refl _, h⟩))
  clear hS own8 hbl8 hgr8 hor8 keep hg8 hg28 xr
  have hS := hS8
  clear hS8
  refine HK.out _ _ (fun _ => hS) ?_
  clear HK
  (refine anyD_light (i := 16) (v := ?_) rfl (by kernel_rfl) (by kernel_rfl) (by kernel_rfl) (by kernel_rfl) (by kernel_rfl) (fun _ _ _ h => h) (.inl ⟨by kernel_rfl, fun W9 hW9 => ?_⟩) hS ?_; rotate_left; · (obtain ⟨hw0, hw1⟩ := hW9; go_simp; rfl))
  (refine anyD_light (i := 17) (v := ?_) rfl (by kernel_rfl) (by kernel_rfl) (by kernel_rfl) (by kernel_rfl) (by kernel_rfl) (fun _ _ _ h => h) (.inl ⟨by kernel_rfl, fun W9 hW9 => ?_⟩) hS ?_; rotate_left; · (obtain ⟨hw0, hw1⟩ := hW9; go_simp; rfl))
  go_simp
  refine anyD_one (i := 18) (by kernel_rfl) rfl rfl (fun K hK => ?_)
  have HK := Lib.hid hK
  clear hK
  obtain ⟨_, hq9⟩ := hS
  unfold Oper.wp
  go_simp
  refine HK.out _ _ (fun h => by cases h) ?_
  clear HK
  go_simp
  refine anyD_done (by kernel_rfl) ?_ _
  go_wp2
  refine bodyPost_end (v := .tuple #[]) (by simp [results, go_sem]) rfl ?_
  obtain ⟨o', X', h1, h2, h3, h4, h5⟩ := Hdone.out
  exact ⟨o', tv1, X', rfl, h1, h2, h3, (Turn.of_below HW.out.2.2).trans (o' := o) h4 (fun _ _ => rfl), fun b hb => h5 b (Nat.lt_of_lt_of_le hb HW.out.2.2.size)⟩
end Go.Proofs.YtfjpedgddgbelaaGreatDoor

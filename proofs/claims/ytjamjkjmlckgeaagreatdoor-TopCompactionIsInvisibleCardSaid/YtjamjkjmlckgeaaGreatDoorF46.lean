/-
  The player: what it does at the records of a mailbox and of a message.
-/
import Derived.Test.YtjamjkjmlckgeaaGreatDoorF45
namespace Go.Proofs.YtjamjkjmlckgeaaGreatDoor
open Go.RowKit
set_option linter.unusedVariables false

theorem msg_out {α : Type} {C : Codec α} {N : Nat → Prop} {w w' : World} {v : Value} {l : List α} {n : Nat} (h : SlR C (fun x => x < n) w v l) (hb : Below w.heap.size w w') (hN : ∀ x, N x → x < n) : SlR C N w' v l := (h.ext hb).sub fun x _ hx => hN x hx

set_option maxRecDepth 100000 in
set_option maxHeartbeats 16000000 in
theorem play_ent (M : Nat → Prop) (n0 : Nat) (w : World) (B p : Nat) (b : Mb.Box) (ne : Mb.Ent) (v : Value) (first : Bool) (hE : Env n0 w) (hn : n0 ≤ B) (hM : ∀ x, M x → x < w.heap.size) (hP : PlAt M w B p b true) (hv : SlR byteC (fun x => B ≤ x) w v (Mb.entB ne)) (hr : Mb.RcIn (.ent ne)) (hGd : Mb.Good ⟨b.nu, b.ns, b.hz, b.es ++ [ne], b.gs⟩) :
    Calls Tryz.prog 26 #[.pointer (some ⟨p, 0, none⟩), v, .bool first] w fun e w' => e = .returned (.bool true) ∧ PlAt M w' B p ⟨b.nu, b.ns, b.hz, b.es ++ [ne], b.gs⟩ true ∧ Below B w w' := by
  obtain ⟨hBp, hMp, es, gs, kp, oE, oG, hesM, hgsM⟩ := hP
  have hpl := kp.lt
  have hBw : B ≤ w.heap.size := by omega
  obtain ⟨Ae, ce, rfl, _, _⟩ := oE.shape
  obtain ⟨Ag, cg, rfl, _, _⟩ := oG.shape
  have hchl := Mb.entB_len hr
  have hel : b.es.length + 1 ≤ 200 := by have h9 := hGd.le; rw [List.length_append] at h9; exact h9
  obtain ⟨ud, sq, fg, tm, fl, bdl⟩ := ne
  obtain ⟨i1, i2, i3, i4, hmi⟩ := hr
  have hr : Mb.RcIn (.ent (ud, sq, fg, tm, fl, bdl)) := ⟨i1, i2, i3, i4, hmi⟩
  dsimp only at i1 i2 i3 i4
  have hmi1 : fl.length ≤ 60 := hmi.1
  have hmi2 : Mb.sizeF fl + 2 + bdl.length ≤ 12000 := hmi.2
  have hT : Mb.entB (ud, sq, fg, tm, fl, bdl) = 69 :: (Mb.numb ud ++ (Mb.numb sq ++ (Mb.numb fg ++ (Mb.numb tm ++ (Mb.msgB (fl, bdl) ++ []))))) := by
    show 69 :: (Mb.numsB [ud, sq, fg, tm] ++ Mb.msgB (fl, bdl)) = _
    unfold Mb.numsB
    simp only [List.flatMap_cons, List.flatMap_nil, List.append_nil, List.append_assoc]
  obtain ⟨tx, htx⟩ : ∃ x, x = Mb.entB (ud, sq, fg, tm, fl, bdl) := ⟨_, rfl⟩
  have hof := fun W (h1 : Env n0 W) (h2 : n0 ≤ W.heap.size) f bd (h3 : SlR fldC M0 W f fl) (h4 : SlR byteC M0 W bd bdl) => ofEnt_ok n0 W (ud, sq, fg, tm, fl, bdl) f bd h1 h2 h3 h4 hr
  rw [← htx] at hv hT hchl hof
  unfold entV at hof
  dsimp only at hof
  obtain ⟨rest, hrest⟩ : ∃ x, x = Mb.numb ud ++ (Mb.numb sq ++ (Mb.numb fg ++ (Mb.numb tm ++ (Mb.msgB (fl, bdl) ++ ([]))))) := ⟨_, rfl⟩
  rw [← hrest] at hT
  have hrl : 0 < rest.length := by
    rw [hrest, List.length_append]
    have : 0 < (Mb.numb ud).length := by unfold Mb.numb Mb.item; rw [List.length_append, List.length_cons]; omega
    omega
  have hrl2 : rest.length ≤ 20000 := by rw [hT, List.length_cons] at hchl; omega
  rw [hT] at hv
  obtain ⟨A, cv, rfl, hcv1, hcv2⟩ := hv.form
  obtain ⟨bb, off, rfl, hc0, hbb, hc1, hrs⟩ := play_cut hv hrl
  unfold maxLen at hcv2
  obtain ⟨w1, g, hw1, hg, hsz1, k1, hb1⟩ := box1 w #[.slice (some ⟨bb, off + 1, none⟩) rest.length (cv - 1), .bool false] 120
  have hpg : p ≠ g := by omega
  have hBg : B ≤ g := by omega
  have hR1 : RdAt (fun x => B ≤ x) w1 g (Mb.numb ud ++ (Mb.numb sq ++ (Mb.numb fg ++ (Mb.numb tm ++ (Mb.msgB (fl, bdl) ++ ([])))))) := by
    rw [← hrest]
    exact ⟨hBg, _, _, k1, hrs.ext hb1⟩
  have hlen : ∀ a b : List UInt8, (a ++ b).length ≤ 100000000 → b.length ≤ 100000000 := fun a b h => by rw [List.length_append] at h; omega
  have hl1 : (Mb.numb ud ++ (Mb.numb sq ++ (Mb.numb fg ++ (Mb.numb tm ++ (Mb.msgB (fl, bdl) ++ ([])))))).length ≤ 100000000 := by rw [← hrest]; omega
  have hl2 := hlen _ _ hl1
  have hl3 := hlen _ _ hl2
  have hl4 := hlen _ _ hl3
  have hl5 := hlen _ _ hl4
  have hl6 := hlen _ _ hl5
  have Hl := Lib.hid (And.intro hl2 (And.intro hl3 (And.intro hl4 (And.intro hl5 hl6))))
  have hng : n0 ≤ g := by omega
  have hlenT : (69 :: rest : List UInt8).length = rest.length + 1 := List.length_cons
  rw [hlenT] at hv hcv1 ⊢
  have hTl : ((rest.length + 1 : Nat) : Int) - 1 = (rest.length : Int) := by omega
  have hc0w := (hb1.cell (p := ⟨bb, off, none⟩) hbb).trans hc0
  have hn1 : ¬ (rest.length : Int) + 1 = 0 := by omega
  have hcvi : (rest.length : Int) + 1 ≤ (cv : Int) := by omega
  have HE1 := Lib.hid (hE.ext hb1 (by omega))
  have Htx := Lib.hid hT
  have oE1 := (own_sub (M' := fun x => MB M w.heap.size x ∨ (Value.slice Ag b.gs.length cg).ownBlock = some x) oE fun x hx h => h.imp (fun h => h.elim id fun h => by omega) id).ext hb1
  have oG1 := oG.ext hb1
  have kp1 := kp.ext hb1
  have hv1 := hv.ext hb1
  have hneG : ∀ x, (Value.slice Ag b.gs.length cg).ownBlock = some x → x ≠ g := fun x hx e => by have h1 := oG.lt x hx; omega
  have hneE : ∀ x, (Value.slice Ae b.es.length ce).ownBlock = some x → x ≠ g := fun x hx e => by have h1 := oE.lt x hx; omega
  have hEl : ∀ x, (Value.slice Ae b.es.length ce).ownBlock = some x → x < w.heap.size := fun x hx => oE.lt x hx
  have hGl : ∀ x, (Value.slice Ag b.gs.length cg).ownBlock = some x → x < w.heap.size := fun x hx => oG.lt x hx
  have hMg : MB M w.heap.size g := .inr (by omega)
  have hMgp : MB M w.heap.size p := .inl hMp
  have hz1 := hb1.size
  have hk1l := k1.lt
  have Hof := Lib.hid hof
  clear hsz1 hl2 hl3 hl4 hl5 hl6 hof hT htx hrest hrs hE kp oE oG hv hc0 hchl hlenT hr hlen
  have HN1 := Lib.hid (number_rd (fun x => B ≤ x) n0 w1 g ud _ HE1.out hng i1 hR1 (hl1))
  clear hR1 hl1
  go_enter Tryz.func26, Tryz.ntmps26
  go_wp2_with fail
  refine HN1.out.mono ?_
  rintro e w2 ⟨rfl, hR2, hT2⟩
  refine Hid.out ?_
  have hTN2 : TurnedN g w1 w2 := hT2
  have HE2 := Lib.hid (HE1.out.on (hT2.rest n0 hng (by omega)))
  have HN2 := Lib.hid (number_rd (fun x => B ≤ x) n0 w2 g sq _ HE2.out hng i2 hR2 (Hl.out.1))
  clear hR2 hT2 HN1
  refine Lib.hid ?_
  go_wp2_with fail
  refine HN2.out.mono ?_
  rintro e w3 ⟨rfl, hR3, hT3⟩
  refine Hid.out ?_
  have hTN3 : TurnedN g w1 w3 := hTN2.trans hT3
  have HE3 := Lib.hid (HE2.out.on (hT3.rest n0 hng (by have := hTN2.size; omega)))
  have HN3 := Lib.hid (number_rd (fun x => B ≤ x) n0 w3 g fg _ HE3.out hng i3 hR3 (Hl.out.2.1))
  clear hR3 hT3 HN2
  refine Lib.hid ?_
  go_wp2_with fail
  refine HN3.out.mono ?_
  rintro e w4 ⟨rfl, hR4, hT4⟩
  refine Hid.out ?_
  have hTN4 : TurnedN g w1 w4 := hTN3.trans hT4
  have HE4 := Lib.hid (HE3.out.on (hT4.rest n0 hng (by have := hTN3.size; omega)))
  have HN4 := Lib.hid (number_rd (fun x => B ≤ x) n0 w4 g tm _ HE4.out hng i4 hR4 (Hl.out.2.2.1))
  clear hR4 hT4 HN3
  refine Lib.hid ?_
  go_wp2_with fail
  refine HN4.out.mono ?_
  rintro e w5 ⟨rfl, hR5, hT5⟩
  refine Hid.out ?_
  have hTN5 : TurnedN g w1 w5 := hTN4.trans hT5
  have HE5 := Lib.hid (HE4.out.on (hT5.rest n0 hng (by have := hTN4.size; omega)))
  have HM := Lib.hid (msg_rd (fun x => x < w.heap.size) (fun x => B ≤ x) n0 w5 g (fl, bdl) [] HE5.out hng (fun x hx => by
    have h9 := hTN5.size
    omega) hmi hR5 Hl.out.2.2.2.1)
  clear hR5 hT5 HN4
  refine Lib.hid ?_
  go_wp2_with fail
  refine HM.out.mono ?_
  rintro e w7 ⟨f, bd, rfl, hsf, hsb, hR7, hT7⟩
  refine Hid.out ?_
  obtain ⟨Af, cf, rfl, _, _⟩ := hsf.form
  obtain ⟨Ab, cb, rfl, _, _⟩ := hsb.form
  have hTN7 : TurnedN g w1 w7 := hTN5.trans hT7
  have HE7 := HE5.out.on (hT7.rest n0 hng (by have := hTN5.size; omega))
  obtain ⟨wo, g9, hwo, hg9, hszo, k9, hbo⟩ := box1 w7 #[.int .i64 ud, .int .i64 sq, .int .i64 fg, .int .i64 tm, .slice Af fl.length cf, .slice Ab bdl.length cb] 65
  have hTNo : TurnedN g w1 wo := hTN7.below hbo
  have kpo := kp1.turnedN hTNo hpg
  have oEo := oE1.turnedN hTNo (.inl hMg) hneE
  have oGo := oG1.growT free_gn hTNo hneG
  have HEo := Lib.hid (HE7.ext hbo (by have := hTN7.size; omega))
  have hvo := hv1.turnedN hTNo (show B ≤ g from hBg)
  obtain ⟨_, AR, cR, kR, _⟩ := hR7.ext hbo
  have HsF := Lib.hid (hsf.ext hbo); have HsB := Lib.hid (hsb.ext hbo)
  have hbBo : Below B w wo := (hb1.mono hBw).trans (hTNo.rest B hBg (by omega))
  have hzo : w.heap.size ≤ wo.heap.size := by have := hTNo.size; omega
  have hg9g : g9 ≠ g := by have := hTN7.size; omega
  have hg9p : g9 ≠ p := by have := hTN7.size; omega
  have hg9w : w.heap.size ≤ g9 := by have := hTN7.size; omega
  have HSS : Hid (∀ W, Below wo.heap.size wo W → W.cell? ⟨p, 3, none⟩ = some (.slice Ae b.es.length ce) ∧ W.cell? ⟨g9, 0, none⟩ = some (.int .i64 ud) ∧ W.cell? ⟨g9, 1, none⟩ = some (.int .i64 sq) ∧ W.cell? ⟨g9, 2, none⟩ = some (.int .i64 fg) ∧ W.cell? ⟨g9, 3, none⟩ = some (.int .i64 tm) ∧ W.cell? ⟨g9, 4, none⟩ = some (.slice Af fl.length cf) ∧ W.cell? ⟨g9, 5, none⟩ = some (.slice Ab bdl.length cb)) := Lib.hid fun W hW => ⟨(kpo.ext hW).cell 3, (k9.ext hW).cell 0, (k9.ext hW).cell 1, (k9.ext hW).cell 2, (k9.ext hW).cell 3, (k9.ext hW).cell 4, (k9.ext hW).cell 5⟩
  have Hvo := Lib.hid hvo
  clear hTN2 hTN3 hTN4 hTN5 hTN7 hTNo hT7 hR7 hbo HM hszo hvo HE7 oE1 oG1 kp1 hv1 k1 hb1 HE1 HE2 HE3 HE4 HE5 hc0w hsf hsb
  refine Lib.hid ?_
  go_wp2_with fail
  refine wp_region_D (fun W => W.cell? ⟨p, 3, none⟩ = some (.slice Ae b.es.length ce) ∧ W.cell? ⟨g9, 0, none⟩ = some (.int .i64 ud) ∧ W.cell? ⟨g9, 1, none⟩ = some (.int .i64 sq) ∧ W.cell? ⟨g9, 2, none⟩ = some (.int .i64 fg) ∧ W.cell? ⟨g9, 3, none⟩ = some (.int .i64 tm) ∧ W.cell? ⟨g9, 4, none⟩ = some (.slice Af fl.length cf) ∧ W.cell? ⟨g9, 5, none⟩ = some (.slice Ab bdl.length cb)) (fun j => j == 10 || j == 11 || j == 12 || j == 13 || j == 14) (by kernel_rfl) ?_
  change anyD _ _ _ _ _ _ _ _ _ (wo.drewN 1)
  have hbV := below_drewN' wo.heap.size wo 1
  generalize wo.drewN 1 = V0 at hbV ⊢
  have hS := HSS.out V0 hbV
  have oE2 : Own entC (fun x => M x ∨ (Value.slice Ag b.gs.length cg).ownBlock = some x) V0 B 65 (.slice Ae b.es.length ce) b.es := own_sub (oEo.ext hbV) fun x _ hx => hx.imp .inl id
  (refine anyD_light (i := 0) (v := ?_) rfl (by kernel_rfl) (by kernel_rfl) (by kernel_rfl) (by kernel_rfl) (by kernel_rfl) (fun _ _ _ h => h) (.inl ⟨by kernel_rfl, fun W9 hW9 => ?_⟩) hS ?_; rotate_left; · (obtain ⟨hw0, hw1, hw2, hw3, hw4, hw5, hw6⟩ := hW9; go_simp; rfl))
  (refine anyD_light (i := 1) (v := ?_) rfl (by kernel_rfl) (by kernel_rfl) (by kernel_rfl) (by kernel_rfl) (by kernel_rfl) (fun _ _ _ h => h) (.inl ⟨by kernel_rfl, fun W9 hW9 => ?_⟩) hS ?_; rotate_left; · (obtain ⟨hw0, hw1, hw2, hw3, hw4, hw5, hw6⟩ := hW9; go_simp; rfl))
  (refine anyD_light (i := 2) (v := ?_) rfl (by kernel_rfl) (by kernel_rfl) (by kernel_rfl) (by kernel_rfl) (by kernel_rfl) (fun _ _ _ h => h) (.inl ⟨by kernel_rfl, fun W9 hW9 => ?_⟩) hS ?_; rotate_left; · (obtain ⟨hw0, hw1, hw2, hw3, hw4, hw5, hw6⟩ := hW9; go_simp; rfl))
  (refine anyD_light (i := 3) (v := ?_) rfl (by kernel_rfl) (by kernel_rfl) (by kernel_rfl) (by kernel_rfl) (by kernel_rfl) (fun _ _ _ h => h) (.inl ⟨by kernel_rfl, fun W9 hW9 => ?_⟩) hS ?_; rotate_left; · (obtain ⟨hw0, hw1, hw2, hw3, hw4, hw5, hw6⟩ := hW9; go_simp; rfl))
  (refine anyD_light (i := 4) (v := ?_) rfl (by kernel_rfl) (by kernel_rfl) (by kernel_rfl) (by kernel_rfl) (by kernel_rfl) (fun _ _ _ h => h) (.inl ⟨by kernel_rfl, fun W9 hW9 => ?_⟩) hS ?_; rotate_left; · (obtain ⟨hw0, hw1, hw2, hw3, hw4, hw5, hw6⟩ := hW9; go_simp; rfl))
  (refine anyD_light (i := 5) (v := ?_) rfl (by kernel_rfl) (by kernel_rfl) (by kernel_rfl) (by kernel_rfl) (by kernel_rfl) (fun _ _ _ h => h) (.inl ⟨by kernel_rfl, fun W9 hW9 => ?_⟩) hS ?_; rotate_left; · (obtain ⟨hw0, hw1, hw2, hw3, hw4, hw5, hw6⟩ := hW9; go_simp; rfl))
  go_simp
  (refine anyD_light (i := 6) (v := ?_) rfl (by kernel_rfl) (by kernel_rfl) (by kernel_rfl) (by kernel_rfl) (by kernel_rfl) (fun _ _ _ h => h) (.inl ⟨by kernel_rfl, fun W9 hW9 => ?_⟩) hS ?_; rotate_left; · (obtain ⟨hw0, hw1, hw2, hw3, hw4, hw5, hw6⟩ := hW9; go_simp; rfl))
  (refine anyD_light (i := 7) (v := ?_) rfl (by kernel_rfl) (by kernel_rfl) (by kernel_rfl) (by kernel_rfl) (by kernel_rfl) (fun _ _ _ h => h) (.inl ⟨by kernel_rfl, fun W9 hW9 => ?_⟩) hS ?_; rotate_left; · (obtain ⟨hw0, hw1, hw2, hw3, hw4, hw5, hw6⟩ := hW9; go_simp; rfl))
  go_simp
  refine anyD_one (i := 8) (by kernel_rfl) rfl rfl (fun K hK => ?_)
  have HK := Lib.hid hK
  clear hK
  clear hS
  unfold Oper.wp
  go_simp
  have hlt9 : ∀ x, ((M x ∨ (Value.slice Ag b.gs.length cg).ownBlock = some x) ∨ (Value.slice Ae b.es.length ce).ownBlock = some x) → x < w.heap.size := fun x hx => hx.elim (fun h => h.elim (hM x) (hGl x)) (hEl x)
  have hrd : entC.rd (fun x => (fun x => M x ∨ (Value.slice Ag b.gs.length cg).ownBlock = some x) x ∨ (Value.slice Ae b.es.length ce).ownBlock = some x) V0 [.int .i64 ud, .int .i64 sq, .int .i64 fg, .int .i64 tm, .slice Af fl.length cf, .slice Ab bdl.length cb] (ud, sq, fg, tm, fl, bdl) := ⟨_, _, rfl, ⟨rfl, i1.big⟩, _, _, rfl, ⟨rfl, i2.big⟩, _, _, rfl, ⟨rfl, i3.big⟩, _, _, rfl, ⟨rfl, i4.big⟩, _, _, rfl, ⟨_, rfl, msg_out HsF.out hbV hlt9⟩, ⟨_, rfl, msg_out HsB.out hbV hlt9⟩⟩
  have xr : SlR entC (fun x => (fun x => M x ∨ (Value.slice Ag b.gs.length cg).ownBlock = some x) x ∨ (Value.slice Ae b.es.length ce).ownBlock = some x) (V0.alloc (.cells #[.int .i64 ud, .int .i64 sq, .int .i64 fg, .int .i64 tm, .slice Af fl.length cf, .slice Ab bdl.length cb] 65)) (.slice (some ⟨V0.heap.size, 0, none⟩) 1 1) [(ud, sq, fg, tm, fl, bdl)] := SlR.built (C := entC) 65 hrd fun x hx => Nat.lt_of_lt_of_le (hlt9 x hx) (Nat.le_trans hzo hbV.size)
  have hal : Below V0.heap.size V0 (V0.alloc (.cells #[.int .i64 ud, .int .i64 sq, .int .i64 fg, .int .i64 tm, .slice Af fl.length cf, .slice Ab bdl.length cb] 65)) := (Below.refl _ _).alloc (Nat.le_refl _) _
  generalize hV1 : V0.alloc (.cells #[.int .i64 ud, .int .i64 sq, .int .i64 fg, .int .i64 tm, .slice Af fl.length cf, .slice Ab bdl.length cb] 65) = V1 at xr hal ⊢
  have hb1 := below2 hbV hal
  have oE3 := oE2.ext hal
  have hz1 := hb1.size
  have hS := HSS.out V1 hb1
  refine HK.out _ _ (fun _ => hS) ?_
  clear HK
  go_simp
  refine anyD_one (i := 9) (by kernel_rfl) rfl rfl (fun K hK => ?_)
  have HK := Lib.hid hK
  clear hK
  clear hS
  refine wp_append_Own entC (M := (fun x => M x ∨ (Value.slice Ag b.gs.length cg).ownBlock = some x)) (v := .slice Ae b.es.length ce) (l := b.es) (l' := [(ud, sq, fg, tm, fl, bdl)]) TEnts (.tmp 162) (.tmp 164) rfl rfl oE3 rfl xr (by simp only [maxLen, List.length_cons, List.length_nil]; omega) (by simp only [List.length_cons, List.length_nil]; omega) (by omega) ?_
  intro A4 ceW L4 V4 hL4 oE4 hbl4 hgr4 hor4
  have k94 := (k9.ext hb1).grown hgr4 (fun e => by have h9 := hEl g9 e.symm; omega)
  have kp4 := (kpo.ext hb1).grown hgr4 (fun e => own_ne_blk oE3 (kpo.ext hb1) (by decide) p e.symm rfl)
  have kR4 := (kR.ext hb1).grown hgr4 (fun e => by have h9 := hneE g e.symm; exact h9 rfl)
  have oG4 := own_grownF free_gn (oGo.ext hb1) hgr4 (fun x hx e => own_apart oE3 (oGo.ext hb1) (by decide) x hx e)
  have hb4 : Below B w V4 := (hbBo.trans (hb1.mono (by omega))).trans hbl4
  have hS := (⟨kp4.cell 3, k94.cell 0, k94.cell 1, k94.cell 2, k94.cell 3, k94.cell 4, k94.cell 5⟩ : _ ∧ _ ∧ _ ∧ _ ∧ _ ∧ _ ∧ _)
  refine HK.out _ _ (fun _ => hS) ?_
  clear HK
  (refine anyD_light (i := 10) (v := ?_) rfl (by kernel_rfl) (by kernel_rfl) (by kernel_rfl) (by kernel_rfl) (by kernel_rfl) (fun _ _ _ h => h) (.inl ⟨by kernel_rfl, fun W9 hW9 => ?_⟩) hS ?_; rotate_left; · (obtain ⟨hw0, hw1, hw2, hw3, hw4, hw5, hw6⟩ := hW9; go_simp; rfl))
  go_simp
  refine anyD_one (i := 11) (by kernel_rfl) rfl rfl (fun K hK => ?_)
  have HK := Lib.hid hK
  clear hK
  unfold Oper.wp
  go_simp
  refine HK.out _ _ (fun h => by cases h) ?_
  clear HK
  go_simp
  refine anyD_one (i := 12) (by kernel_rfl) rfl rfl (fun K hK => ?_)
  have HK := Lib.hid hK
  clear hK
  unfold Oper.wp
  go_simp
  refine HK.out _ _ (fun h => by cases h) ?_
  clear HK
  go_simp
  refine anyD_one (i := 13) (by kernel_rfl) rfl rfl (fun K hK => ?_)
  have HK := Lib.hid hK
  clear hK
  unfold Oper.wp
  go_simp
  refine HK.out _ _ (fun h => by cases h) ?_
  clear HK
  go_simp
  refine anyD_one (i := 14) (by kernel_rfl) rfl rfl (fun K hK => ?_)
  have HK := Lib.hid hK
  clear hK
  have x3 := kp4.frozen 3; have xl := kp4.lt; have y3 := kp4.cell 3
  unfold Oper.wp
  go_simp
  refine HK.out _ _ (fun h => by cases h) ?_
  clear HK
  go_simp
  refine anyD_done (by kernel_rfl) ?_ _
  have hT5 : Turned p V4 (V4.setCell ⟨p, 3, none⟩ (.slice A4 L4.length ceW)) := (Turned.refl p V4).set 3 _
  have kp5 : Blk (V4.setCell ⟨p, 3, none⟩ (.slice A4 L4.length ceW)) p 77 #[.int .i64 b.nu, .int .i64 b.ns, .int .i64 b.hz, .slice A4 L4.length ceW, .slice Ag b.gs.length cg, .bool true] := by simpa using kp4.set_ 3 (.slice A4 L4.length ceW)
  have oE5 := oE4.turned hT5 (.inl hMp) (own_ne_blk oE4 kp4 (by decide))
  have oG5 := oG4.turned hT5 hMp (own_ne_blk oG4 kp4 (by decide))
  have k95 := k94.turned hT5 hg9p
  have kR5 := kR4.turned hT5 hpg.symm
  have hb5 : Below B w (V4.setCell ⟨p, 3, none⟩ (.slice A4 L4.length ceW)) := hb4.trans (hT5.rest B hBp)
  have hz5 : wo.heap.size ≤ (V4.setCell ⟨p, 3, none⟩ (.slice A4 L4.length ceW)).heap.size := by have h1 := hT5.size; have h2 := hgr4.size; have h3 := hb1.size; omega
  have hsf5 := (((HsF.out.ext hb1).keep (w' := V4) (fun x hx hn => hgr4.block x hx fun e => hn (hEl x e.symm)) hgr4.size).turned hT5 hpl).zero
  have hsb5 := (((HsB.out.ext hb1).keep (w' := V4) (fun x hx hn => hgr4.block x hx fun e => hn (hEl x e.symm)) hgr4.size).turned hT5 hpl).zero
  have hv5 := ((Hvo.out.belowB (hb1.mono (by omega))).belowB hbl4).turned hT5 (show B ≤ p from hBp)
  have hE5 : Env n0 (V4.setCell ⟨p, 3, none⟩ (.slice A4 L4.length ceW)) := ((HEo.out.ext hb1 (by omega)).on (hbl4.mono hn)).on (hT5.rest n0 (by omega))
  generalize V4.setCell ⟨p, 3, none⟩ (.slice A4 L4.length ceW) = V5 at hT5 kp5 oE5 oG5 k95 kR5 hb5 hz5 hsf5 hsb5 hv5 hE5 ⊢
  have HO := Lib.hid (Hof.out V5 hE5 (by omega) _ _ hsf5 hsb5)
  have HL4 := Lib.hid hL4.out
  have q0 := k95.cell 0; have q1 := k95.cell 1; have q2 := k95.cell 2; have q3 := k95.cell 3; have q4 := k95.cell 4; have q5 := k95.cell 5
  have p5 := kp5.cell 5
  have Hkp5 := Lib.hid kp5; have HoE5 := Lib.hid oE5; have HoG5 := Lib.hid oG5; have Hb5 := Lib.hid hb5; have Hv5 := Lib.hid hv5
  have hob : ∀ x, (Value.slice A4 L4.length ceW).ownBlock = some x → x < w.heap.size ∨ x = V1.heap.size := fun x hx => by
    rcases hor4 with e | e
    · rw [e] at hx; exact .inl (hEl x hx)
    · rw [e] at hx; exact .inr (Option.some.inj hx).symm
  have hesM4 : ∀ x, (Value.slice A4 L4.length ceW).ownBlock = some x → ¬ M x := fun x hx h => by
    rcases hor4 with e | e
    · rw [e] at hx; exact hesM x hx h
    · rw [e] at hx; have h8 := hM x h; have h9 := Option.some.inj hx; omega
  have HesM := Lib.hid hesM4
  have HgsM := Lib.hid hgsM
  clear hS hT5 kp5 oE5 oG5 k95 hb5 hsf5 hsb5 hv5 hE5 kp4 oE4 oG4 k94 kR4 hb4 hbl4 hgr4 hor4 x3 xl y3 xr hrd oE3 oE2 hb1 hal hbV HSS k9 kpo kR oEo oGo hlt9 hob hesM4 hL4 hV1
  go_wp2_with fail
  refine HO.out.mono ?_
  rintro e W ⟨v11, rfl, own11, hb11⟩
  obtain ⟨A11, c11, rfl, _, _⟩ := own11.shape
  have kRW := kR5.ext hb11
  have HbW := Lib.hid (Hb5.out.trans (hb11.mono (by omega)))
  have HvW := Lib.hid (Hv5.out.belowB (hb11.mono (by omega)))
  have kW9 := Hkp5.out.ext hb11
  have oE9 := HoE5.out.ext hb11
  have oG9 := HoG5.out.ext hb11
  obtain ⟨L5, hL5⟩ : ∃ x, x = b.es ++ [(ud, sq, fg, tm, fl, bdl)] := ⟨_, rfl⟩
  have hL45 : L4 = L5 := by rw [hL5]; exact HL4.out
  subst hL45
  rw [← hL5] at hGd
  have HL5 := Lib.hid hL5
  have HkW := Lib.hid kW9; have HoE := Lib.hid oE9; have HoG := Lib.hid oG9
  have Hfin := Lib.hid Htx.out
  have p5 := kW9.cell 5
  clear q0 q1 q2 q3 q4 q5 kR5 HO hb11 kW9 oE9 oG9 Hkp5 HoE5 HoG5 Hb5 Hv5 Hof HL4 hL5
  have hcA := run_convert_SlR (P := Tryz.prog) Tryz.underlying29 Tryz.underlying5 Tryz.underlying9 (own_bytes own11)
  have hcB := run_convert_SlR (P := Tryz.prog) Tryz.underlying29 Tryz.underlying5 Tryz.underlying9 HvW.out
  have HQ := Lib.hid (Tryz.bytes_Equal_strs _ _ (bs tx) (bs (69 :: rest)) W hcA hcB)
  have heq : ((bs tx).toList == (bs (69 :: rest)).toList) = true := by rw [bs_list, bs_list, Hfin.out]; simp
  have heR : SlR entC M0 W (.slice A4 L4.length ceW) L4 := (HoE.out.read (fun x hx h => h.elim (HesM.out x hx) fun h => own_apart HoG.out HoE.out (by decide) x hx h)).zero
  have hgR : SlR gnC M0 W (.slice Ag b.gs.length cg) b.gs := own_freeR free_gn (own_freeM (M' := M0) free_gn HoG.out) fun x hx => hx.elim
  have hval := validate_ok ⟨b.nu, b.ns, b.hz, L4, b.gs⟩ _ _ W heR hgR (fun e he => by have h9 := (Mb.msg_ok (hGd.es e he).2.2.2.2).2.2; omega)
  rw [Mb.boxF_pair (Mb.boxF_good.2 hGd)] at hval
  unfold boxV at hval
  dsimp only at hval
  have Hval := Lib.hid hval
  obtain ⟨_, rb1, _, _, _⟩ := kRW.two
  have q0 := HkW.out.cell 0; have q1 := HkW.out.cell 1; have q2 := HkW.out.cell 2; have q3 := HkW.out.cell 3; have q4 := HkW.out.cell 4
  clear own11 hcA hcB heR hgR hval kRW
  go_wp2_with fail
  refine HQ.out.mono ?_
  rintro e w12 ⟨rfl, rfl⟩
  rw [heq]
  go_wp2_with (first
    | (go_at_call 18; refine Hval.out.mono ?_; rintro e w13 ⟨rfl, hb13⟩)
    | (go_at_call 21; refine (failed_ok _ _ _).mono ?_; rintro e w14 ⟨rfl, hb14⟩))
  go_ret
  have hb15 := below2 hb13 hb14
  rw [← HL5.out]
  exact ⟨rfl, ⟨hBp, hMp, _, _, HkW.out.ext hb15, HoE.out.ext hb15, HoG.out.ext hb15, HesM.out, HgsM.out⟩, HbW.out.trans (hb15.mono (by have := HbW.out.size; omega))⟩
set_option maxRecDepth 100000 in
set_option maxHeartbeats 16000000 in
theorem play_head (M : Nat → Prop) (n0 : Nat) (w : World) (B p : Nat) (b : Mb.Box) (hd : Bool) (nu ns hz : Int) (gl : List Mb.Gn) (v : Value) (hE : Env n0 w) (hn : n0 ≤ B) (hM : ∀ x, M x → x < w.heap.size) (hP : PlAt M w B p b hd) (hv : SlR byteC (fun x => B ≤ x) w v (Mb.headB ⟨nu, ns, hz, b.es, gl⟩)) (hr : Mb.RcIn (.head nu ns hz gl)) (hGd : Mb.Good ⟨nu, ns, hz, b.es, gl⟩) :
    Calls Tryz.prog 26 #[.pointer (some ⟨p, 0, none⟩), v, .bool true] w fun e w' => e = .returned (.bool true) ∧ PlAt M w' B p ⟨nu, ns, hz, b.es, gl⟩ true ∧ Below B w w' := by
  obtain ⟨hBp, hMp, es, gs, kp, oE, oG, hesM, hgsM⟩ := hP
  have hpl := kp.lt
  have hBw : B ≤ w.heap.size := by omega
  obtain ⟨Ae, ce, rfl, _, _⟩ := oE.shape
  obtain ⟨Ag, cg, rfl, _, _⟩ := oG.shape
  have hchl := Mb.headB_len hr
  have hgl4 : gl.length ≤ 400 := hr.2.2.2.1
  obtain ⟨i1, i2, i3, _, i5⟩ := hr
  have hr : Mb.RcIn (.head nu ns hz gl) := ⟨i1, i2, i3, hgl4, i5⟩
  have hT : Mb.headB ⟨nu, ns, hz, b.es, gl⟩ = 77 :: (Mb.numb nu ++ (Mb.numb ns ++ (Mb.numb hz ++ (Mb.numb (gl.length : Int) ++ gl.flatMap fun g => Mb.numsB [g.1, g.2])))) := by
    show 77 :: (Mb.numsB [nu, ns, hz, (gl.length : Int)] ++ gl.flatMap fun g => Mb.numsB [g.1, g.2]) = _
    unfold Mb.numsB
    simp only [List.flatMap_cons, List.flatMap_nil, List.append_nil, List.append_assoc]
  obtain ⟨tx, htx⟩ : ∃ x, x = Mb.headB ⟨nu, ns, hz, b.es, gl⟩ := ⟨_, rfl⟩
  have hof := fun W (h1 : Env n0 W) (h2 : n0 ≤ W.heap.size) es gs (h3 : SlR entC M0 W es b.es) (h4 : SlR gnC M0 W gs gl) => ofBox_ok n0 W ⟨nu, ns, hz, b.es, gl⟩ es gs h1 h2 h3 h4 hr
  have hchl : (Mb.headB ⟨nu, ns, hz, b.es, gl⟩).length ≤ 19297 := Nat.le_trans hchl (by omega)
  rw [← htx] at hv hT hof hchl
  unfold boxV at hof
  dsimp only at hof
  obtain ⟨rest, hrest⟩ : ∃ x, x = Mb.numb nu ++ (Mb.numb ns ++ (Mb.numb hz ++ (Mb.numb (gl.length : Int) ++ ((gl.flatMap fun g => Mb.numsB [g.1, g.2]))))) := ⟨_, rfl⟩
  rw [← hrest] at hT
  have hrl : 0 < rest.length := by
    rw [hrest, List.length_append]
    have : 0 < (Mb.numb nu).length := by unfold Mb.numb Mb.item; rw [List.length_append, List.length_cons]; omega
    omega
  have hrl2 : rest.length ≤ 20000 := by rw [hT, List.length_cons] at hchl; omega
  rw [hT] at hv
  obtain ⟨A, cv, rfl, hcv1, hcv2⟩ := hv.form
  obtain ⟨bb, off, rfl, hc0, hbb, hc1, hrs⟩ := play_cut hv hrl
  unfold maxLen at hcv2
  obtain ⟨w1, g, hw1, hg, hsz1, k1, hb1⟩ := box1 w #[.slice (some ⟨bb, off + 1, none⟩) rest.length (cv - 1), .bool false] 120
  have hpg : p ≠ g := by omega
  have hBg : B ≤ g := by omega
  have hR1 : RdAt (fun x => B ≤ x) w1 g (Mb.numb nu ++ (Mb.numb ns ++ (Mb.numb hz ++ (Mb.numb (gl.length : Int) ++ ((gl.flatMap fun g => Mb.numsB [g.1, g.2])))))) := by
    rw [← hrest]
    exact ⟨hBg, _, _, k1, hrs.ext hb1⟩
  have hlen : ∀ a b : List UInt8, (a ++ b).length ≤ 100000000 → b.length ≤ 100000000 := fun a b h => by rw [List.length_append] at h; omega
  have hl1 : (Mb.numb nu ++ (Mb.numb ns ++ (Mb.numb hz ++ (Mb.numb (gl.length : Int) ++ ((gl.flatMap fun g => Mb.numsB [g.1, g.2])))))).length ≤ 100000000 := by rw [← hrest]; omega
  have hl2 := hlen _ _ hl1
  have hl3 := hlen _ _ hl2
  have hl4 := hlen _ _ hl3
  have hl5 := hlen _ _ hl4
  have Hl := Lib.hid (And.intro hl2 (And.intro hl3 (And.intro hl4 hl5)))
  have hng : n0 ≤ g := by omega
  have hlenT : (77 :: rest : List UInt8).length = rest.length + 1 := List.length_cons
  rw [hlenT] at hv hcv1 ⊢
  have hTl : ((rest.length + 1 : Nat) : Int) - 1 = (rest.length : Int) := by omega
  have hc0w := (hb1.cell (p := ⟨bb, off, none⟩) hbb).trans hc0
  have hn1 : ¬ (rest.length : Int) + 1 = 0 := by omega
  have hcvi : (rest.length : Int) + 1 ≤ (cv : Int) := by omega
  have HE1 := Lib.hid (hE.ext hb1 (by omega))
  have Htx := Lib.hid hT
  have oE1 := (own_sub (M' := fun x => MB M w.heap.size x ∨ (Value.slice Ag b.gs.length cg).ownBlock = some x) oE fun x hx h => h.imp (fun h => h.elim id fun h => by omega) id).ext hb1
  have oG1 := oG.ext hb1
  have kp1 := kp.ext hb1
  have hv1 := hv.ext hb1
  have hneG : ∀ x, (Value.slice Ag b.gs.length cg).ownBlock = some x → x ≠ g := fun x hx e => by have h1 := oG.lt x hx; omega
  have hneE : ∀ x, (Value.slice Ae b.es.length ce).ownBlock = some x → x ≠ g := fun x hx e => by have h1 := oE.lt x hx; omega
  have hEl : ∀ x, (Value.slice Ae b.es.length ce).ownBlock = some x → x < w.heap.size := fun x hx => oE.lt x hx
  have hGl : ∀ x, (Value.slice Ag b.gs.length cg).ownBlock = some x → x < w.heap.size := fun x hx => oG.lt x hx
  have hMg : MB M w.heap.size g := .inr (by omega)
  have hMgp : MB M w.heap.size p := .inl hMp
  have hz1 := hb1.size
  have hk1l := k1.lt
  have Hof := Lib.hid hof
  have Hv0 := Lib.hid hv
  obtain ⟨wb, hwb⟩ : ∃ W, w1.setCell ⟨p, 5, none⟩ (.bool true) = W := ⟨_, rfl⟩
  have hTb : Turned p w1 wb := by rw [← hwb]; exact (Turned.refl p w1).set 5 _
  have kpb : Blk wb p 77 #[.int .i64 b.nu, .int .i64 b.ns, .int .i64 b.hz, .slice Ae b.es.length ce, .slice Ag b.gs.length cg, .bool true] := by rw [← hwb]; simpa using kp1.set_ 5 (.bool true)
  have x5 := kp1.frozen 5; have y5 := kp1.cell 5; have xl := kp1.lt
  have hRb := hR1.turned hTb (show B ≤ p from hBp) (Ne.symm hpg)
  have oEb := oE1.turned hTb (.inl hMgp) (own_ne_blk oE1 kp1 (by decide))
  have HEb := Lib.hid (HE1.out.on (hTb.rest n0 (by omega)))
  have hvb := hv1.turned hTb (show B ≤ p from hBp)
  have hbB : Below B w wb := (hb1.mono hBw).trans (hTb.rest B hBp)
  have hzb : wb.heap.size = w1.heap.size := hTb.size
  clear hsz1 hl2 hl3 hl4 hl5 hof hT htx hrest hrs hE kp oE oG hv hc0 hchl hlenT hr hlen hR1 kp1 oE1 oG1 hv1 hTb HE1 hneG hGl hgsM
  have HN1 := Lib.hid (number_rd (fun x => B ≤ x) n0 wb g nu _ HEb.out hng i1 hRb hl1)
  clear hRb hl1
  go_enter Tryz.func26, Tryz.ntmps26
  go_wp2_with fail
  refine HN1.out.mono ?_
  rintro e w2 ⟨rfl, hR2, hT2⟩
  refine Hid.out ?_
  have hTN2 : TurnedN g wb w2 := hT2
  have HE2 := Lib.hid (HEb.out.on (hT2.rest n0 hng (by omega)))
  have HN2 := Lib.hid (number_rd (fun x => B ≤ x) n0 w2 g ns _ HE2.out hng i2 hR2 Hl.out.1)
  clear hR2 hT2 HN1
  refine Lib.hid ?_
  go_wp2_with fail
  refine HN2.out.mono ?_
  rintro e w3 ⟨rfl, hR3, hT3⟩
  refine Hid.out ?_
  have hTN3 : TurnedN g wb w3 := hTN2.trans hT3
  have HE3 := Lib.hid (HE2.out.on (hT3.rest n0 hng (by have := hTN2.size; omega)))
  have HN3 := Lib.hid (number_rd (fun x => B ≤ x) n0 w3 g hz _ HE3.out hng i3 hR3 Hl.out.2.1)
  clear hR3 hT3 HN2
  refine Lib.hid ?_
  go_wp2_with fail
  refine HN3.out.mono ?_
  rintro e w4 ⟨rfl, hR4, hT4⟩
  refine Hid.out ?_
  have hTN4 : TurnedN g wb w4 := hTN3.trans hT4
  have hE4 := HE3.out.on (hT4.rest n0 hng (by have := hTN3.size; omega))
  have kp4 := kpb.turnedN hTN4 hpg
  have oE4 := oEb.turnedN hTN4 (.inl hMg) hneE
  have hv4 := hvb.turnedN hTN4 (show B ≤ g from hBg)
  have hb4 : Below B w w4 := hbB.trans (hTN4.rest B hBg (by omega))
  obtain ⟨w5, hw5⟩ : ∃ W, (((w4.setCell ⟨p, 0, none⟩ (.int .i64 nu)).setCell ⟨p, 1, none⟩ (.int .i64 ns)).setCell ⟨p, 2, none⟩ (.int .i64 hz)).setCell ⟨p, 4, none⟩ (.slice none 0 0) = W := ⟨_, rfl⟩
  have hT5 : Turned p w4 w5 := by rw [← hw5]; exact ((((Turned.refl p w4).set 0 _).set 1 _).set 2 _).set 4 _
  have kp5 : Blk w5 p 77 #[.int .i64 nu, .int .i64 ns, .int .i64 hz, .slice Ae b.es.length ce, .slice none 0 0, .bool true] := by rw [← hw5]; simpa using (((kp4.set_ 0 (.int .i64 nu)).set_ 1 (.int .i64 ns)).set_ 2 (.int .i64 hz)).set_ 4 (.slice none 0 0)
  have m0 := kp4.cell 0; have m1 := kp4.cell 1; have m2 := kp4.cell 2; have m4 := kp4.cell 4; have z0 := kp4.frozen 0; have z1 := kp4.frozen 1; have z2 := kp4.frozen 2; have z4 := kp4.frozen 4; have zl := kp4.lt
  have oE5 : Own entC (fun x => MB M w.heap.size x ∨ (Value.slice none 0 0).ownBlock = some x) w5 B 65 (.slice Ae b.es.length ce) b.es := own_sub (oE4.turned hT5 (.inl hMgp) (own_ne_blk oE4 kp4 (by decide))) fun x _ hx => hx.elim .inl fun h => by cases h
  have hR5 := hR4.turned hT5 (show B ≤ p from hBp) (Ne.symm hpg)
  have HE5 := Lib.hid (hE4.on (hT5.rest n0 (by omega)))
  have hv5 := hv4.turned hT5 (show B ≤ p from hBp)
  have hb5 : Below B w w5 := hb4.trans (hT5.rest B hBp)
  have hz5 : w.heap.size ≤ w5.heap.size := by have h1 := hTN4.size; have h2 := hT5.size; omega
  have hg5 : g < w5.heap.size := by have h1 := hTN4.size; have h2 := hT5.size; omega
  have HN5 := Lib.hid (number_rd (fun x => B ≤ x) n0 w5 g (gl.length : Int) _ HE5.out hng (by omega) hR5 Hl.out.2.2.1)
  clear hTN2 hTN3 hTN4 HE2 HE3 hE4 hT4 HN3 oE4 oEb hv4 hvb hb4 hbB hR4 hR5 hT5 kpb
  refine Lib.hid ?_
  go_wp2_with fail
  refine HN5.out.mono ?_
  rintro e w6 ⟨rfl, hR6, hT6⟩
  refine Hid.out ?_
  have kp6 := kp5.turnedN hT6 hpg
  have oE6 := oE5.turnedN hT6 (.inl hMg) hneE
  have HE6 := Lib.hid (HE5.out.on (hT6.rest n0 hng (by omega)))
  have hv6 := hv5.turnedN hT6 (show B ≤ g from hBg)
  have hb6 : Below B w w6 := hb5.trans (hT6.rest B hBg (by omega))
  have hz6 : w.heap.size ≤ w6.heap.size := by have h1 := hT6.size; omega
  have hg6 : g < w6.heap.size := by have h1 := hT6.size; omega
  clear HN5 kp5 oE5 HE5 hv5 hb5 hT6 m0 m1 m2 m4 z0 z1 z2 z4 zl kp4 hw5 x5 y5 xl hwb hw1
  refine Lib.hid ?_
  go_wp2_with fail
  go_loopw [12] (fun i wr => ∃ (k : Nat) (A : Option Addr) (c : Nat) (L : List Mb.Gn), k ≤ gl.length ∧ i = .int .i64 ((gl.length - k : Nat) : Int) ∧ Hid (L = gl.take k) ∧ Hid (RdAt (fun x => B ≤ x) wr g ((gl.drop k).flatMap fun g => Mb.numsB [g.1, g.2])) ∧ Blk wr p 77 #[.int .i64 nu, .int .i64 ns, .int .i64 hz, .slice Ae b.es.length ce, .slice A L.length c, .bool true] ∧ Own gnC M wr w.heap.size 82 (.slice A L.length c) L ∧ Hid (Own entC (fun x => MB M w.heap.size x ∨ (Value.slice A L.length c).ownBlock = some x) wr B 65 (.slice Ae b.es.length ce) b.es) ∧ Hid (Env n0 wr) ∧ Hid (Below B w wr) ∧ w6.heap.size ≤ wr.heap.size) (fun i _ => (intOf i).toNat)
  case atStart => exact ⟨0, none, 0, [], Nat.zero_le _, rfl, Lib.hid rfl, Lib.hid (by simpa using hR6), kp6, Own.nil _ _ _ _ _, Lib.hid oE6, HE6, Lib.hid hb6, Nat.le_refl _⟩
  case round =>
    obtain ⟨k, A9, c9, L, hk, rfl, hL, hRk, kpr, oGr, hoE, hEk, hBk, hzk⟩ := hrel
    have hvr := hv6
    clear kp6 oE6 hR6 HE6
    obtain ⟨_, AR, cR, kbR, _⟩ := hRk.out
    obtain ⟨_, rb1, _, _, _⟩ := kbR.two
    by_cases hlt : k < gl.length
    · have hpos : (0 : Int) < ((gl.length - k : Nat) : Int) := by omega
      have hdrop : ((gl.drop k).flatMap fun g => Mb.numsB [g.1, g.2]) = Mb.numb gl[k].1 ++ (Mb.numb gl[k].2 ++ ((gl.drop (k + 1)).flatMap fun g => Mb.numsB [g.1, g.2])) := by
        rw [List.drop_eq_getElem_cons hlt, List.flatMap_cons]
        show (Mb.numb gl[k].1 ++ (Mb.numb gl[k].2 ++ [])) ++ _ = _
        simp only [List.append_assoc, List.append_nil]
      have hlk : (Mb.numb gl[k].1 ++ (Mb.numb gl[k].2 ++ ((gl.drop (k + 1)).flatMap fun g => Mb.numsB [g.1, g.2]))).length ≤ 100000000 := by
        rw [← hdrop]
        have h9 := Hl.out.2.2.2
        conv at h9 => lhs; rw [← List.take_append_drop k gl, List.flatMap_append]
        rw [List.length_append] at h9
        omega
      have hRkk := hRk.out
      rw [hdrop] at hRkk
      have hij := i5 _ (List.getElem_mem hlt)
      have hcat : gl.take (k + 1) = gl.take k ++ [(gl[k].1, gl[k].2)] := List.take_succ_eq_append_getElem hlt
      obtain ⟨n1, hn1x⟩ : ∃ x, x = gl[k].1 := ⟨_, rfl⟩
      obtain ⟨n2, hn2x⟩ : ∃ x, x = gl[k].2 := ⟨_, rfl⟩
      rw [← hn1x, ← hn2x] at hRkk hlk hij hcat
      have Hcat := Lib.hid hcat
      have Hlk := Lib.hid hlk
      have HRk := Lib.hid hRkk
      have hLlen : L.length = k := by rw [hL.out, List.length_take]; omega
      have HLl := Lib.hid hLlen
      have hownx : ∀ x, (Value.slice A9 L.length c9).ownBlock = some x → x ≠ g := fun x hx e => by
        subst e
        exact own_ne_blk oGr kbR (by decide) x hx rfl
      have hownp : ∀ x, (Value.slice A9 L.length c9).ownBlock = some x → x ≠ p := own_ne_blk oGr kpr (by decide)
      clear hn1x hn2x hcat hdrop hlk hRkk hLlen kbR
      have HS := Lib.hid (show ∀ W, Below wr.heap.size wr W → W.cell? ⟨p, 4, none⟩ = some (.slice A9 L.length c9) from fun W hW => (kpr.ext hW).cell 4)
      go_wp2_with fail
      refine wp_region_D (fun W => W.cell? ⟨p, 4, none⟩ = some (.slice A9 L.length c9)) (fun j => j == 14 || j == 15 || j == 16 || j == 17 || j == 18) (by kernel_rfl) ?_
      change anyD _ _ _ _ _ _ _ _ _ (wr.drewN 1)
      have hbV := below_drewN' wr.heap.size wr 1
      generalize wr.drewN 1 = V0 at hbV ⊢
      have hS := HS.out V0 hbV
      (refine anyD_light (i := 0) (v := ?_) rfl (by kernel_rfl) (by kernel_rfl) (by kernel_rfl) (by kernel_rfl) (by kernel_rfl) (fun _ _ _ h => h) (.inl ⟨by kernel_rfl, fun W9 hW9 => ?_⟩) hS ?_; rotate_left; · (have hw0 := hW9; go_simp; rfl))
      (refine anyD_light (i := 1) (v := ?_) rfl (by kernel_rfl) (by kernel_rfl) (by kernel_rfl) (by kernel_rfl) (by kernel_rfl) (fun _ _ _ h => h) (.inl ⟨by kernel_rfl, fun W9 hW9 => ?_⟩) hS ?_; rotate_left; · (have hw0 := hW9; go_simp; rfl))
      (refine anyD_light (i := 2) (v := ?_) rfl (by kernel_rfl) (by kernel_rfl) (by kernel_rfl) (by kernel_rfl) (by kernel_rfl) (fun _ _ _ h => h) (.inl ⟨by kernel_rfl, fun W9 hW9 => ?_⟩) hS ?_; rotate_left; · (have hw0 := hW9; go_simp; rfl))
      (refine anyD_light (i := 3) (v := ?_) rfl (by kernel_rfl) (by kernel_rfl) (by kernel_rfl) (by kernel_rfl) (by kernel_rfl) (fun _ _ _ h => h) (.inl ⟨by kernel_rfl, fun W9 hW9 => ?_⟩) hS ?_; rotate_left; · (have hw0 := hW9; go_simp; rfl))
      (refine anyD_light (i := 4) (v := ?_) rfl (by kernel_rfl) (by kernel_rfl) (by kernel_rfl) (by kernel_rfl) (by kernel_rfl) (fun _ _ _ h => h) (.inl ⟨by kernel_rfl, fun W9 hW9 => ?_⟩) hS ?_; rotate_left; · (have hw0 := hW9; go_simp; rfl))
      (refine anyD_light (i := 5) (v := ?_) rfl (by kernel_rfl) (by kernel_rfl) (by kernel_rfl) (by kernel_rfl) (by kernel_rfl) (fun _ _ _ h => h) (.inl ⟨by kernel_rfl, fun W9 hW9 => ?_⟩) hS ?_; rotate_left; · (have hw0 := hW9; go_simp; rfl))
      go_simp
      (refine anyD_light (i := 6) (v := ?_) rfl (by kernel_rfl) (by kernel_rfl) (by kernel_rfl) (by kernel_rfl) (by kernel_rfl) (fun _ _ _ h => h) (.inl ⟨by kernel_rfl, fun W9 hW9 => ?_⟩) hS ?_; rotate_left; · (have hw0 := hW9; go_simp; rfl))
      (refine anyD_light (i := 7) (v := ?_) rfl (by kernel_rfl) (by kernel_rfl) (by kernel_rfl) (by kernel_rfl) (by kernel_rfl) (fun _ _ _ h => h) (.inl ⟨by kernel_rfl, fun W9 hW9 => ?_⟩) hS ?_; rotate_left; · (have hw0 := hW9; go_simp; rfl))
      (refine anyD_light (i := 9) (v := ?_) rfl (by kernel_rfl) (by kernel_rfl) (by kernel_rfl) (by kernel_rfl) (by kernel_rfl) (fun _ _ _ h => h) (.inl ⟨by kernel_rfl, fun W9 hW9 => ?_⟩) hS ?_; rotate_left; · (have hw0 := hW9; go_simp; rfl))
      go_simp
      refine anyD_one (i := 8) (by kernel_rfl) rfl rfl (fun K hK => ?_)
      have HK := Lib.hid hK
      clear hK
      clear hS
      unfold Oper.wp
      go_simp
      refine (number_rd (fun x => B ≤ x) n0 V0 g n1 _ (hEk.out.ext hbV (by omega)) hng hij.1 (HRk.out.ext hbV) Hlk.out).mono ?_
      rintro e V1 ⟨rfl, hR1, hT1⟩
      have kp1 := (kpr.ext hbV).turnedN hT1 hpg
      have oG1 := (oGr.ext hbV).growT free_gn hT1 hownx
      have oE1 := (hoE.out.ext hbV).turnedN hT1 (.inl hMg) hneE
      have hz1 : wr.heap.size ≤ V1.heap.size := Nat.le_trans hbV.size hT1.size
      have hE1 := (hEk.out.ext hbV (by omega)).on (hT1.rest n0 hng (by have := hbV.size; omega))
      have hB1 : Below B wr V1 := (hbV.mono (by omega)).trans (hT1.rest B hBg (by have := hbV.size; omega))
      have hS := kp1.cell 4
      refine HK.out _ _ (fun _ => hS) ?_
      clear HK
      go_simp
      refine anyD_one (i := 10) (by kernel_rfl) rfl rfl (fun K hK => ?_)
      have HK := Lib.hid hK
      clear hK
      clear hS
      unfold Oper.wp
      go_simp
      refine (number_rd (fun x => B ≤ x) n0 V1 g n2 _ hE1 hng hij.2 hR1 (by have := Hlk.out; rw [List.length_append] at this; omega)).mono ?_
      rintro e V2 ⟨rfl, hR2, hT2⟩
      have kp2 := kp1.turnedN hT2 hpg
      have oG2 := oG1.growT free_gn hT2 hownx
      have oE2 := oE1.turnedN hT2 (.inl hMg) hneE
      have hz2 : wr.heap.size ≤ V2.heap.size := Nat.le_trans hz1 hT2.size
      have hE2 := hE1.on (hT2.rest n0 hng (by omega))
      have hB2 : Below B wr V2 := hB1.trans (hT2.rest B hBg (by omega))
      have hS := kp2.cell 4
      refine HK.out _ _ (fun _ => hS) ?_
      clear HK
      (refine anyD_light (i := 11) (v := ?_) rfl (by kernel_rfl) (by kernel_rfl) (by kernel_rfl) (by kernel_rfl) (by kernel_rfl) (fun _ _ _ h => h) (.inl ⟨by kernel_rfl, fun W9 hW9 => ?_⟩) hS ?_; rotate_left; · (have hw0 := hW9; go_simp; rfl))
      go_simp
      refine anyD_one (i := 12) (by kernel_rfl) rfl rfl (fun K hK => ?_)
      have HK := Lib.hid hK
      clear hK
      clear hS
      unfold Oper.wp
      go_simp
      have xr : SlR gnC (fun x => M x ∨ (Value.slice A9 L.length c9).ownBlock = some x) (V2.alloc (.cells #[.int .i64 n1, .int .i64 n2] 82)) (.slice (some ⟨V2.heap.size, 0, none⟩) 1 1) [(n1, n2)] := SlR.built (C := gnC) (cs := [.int .i64 n1, .int .i64 n2]) 82 ⟨[.int .i64 n1], [.int .i64 n2], rfl, ⟨rfl, hij.1.big⟩, ⟨rfl, hij.2.big⟩⟩ fun x hx => hx.elim (fun h => by have := hM x h; omega) fun h => oG2.lt x h
      have hal : Below V2.heap.size V2 (V2.alloc (.cells #[.int .i64 n1, .int .i64 n2] 82)) := (Below.refl _ _).alloc (Nat.le_refl _) _
      generalize hV3 : V2.alloc (.cells #[.int .i64 n1, .int .i64 n2] 82) = V3 at xr hal ⊢
      have kp3 := kp2.ext hal
      have oG3 := oG2.ext hal
      have oE3 := oE2.ext hal
      have hz3 : wr.heap.size ≤ V3.heap.size := Nat.le_trans hz2 hal.size
      have hR3 := hR2.ext hal
      have hE3 := hE2.ext hal (by omega)
      have hB3 : Below B wr V3 := hB2.trans (hal.mono (by omega))
      have hS := kp3.cell 4
      refine HK.out _ _ (fun _ => hS) ?_
      clear HK
      go_simp
      refine anyD_one (i := 13) (by kernel_rfl) rfl rfl (fun K hK => ?_)
      have HK := Lib.hid hK
      clear hK
      clear hS
      refine wp_append_Own gnC (M := M) (v := .slice A9 L.length c9) (l := L) (l' := [(n1, n2)]) TGns (.tmp 123) (.tmp 129) rfl rfl oG3 rfl xr (by have := HLl.out; simp only [maxLen, List.length_cons, List.length_nil]; omega) (by have := HLl.out; simp only [List.length_cons, List.length_nil]; omega) (by omega) ?_
      intro A4 c4 L4 V4 hL4 oG4 hbl4 hgr4 hor4
      have kp4 := kp3.grown hgr4 (fun e => hownp p e.symm rfl)
      have hB4 : Below B wr V4 := hB3.trans (hbl4.mono hBw)
      have hz4 : wr.heap.size ≤ V4.heap.size := Nat.le_trans hz3 hgr4.size
      have hR4 := rd_grown hR3 hgr4 (fun x hx => by have h1 := oG3.base x hx; show B ≤ x; omega) (fun e => hownx g e.symm rfl)
      have hE4 := hE3.on (hbl4.mono (by omega))
      have oE4 := own_grownM oE3 hgr4 (fun x hx e => own_apart oG3 oE3 (by decide) x hx e) hor4
      have hS := kp4.cell 4
      refine HK.out _ _ (fun _ => hS) ?_
      clear HK
      (refine anyD_light (i := 14) (v := ?_) rfl (by kernel_rfl) (by kernel_rfl) (by kernel_rfl) (by kernel_rfl) (by kernel_rfl) (fun _ _ _ h => h) (.inl ⟨by kernel_rfl, fun W9 hW9 => ?_⟩) hS ?_; rotate_left; · (have hw0 := hW9; go_simp; rfl))
      go_simp
      refine anyD_one (i := 15) (by kernel_rfl) rfl rfl (fun K hK => ?_)
      have HK := Lib.hid hK
      clear hK
      unfold Oper.wp
      go_simp
      refine HK.out _ _ (fun h => by cases h) ?_
      clear HK
      go_simp
      refine anyD_one (i := 16) (by kernel_rfl) rfl rfl (fun K hK => ?_)
      have HK := Lib.hid hK
      clear hK
      unfold Oper.wp
      go_simp
      refine HK.out _ _ (fun h => by cases h) ?_
      clear HK
      go_simp
      refine anyD_one (i := 17) (by kernel_rfl) rfl rfl (fun K hK => ?_)
      have HK := Lib.hid hK
      clear hK
      unfold Oper.wp
      go_simp
      refine HK.out _ _ (fun h => by cases h) ?_
      clear HK
      go_simp
      refine anyD_one (i := 18) (by kernel_rfl) rfl rfl (fun K hK => ?_)
      have HK := Lib.hid hK
      clear hK
      have x0 := kp4.frozen 4; have xl := kp4.lt; have y0 := kp4.cell 4
      unfold Oper.wp
      go_simp
      refine HK.out _ _ (fun h => by cases h) ?_
      clear HK
      go_simp
      refine anyD_done (by kernel_rfl) ?_ _
      have hT5 : Turned p V4 (V4.setCell ⟨p, 4, none⟩ (.slice A4 L4.length c4)) := (Turned.refl p V4).set 4 _
      have kp5 : Blk (V4.setCell ⟨p, 4, none⟩ (.slice A4 L4.length c4)) p 77 #[.int .i64 nu, .int .i64 ns, .int .i64 hz, .slice Ae b.es.length ce, .slice A4 L4.length c4, .bool true] := by simpa using kp4.set_ 4 (.slice A4 L4.length c4)
      have oG5 := oG4.turnF free_gn hT5 (own_ne_blk oG4 kp4 (by decide))
      have oE5 := oE4.turned hT5 (.inl hMgp) (own_ne_blk oE4 kp4 (by decide))
      have hR5 := hR4.turned hT5 (show B ≤ p from hBp) (Ne.symm hpg)
      have hE5 := hE4.on (hT5.rest n0 (by omega))
      have hB5 : Below B wr (V4.setCell ⟨p, 4, none⟩ (.slice A4 L4.length c4)) := hB4.trans (hT5.rest B hBp)
      have hz5 : w6.heap.size ≤ (V4.setCell ⟨p, 4, none⟩ (.slice A4 L4.length c4)).heap.size := by have h1 := hT5.size; omega
      generalize V4.setCell ⟨p, 4, none⟩ (.slice A4 L4.length c4) = V5 at kp5 oG5 oE5 hR5 hE5 hB5 hz5 ⊢
      have HL4 := Lib.hid (show L4 = gl.take (k + 1) by rw [hL4.out, hL.out, Hcat.out])
      have HR5 := Lib.hid hR5; have HE5 := Lib.hid hE5; have HoE5 := Lib.hid oE5; have HB5 := Lib.hid (hBk.out.trans hB5)
      have hdec : (((gl.length - k : Nat) : Int) - 1) = ((gl.length - (k + 1) : Nat) : Int) := by omega
      clear hT5 hL4 hR5 hE5 oE5 hB5 hR4 hE4 oE4 hB4 kp4 oG4 kp3 oG3 oE3 xr hR3 hE3 hB3 hbl4 hgr4 hor4 HS hS
      go_wp2_with fail
      go_roundw
      case rel => exact ⟨k + 1, A4, c4, L4, by omega, by first | rfl | (rw [← hdec]) | (simp only [← hdec]), HL4, HR5, kp5, oG5, HoE5, HE5, HB5, hz5⟩
      case measure => simp [intOf]; omega
    · have hk2 : k = gl.length := by omega
      subst hk2
      have hpos : ¬ (0 : Int) < ((gl.length - gl.length : Nat) : Int) := by omega
      have hLf : L = gl := by rw [hL.out, List.take_of_length_le (Nat.le_refl _)]
      subst hLf
      have hesx : ∀ x, (Value.slice Ae b.es.length ce).ownBlock = some x → ¬ (MB M w.heap.size x ∨ (Value.slice A9 L.length c9).ownBlock = some x) := fun x hx h => by
        rcases h with (h | h) | h
        · exact hesM x hx h
        · have h9 := hEl x hx; omega
        · exact own_apart oGr hoE.out (by decide) x hx h
      have heR := (hoE.out.read hesx).zero
      have hgR : SlR gnC M0 wr (.slice A9 L.length c9) L := own_freeR free_gn (own_freeM (M' := M0) free_gn oGr) fun x hx => hx.elim
      have HO := Lib.hid (Hof.out wr hEk.out (by omega) _ _ heR hgR)
      have hval := fun W (hb : Below wr.heap.size wr W) => validate_ok ⟨nu, ns, hz, b.es, L⟩ _ _ W (heR.ext hb) (hgR.ext hb) (fun e he => by have h9 := (Mb.msg_ok (hGd.es e he).2.2.2.2).2.2; omega)
      rw [Mb.boxF_pair (Mb.boxF_good.2 hGd)] at hval
      unfold boxV at hval
      dsimp only at hval
      have Hval := Lib.hid hval
      have q0 := kpr.cell 0; have q1 := kpr.cell 1; have q2 := kpr.cell 2; have q3 := kpr.cell 3; have q4 := kpr.cell 4
      have HvR := Lib.hid (Hv0.out.belowB hBk.out)
      have Hkp := Lib.hid kpr; have HoG := Lib.hid oGr
      clear heR hgR hval hL hRk hesx hv6 hvr
      go_wp2_with fail
      refine HO.out.mono ?_
      rintro e W ⟨v11, rfl, own11, hb11⟩
      obtain ⟨A11, c11, rfl, _, _⟩ := own11.shape
      have hcA := run_convert_SlR (P := Tryz.prog) Tryz.underlying29 Tryz.underlying5 Tryz.underlying9 (own_bytes own11)
      have hcB := run_convert_SlR (P := Tryz.prog) Tryz.underlying29 Tryz.underlying5 Tryz.underlying9 (HvR.out.belowB (hb11.mono (by omega)))
      have HQ := Lib.hid (Tryz.bytes_Equal_strs _ _ (bs tx) (bs (77 :: rest)) W hcA hcB)
      have heq : ((bs tx).toList == (bs (77 :: rest)).toList) = true := by rw [bs_list, bs_list, Htx.out]; simp
      have kW := Hkp.out.ext hb11
      have HkW := Lib.hid kW
      have r0 := kW.cell 0; have r1 := kW.cell 1; have r2 := kW.cell 2; have r3 := kW.cell 3; have r4 := kW.cell 4
      obtain ⟨_, rb2, _, _, _⟩ := (kbR.ext hb11).two
      have HV := Lib.hid (Hval.out W hb11)
      have HbW := Lib.hid (hBk.out.trans (hb11.mono (by omega)))
      have HoEW := Lib.hid (hoE.out.ext hb11); have HoGW := Lib.hid (HoG.out.ext hb11)
      clear own11 hcA hcB kW q0 q1 q2 q3 q4 hb11 kpr oGr kbR rb1
      go_wp2_with fail
      refine HQ.out.mono ?_
      rintro e w12 ⟨rfl, rfl⟩
      rw [heq]
      go_wp2_with (first
        | (go_at_call 18; refine HV.out.mono ?_; rintro e w13 ⟨rfl, hb13⟩)
        | (go_at_call 21; refine (failed_ok _ _ _).mono ?_; rintro e w14 ⟨rfl, hb14⟩))
      go_ret
      have hb15 := below2 hb13 hb14
      exact ⟨rfl, ⟨hBp, hMp, _, _, HkW.out.ext hb15, own_sub (HoEW.out.ext hb15) (fun x _ hx => hx.imp .inl id), own_lower (HoGW.out.ext hb15) hBw, hesM, fun x hx h => by have h1 := HoGW.out.base x hx; have h2 := hM x h; omega⟩, HbW.out.trans (hb15.mono (by have := HbW.out.size; omega))⟩
end Go.Proofs.YtjamjkjmlckgeaaGreatDoor

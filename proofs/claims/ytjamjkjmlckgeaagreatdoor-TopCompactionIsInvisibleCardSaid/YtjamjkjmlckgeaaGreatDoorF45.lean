/-
  The player: what it does at the record of a change.
-/
import Derived.Test.YtjamjkjmlckgeaaGreatDoorF44
import Derived.Deep.CutRange
import Derived.Deep.CutBlock
namespace Go.Proofs.YtjamjkjmlckgeaaGreatDoor
open Go.RowKit
set_option linter.unusedVariables false

/-- the player and its rows, all made from B on; what the entries lead to lies outside M -/
def PlAt (M : Nat → Prop) (w : World) (B p : Nat) (b : Mb.Box) (hd : Bool) : Prop := B ≤ p ∧ M p ∧ ∃ es gs, Blk w p 77 #[.int .i64 b.nu, .int .i64 b.ns, .int .i64 b.hz, es, gs, .bool hd] ∧ Own entC (fun x => M x ∨ gs.ownBlock = some x) w B 65 es b.es ∧ Own gnC M w B 82 gs b.gs ∧ (∀ x, es.ownBlock = some x → ¬ M x) ∧ (∀ x, gs.ownBlock = some x → ¬ M x)
theorem PlAt.lt {M : Nat → Prop} {w : World} {B p : Nat} {b : Mb.Box} {hd : Bool} (h : PlAt M w B p b hd) : p < w.heap.size := by obtain ⟨_, _, _, _, h, _⟩ := h; exact h.lt
/-- what stands behind a call of apply -/
structure ApAt (M : Nat → Prop) (wo : World) (rb : Mb.Box) (g10 g11 : Nat) (es gs : Value) (W : World) : Prop where
  k10 : Blk W g10 26 #[.int .i64 rb.nu, .int .i64 rb.ns, .int .i64 rb.hz, es, gs]
  k11 : Blk W g11 31 #[.int .i64 0, .int .i64 0]
  oE : Own entC (fun x => M x ∨ gs.ownBlock = some x) W wo.heap.size 65 es rb.es
  oG : Own gnC M W wo.heap.size 82 gs rb.gs
  bel : Below wo.heap.size wo W
  h10 : wo.heap.size ≤ g10
  h11 : wo.heap.size ≤ g11
theorem ApAt.make {M : Nat → Prop} {wo c : World} {rb : Mb.Box} {g10 g11 n1 n2 : Nat} {es gs x0 x1 x2 x3 x4 y0 y1 : Value} (hbc : Below wo.heap.size wo c) (k10 : Blk c g10 26 #[x0, x1, x2, x3, x4]) (k11 : Blk c g11 31 #[y0, y1]) (hne : g10 ≠ g11) (h10 : wo.heap.size ≤ g10) (h11 : wo.heap.size ≤ g11) (hn : wo.heap.size ≤ n1) (o10 : g10 < n1 ∨ n2 ≤ g10) (o11 : g11 < n1 ∨ n2 ≤ g11)
    (oE : Own entC (fun x => (M x ∨ (wo.heap.size ≤ x ∧ x < n1) ∨ n2 ≤ x) ∨ gs.ownBlock = some x) c n1 65 es rb.es) (oG : Own gnC M c n1 82 gs rb.gs) (hE : ∀ x, es.ownBlock = some x → n1 ≤ x ∧ x < n2) (hG : ∀ x, gs.ownBlock = some x → n1 ≤ x ∧ x < n2) {W : World} (hW : (((put5 c g10 (.int .i64 rb.nu) (.int .i64 rb.ns) (.int .i64 rb.hz) es gs).setCell ⟨g11, 0, none⟩ (.int .i64 0)).setCell ⟨g11, 1, none⟩ (.int .i64 0)) = W) : ApAt M wo rb g10 g11 es gs W := by
  subst hW
  have hT1 := put5_turned c g10 (.int .i64 rb.nu) (.int .i64 rb.ns) (.int .i64 rb.hz) es gs
  have hT2 : Turned g11 (put5 c g10 (.int .i64 rb.nu) (.int .i64 rb.ns) (.int .i64 rb.hz) es gs) (((put5 c g10 (.int .i64 rb.nu) (.int .i64 rb.ns) (.int .i64 rb.hz) es gs).setCell ⟨g11, 0, none⟩ (.int .i64 0)).setCell ⟨g11, 1, none⟩ (.int .i64 0)) := ((Turned.refl g11 _).set 0 _).set 1 _
  have e10 : ∀ x, es.ownBlock = some x → x ≠ g10 := fun x hx e => by have := hE x hx; omega
  have e11 : ∀ x, es.ownBlock = some x → x ≠ g11 := fun x hx e => by have := hE x hx; omega
  have f10 : ∀ x, gs.ownBlock = some x → x ≠ g10 := fun x hx e => by have := hG x hx; omega
  have f11 : ∀ x, gs.ownBlock = some x → x ≠ g11 := fun x hx e => by have := hG x hx; omega
  have m10 : (M g10 ∨ (wo.heap.size ≤ g10 ∧ g10 < n1) ∨ n2 ≤ g10) := o10.elim (fun h => .inr (.inl ⟨h10, h⟩)) fun h => .inr (.inr h)
  have m11 : (M g11 ∨ (wo.heap.size ≤ g11 ∧ g11 < n1) ∨ n2 ≤ g11) := o11.elim (fun h => .inr (.inl ⟨h11, h⟩)) fun h => .inr (.inr h)
  refine ⟨(k10.of5 _ _ _ _ _).turned hT2 hne, by simpa using ((k11.turned hT1 hne.symm).set_ 0 (.int .i64 0)).set_ 1 (.int .i64 0), ?_, ?_, (hbc.trans (hT1.rest _ h10)).trans (hT2.rest _ h11), h10, h11⟩
  · exact own_lower (own_sub ((oE.turned hT1 (.inl m10) e10).turned hT2 (.inl m11) e11) fun x _ hx => hx.imp .inl id) hn
  · exact own_lower ((oG.turnF free_gn hT1 f10).turnF free_gn hT2 f11) hn
theorem play_cut {B : Nat} {w : World} {A : Option Addr} {c : Nat} {k : UInt8} {r : List UInt8} (h : SlR byteC (fun x => B ≤ x) w (.slice A (k :: r).length c) (k :: r)) (hr : 0 < r.length) : ∃ bb off, A = some ⟨bb, off, none⟩ ∧ w.cell? ⟨bb, off, none⟩ = some (.int .u8 (k.toNat : Int)) ∧ bb < w.heap.size ∧ 1 < c ∧ SlR byteC (fun x => B ≤ x) w (.slice (some ⟨bb, off + 1, none⟩) r.length (c - 1)) r := by
  obtain ⟨bb, off, rfl, _, hb, hc⟩ := h.byteAt (k := 0) (by simp)
  obtain ⟨A', c', he, h1, h2⟩ := h.form
  injection he with _ _ h3
  subst h3
  rw [List.length_cons] at h1
  have h4 := h.cutB (lo := 1) (hi := (k :: r).length) (by simp) (Nat.le_refl _) (by omega)
  rw [List.take_length] at h4
  exact ⟨bb, off, rfl, by simpa using hc, hb, by omega, by simpa using h4⟩

theorem pl_ext {M : Nat → Prop} {w w' : World} {B p : Nat} {b : Mb.Box} {hd : Bool} (h : PlAt M w B p b hd) (hb : Below w.heap.size w w') : PlAt M w' B p b hd := by
  obtain ⟨h1, h2, es, gs, h3, h4, h5, h6, h7⟩ := h
  exact ⟨h1, h2, es, gs, h3.ext hb, h4.ext hb, h5.ext hb, h6, h7⟩
theorem pl_read {M N M' : Nat → Prop} {c : World} {B n : Nat} {es gs : Value} {l : List Mb.Ent} {lg : List Mb.Gn} {e e' : TypeId} (h : Own entC (fun x => MB M n x ∨ gs.ownBlock = some x) c B e es l) (hes : ∀ x, es.ownBlock = some x → ¬ M x) (hl : ∀ x, es.ownBlock = some x → x < n) (hN : ∀ x, N x → MB M n x) (hG : Own gnC M' c B e' gs lg) : SlR entC N c es l := by
  have h1 : Own entC (MB M n) c B e es l := own_sub h fun x _ hx => .inl hx
  exact (h1.read fun x hx hm => hm.elim (hes x hx) fun h2 => by have := hl x hx; omega).sub fun x _ hx => hN x hx
theorem pl_readG {M N : Nat → Prop} {c : World} {B n : Nat} {gs : Value} {lg : List Mb.Gn} {e' : TypeId} (hG : Own gnC M c B e' gs lg) (hgs : ∀ x, gs.ownBlock = some x → ¬ M x) (hl : ∀ x, gs.ownBlock = some x → x < n) (hN : ∀ x, N x → MB M n x) : SlR gnC N c gs lg :=
  (own_freeM (M' := N) free_gn hG).read fun x hx hm => (hN x hm).elim (hgs x hx) fun h2 => by have := hl x hx; omega
theorem own_bytes {w : World} {B : Nat} {e : TypeId} {A : Option Addr} {n c : Nat} {l : List UInt8} (h : Own byteC M0 w B e (.slice A n c) l) : SlR byteC M0 w (.slice A n c) l := h.read0
set_option maxRecDepth 100000 in
set_option maxHeartbeats 16000000 in
theorem play_chg (M : Nat → Prop) (n0 : Nat) (w : World) (B p : Nat) (b : Mb.Box) (hd : Bool) (c : Mb.Chg) (v : Value) (first : Bool) (hE : Env n0 w) (hn : n0 ≤ B) (hM : ∀ x, M x → x < w.heap.size) (hP : PlAt M w B p b hd) (hv : SlR byteC (fun x => B ≤ x) w v (Mb.chgB c)) (hr : Mb.RcIn (.chg c)) (hG : Mb.Good b) (hgl : b.gs.length < 400) (h0 : (Mb.applF b c).2.1 = 0) :
    Calls Tryz.prog 26 #[.pointer (some ⟨p, 0, none⟩), v, .bool first] w fun e w' => e = .returned (.bool true) ∧ PlAt M w' B p (Mb.applF b c).1 false ∧ Below B w w' := by
  have hpl := hP.lt
  obtain ⟨hBp, hMp, es, gs, kp, oE, oG, hesM, hgsM⟩ := hP
  have hBw : B ≤ w.heap.size := by omega
  obtain ⟨Ae, ce, rfl, _, _⟩ := oE.shape
  obtain ⟨Ag, cg, rfl, _, _⟩ := oG.shape
  have hchl := Mb.chgB_len hr
  have happ : Mb.applF b c = ((Mb.applF b c).1, 0, 0) := by
    have h1 : (Mb.chgF c).1 = 0 := Classical.byContradiction fun h => by
      unfold Mb.applF at h0
      rw [if_pos h] at h0
      exact h h0
    unfold Mb.applF at h0 ⊢
    rw [if_neg (fun h => h h1)] at h0 ⊢
    split at h0
    · cases h0
    rename_i h2
    rw [if_neg h2]
    split at h0
    · cases h0
    rename_i h3
    rw [if_neg h3]
    split at h0
    · cases h0
    rename_i h4
    rw [if_neg h4]
  obtain ⟨kd, ud, st, cl, tm, fl, bdl⟩ := c
  obtain ⟨i1, i2, i3, i4, i5, hmi⟩ := hr
  have hr : Mb.RcIn (.chg (kd, ud, st, cl, tm, fl, bdl)) := ⟨i1, i2, i3, i4, i5, hmi⟩
  dsimp only at i1 i2 i3 i4 i5 hmi
  have hT : Mb.chgB (kd, ud, st, cl, tm, fl, bdl) = 67 :: (Mb.numb kd ++ (Mb.numb ud ++ (Mb.numb st ++ (Mb.numb cl ++ (Mb.numb tm ++ (Mb.msgB (fl, bdl) ++ [])))))) := by
    show 67 :: (Mb.numsB [kd, ud, st, cl, tm] ++ Mb.msgB (fl, bdl)) = _
    unfold Mb.numsB
    simp only [List.flatMap_cons, List.flatMap_nil, List.append_nil, List.append_assoc]
  have hmi1 : fl.length ≤ 60 := hmi.1
  have hmi2 : Mb.sizeF fl + 2 + bdl.length ≤ 12000 := hmi.2
  obtain ⟨rest, hrest⟩ : ∃ x, x = Mb.numb kd ++ (Mb.numb ud ++ (Mb.numb st ++ (Mb.numb cl ++ (Mb.numb tm ++ (Mb.msgB (fl, bdl) ++ []))))) := ⟨_, rfl⟩
  rw [← hrest] at hT
  have hrl : 0 < rest.length := by
    rw [hrest, List.length_append]
    have : 0 < (Mb.numb kd).length := by unfold Mb.numb Mb.item; rw [List.length_append, List.length_cons]; omega
    omega
  have hrl2 : rest.length ≤ 20000 := by rw [hT, List.length_cons] at hchl; omega
  obtain ⟨rb, hrb⟩ : ∃ x, x = (Mb.applF b (kd, ud, st, cl, tm, fl, bdl)).1 := ⟨_, rfl⟩
  rw [← hrb] at happ ⊢
  obtain ⟨tx, htx⟩ : ∃ x, x = Mb.chgB (kd, ud, st, cl, tm, fl, bdl) := ⟨_, rfl⟩
  rw [← htx] at hv hT
  rw [hT] at hv
  obtain ⟨A, cv, rfl, hcv1, hcv2⟩ := hv.form
  obtain ⟨bb, off, rfl, hc0, hbb, hc1, hrs⟩ := play_cut hv hrl
  unfold maxLen at hcv2
  have hof := fun W (h1 : Env n0 W) (h2 : n0 ≤ W.heap.size) f bd (h3 : SlR fldC M0 W f fl) (h4 : SlR byteC M0 W bd bdl) => ofChg_ok n0 W (kd, ud, st, cl, tm, fl, bdl) f bd h1 h2 h3 h4 hr
  rw [← htx] at hof
  have hap := fun W (Mx : Nat → Prop) f bd (h1 : ∀ x, Mx x → x < W.heap.size) es gs (h2 : SlR entC Mx W es b.es) (h3 : SlR gnC Mx W gs b.gs) (h4 : SlR fldC M0 W f fl) (h5 : SlR byteC M0 W bd bdl) => apply_ok Mx b (kd, ud, st, cl, tm, fl, bdl) es gs f bd W h1 h2 h3 h4 h5 (show fl.length ≤ 4398046511104 by omega) (show bdl.length ≤ 140737488355328 by omega) hG (fun _ => hgl)
  rw [happ] at hap
  dsimp only at hap
  unfold boxV chgV at hap
  unfold chgV at hof
  dsimp only at hap hof
  obtain ⟨w1, g, hw1, hg, hsz1, k1, hb1⟩ := box1 w #[.slice (some ⟨bb, off + 1, none⟩) rest.length (cv - 1), .bool false] 120
  have hpg : p ≠ g := by omega
  have hBg : B ≤ g := by omega
  have hR1 : RdAt (fun x => B ≤ x) w1 g (Mb.numb kd ++ (Mb.numb ud ++ (Mb.numb st ++ (Mb.numb cl ++ (Mb.numb tm ++ (Mb.msgB (fl, bdl) ++ [])))))) := by
    rw [← hrest]
    exact ⟨hBg, _, _, k1, hrs.ext hb1⟩
  have hlen : ∀ a b : List UInt8, (a ++ b).length ≤ 100000000 → b.length ≤ 100000000 := fun a b h => by rw [List.length_append] at h; omega
  have hl1 : (Mb.numb kd ++ (Mb.numb ud ++ (Mb.numb st ++ (Mb.numb cl ++ (Mb.numb tm ++ (Mb.msgB (fl, bdl) ++ [])))))).length ≤ 100000000 := by rw [← hrest]; omega
  have hl2 := hlen _ _ hl1
  have hl3 := hlen _ _ hl2
  have hl4 := hlen _ _ hl3
  have hl5 := hlen _ _ hl4
  have hl6 := hlen _ _ hl5
  have Hl := Lib.hid (And.intro hl2 (And.intro hl3 (And.intro hl4 (And.intro hl5 hl6))))
  have hng : n0 ≤ g := by omega
  have HN1 := Lib.hid (number_rd (fun x => B ≤ x) n0 w1 g kd _ (hE.ext hb1 (by omega)) hng i1 hR1 hl1)
  have hlenT : (67 :: rest : List UInt8).length = rest.length + 1 := List.length_cons
  rw [hlenT] at hv hcv1 ⊢
  have hTl : ((rest.length + 1 : Nat) : Int) - 1 = (rest.length : Int) := by omega
  have hc0w := (hb1.cell (p := ⟨bb, off, none⟩) hbb).trans hc0
  have hn1 : ¬ (rest.length : Int) + 1 = 0 := by omega
  have hcvi : (rest.length : Int) + 1 ≤ (cv : Int) := by omega
  have hE1 := hE.ext hb1 (by omega)
  have HE1 := Lib.hid hE1
  have Hof := Lib.hid hof; have Hap := Lib.hid hap
  have Htx := Lib.hid hT
  have oE1 : Own entC (fun x => MB M w.heap.size x ∨ (Value.slice Ag b.gs.length cg).ownBlock = some x) w B 65 (.slice Ae b.es.length ce) b.es := own_sub oE fun x hx h => h.imp (fun h => h.elim id fun h => by omega) id
  have oE1 := oE1.ext hb1
  have oG1 := oG.ext hb1
  have kp1 := kp.ext hb1
  have hv1 := hv.ext hb1
  have hneG : ∀ x, (Value.slice Ag b.gs.length cg).ownBlock = some x → x ≠ g := fun x hx e => by have h1 := oG.lt x hx; omega
  have hneE : ∀ x, (Value.slice Ae b.es.length ce).ownBlock = some x → x ≠ g := fun x hx e => by have h1 := oE.lt x hx; omega
  have hEl : ∀ x, (Value.slice Ae b.es.length ce).ownBlock = some x → x < w.heap.size := fun x hx => oE.lt x hx
  have hGl : ∀ x, (Value.slice Ag b.gs.length cg).ownBlock = some x → x < w.heap.size := fun x hx => oG.lt x hx
  have hMg : MB M w.heap.size g := .inr (by omega)
  have hz1 := hb1.size
  clear hsz1 hl1 hl2 hl3 hl4 hl5 hl6 hof hap happ hT htx hrest hrs hR1 hE hE1 kp oE oG hv hc0 hchl h0 hrb hlenT hG hgl hr hlen
  go_enter Tryz.func26, Tryz.ntmps26
  go_wp2_with fail
  refine HN1.out.mono ?_
  rintro e w2 ⟨rfl, hR2, hT2⟩
  refine Hid.out ?_
  have hTN2 : TurnedN g w1 w2 := hT2
  have HE2 := Lib.hid (HE1.out.on (hT2.rest n0 hng (by omega)))
  have HN2 := Lib.hid (number_rd (fun x => B ≤ x) n0 w2 g ud _ HE2.out hng i2 hR2 Hl.out.1)
  clear hR2 hT2 HN1
  refine Lib.hid ?_
  go_wp2_with fail
  refine HN2.out.mono ?_
  rintro e w3 ⟨rfl, hR3, hT3⟩
  refine Hid.out ?_
  have hTN3 : TurnedN g w1 w3 := hTN2.trans hT3
  have HE3 := Lib.hid (HE2.out.on (hT3.rest n0 hng (by have := hTN2.size; omega)))
  have HN3 := Lib.hid (number_rd (fun x => B ≤ x) n0 w3 g st _ HE3.out hng i3 hR3 Hl.out.2.1)
  clear hR3 hT3 HN2
  refine Lib.hid ?_
  go_wp2_with fail
  refine HN3.out.mono ?_
  rintro e w4 ⟨rfl, hR4, hT4⟩
  refine Hid.out ?_
  have hTN4 : TurnedN g w1 w4 := hTN3.trans hT4
  have HE4 := Lib.hid (HE3.out.on (hT4.rest n0 hng (by have := hTN3.size; omega)))
  have HN4 := Lib.hid (number_rd (fun x => B ≤ x) n0 w4 g cl _ HE4.out hng i4 hR4 Hl.out.2.2.1)
  clear hR4 hT4 HN3
  refine Lib.hid ?_
  go_wp2_with fail
  refine HN4.out.mono ?_
  rintro e w5 ⟨rfl, hR5, hT5⟩
  refine Hid.out ?_
  have hTN5 : TurnedN g w1 w5 := hTN4.trans hT5
  have HE5 := Lib.hid (HE4.out.on (hT5.rest n0 hng (by have := hTN4.size; omega)))
  have HN5 := Lib.hid (number_rd (fun x => B ≤ x) n0 w5 g tm _ HE5.out hng i5 hR5 Hl.out.2.2.2.1)
  clear hR5 hT5 HN4
  refine Lib.hid ?_
  go_wp2_with fail
  refine HN5.out.mono ?_
  rintro e w6 ⟨rfl, hR6, hT6⟩
  refine Hid.out ?_
  have hTN6 : TurnedN g w1 w6 := hTN5.trans hT6
  have HE6 := Lib.hid (HE5.out.on (hT6.rest n0 hng (by have := hTN5.size; omega)))
  have HM := Lib.hid (msg_rd (fun x => M x ∨ x = p) (fun x => B ≤ x) n0 w6 g (fl, bdl) [] HE6.out hng (fun x hx => by
    have h9 := hTN6.size
    rcases hx with hx | hx
    · have := hM x hx; omega
    · omega) hmi hR6 Hl.out.2.2.2.2)
  clear hR6 hT6 HN5
  refine Lib.hid ?_
  go_wp2_with fail
  refine HM.out.mono ?_
  rintro e w7 ⟨f, bd, rfl, hsf, hsb, hR7, hT7⟩
  refine Hid.out ?_
  obtain ⟨Af, cf, rfl, _, _⟩ := hsf.form
  obtain ⟨Ab, cb, rfl, _, _⟩ := hsb.form
  have hTN7 : TurnedN g w1 w7 := hTN6.trans hT7
  have HE7 := HE6.out.on (hT7.rest n0 hng (by have := hTN6.size; omega))
  obtain ⟨wo, g9, hwo, hg9, hszo, k9, hbo⟩ := box1 w7 #[.int .i64 kd, .int .i64 ud, .int .i64 st, .int .i64 cl, .int .i64 tm, .slice Af fl.length cf, .slice Ab bdl.length cb] 47
  have hTNo : TurnedN g w1 wo := hTN7.below hbo
  have kpo := kp1.turnedN hTNo hpg
  have oEo := oE1.turnedN hTNo (.inl hMg) hneE
  have oGo := oG1.growT free_gn hTNo hneG
  have HEo := Lib.hid (HE7.ext hbo (by have := hTN7.size; omega))
  have hvo := hv1.turnedN hTNo (show B ≤ g from hBg)
  obtain ⟨_, AR, cR, kR, _⟩ := hR7.ext hbo
  have Hsf := Lib.hid (hsf.zero.ext hbo); have Hsb := Lib.hid (hsb.zero.ext hbo); have HsF := Lib.hid (hsf.ext hbo); have HsB := Lib.hid (hsb.ext hbo)
  have hbBo : Below B w wo := (hb1.mono hBw).trans (hTNo.rest B hBg (by omega))
  have hzo : w.heap.size ≤ wo.heap.size := by have := hTNo.size; omega
  have hg9g : g9 ≠ g := by have := hTN7.size; have := k1.lt; omega
  have hg9p : g9 ≠ p := by have := hTN7.size; omega
  have hg9w : w.heap.size ≤ g9 := by have := hTN7.size; omega
  have hgo : g < wo.heap.size := kR.lt
  have hg9o : g9 < wo.heap.size := k9.lt
  have HSS : Hid (∀ W, Below wo.heap.size wo W → W.cell? ⟨p, 0, none⟩ = some (.int .i64 b.nu) ∧ W.cell? ⟨p, 1, none⟩ = some (.int .i64 b.ns) ∧ W.cell? ⟨p, 2, none⟩ = some (.int .i64 b.hz) ∧ W.cell? ⟨p, 3, none⟩ = some (.slice Ae b.es.length ce) ∧ W.cell? ⟨p, 4, none⟩ = some (.slice Ag b.gs.length cg) ∧ W.cell? ⟨g9, 0, none⟩ = some (.int .i64 kd) ∧ W.cell? ⟨g9, 1, none⟩ = some (.int .i64 ud) ∧ W.cell? ⟨g9, 2, none⟩ = some (.int .i64 st) ∧ W.cell? ⟨g9, 3, none⟩ = some (.int .i64 cl) ∧ W.cell? ⟨g9, 4, none⟩ = some (.int .i64 tm) ∧ W.cell? ⟨g9, 5, none⟩ = some (.slice Af fl.length cf) ∧ W.cell? ⟨g9, 6, none⟩ = some (.slice Ab bdl.length cb)) := Lib.hid fun W hW => ⟨(kpo.ext hW).cell 0, (kpo.ext hW).cell 1, (kpo.ext hW).cell 2, (kpo.ext hW).cell 3, (kpo.ext hW).cell 4, (k9.ext hW).cell 0, (k9.ext hW).cell 1, (k9.ext hW).cell 2, (k9.ext hW).cell 3, (k9.ext hW).cell 4, (k9.ext hW).cell 5, (k9.ext hW).cell 6⟩
  have hS := HSS.out _ (below_drewN' wo.heap.size wo 1)
  have Hkp := Lib.hid kpo; have Hk9 := Lib.hid k9; have HkR := Lib.hid kR; have HoE := Lib.hid oEo; have HoG := Lib.hid oGo; have Hvo := Lib.hid hvo
  clear hTN2 hTN3 hTN4 hTN5 hTN6 hTN7 hTNo hT7 hsf hsb hR7 hbo HM hszo kpo k9 kR oEo oGo hvo HE7 oE1 oG1 kp1 hv1 k1 hb1 HE1 HE2 HE3 HE4 HE5 HE6 hc0w
  refine Lib.hid ?_
  go_upto_region 8 with fail
  go_cut [10, 11] from 39 to 48 (fun v10 v11 wx => ∃ g10 g11 es' gs', v10 = .pointer (some ⟨g10, 0, none⟩) ∧ v11 = .pointer (some ⟨g11, 0, none⟩) ∧ Hid (ApAt M wo rb g10 g11 es' gs' wx))
  case first =>
    refine wp_region_D (fun W => W.cell? ⟨p, 0, none⟩ = some (.int .i64 b.nu) ∧ W.cell? ⟨p, 1, none⟩ = some (.int .i64 b.ns) ∧ W.cell? ⟨p, 2, none⟩ = some (.int .i64 b.hz) ∧ W.cell? ⟨p, 3, none⟩ = some (.slice Ae b.es.length ce) ∧ W.cell? ⟨p, 4, none⟩ = some (.slice Ag b.gs.length cg) ∧ W.cell? ⟨g9, 0, none⟩ = some (.int .i64 kd) ∧ W.cell? ⟨g9, 1, none⟩ = some (.int .i64 ud) ∧ W.cell? ⟨g9, 2, none⟩ = some (.int .i64 st) ∧ W.cell? ⟨g9, 3, none⟩ = some (.int .i64 cl) ∧ W.cell? ⟨g9, 4, none⟩ = some (.int .i64 tm) ∧ W.cell? ⟨g9, 5, none⟩ = some (.slice Af fl.length cf) ∧ W.cell? ⟨g9, 6, none⟩ = some (.slice Ab bdl.length cb)) (fun j => j == 13) (by kernel_rfl) ?_
    change anyD _ _ _ _ _ _ _ _ _ (wo.drewN 1)
    have hbc := below_drewN' wo.heap.size wo 1
    generalize wo.drewN 1 = V0 at hS hbc ⊢
    (refine anyD_light (i := 0) (v := ?_) rfl (by kernel_rfl) (by kernel_rfl) (by kernel_rfl) (by kernel_rfl) (by kernel_rfl) (fun _ _ _ h => h) (.inl ⟨by kernel_rfl, fun W9 hW9 => ?_⟩) hS ?_; rotate_left; · (obtain ⟨hw0, hw1, hw2, hw3, hw4, hw5, hw6, hw7, hw8, hw9, hw10, hw11⟩ := hW9; go_simp; rfl))
    (refine anyD_light (i := 1) (v := ?_) rfl (by kernel_rfl) (by kernel_rfl) (by kernel_rfl) (by kernel_rfl) (by kernel_rfl) (fun _ _ _ h => h) (.inl ⟨by kernel_rfl, fun W9 hW9 => ?_⟩) hS ?_; rotate_left; · (obtain ⟨hw0, hw1, hw2, hw3, hw4, hw5, hw6, hw7, hw8, hw9, hw10, hw11⟩ := hW9; go_simp; rfl))
    (refine anyD_light (i := 2) (v := ?_) rfl (by kernel_rfl) (by kernel_rfl) (by kernel_rfl) (by kernel_rfl) (by kernel_rfl) (fun _ _ _ h => h) (.inl ⟨by kernel_rfl, fun W9 hW9 => ?_⟩) hS ?_; rotate_left; · (obtain ⟨hw0, hw1, hw2, hw3, hw4, hw5, hw6, hw7, hw8, hw9, hw10, hw11⟩ := hW9; go_simp; rfl))
    (refine anyD_light (i := 3) (v := ?_) rfl (by kernel_rfl) (by kernel_rfl) (by kernel_rfl) (by kernel_rfl) (by kernel_rfl) (fun _ _ _ h => h) (.inl ⟨by kernel_rfl, fun W9 hW9 => ?_⟩) hS ?_; rotate_left; · (obtain ⟨hw0, hw1, hw2, hw3, hw4, hw5, hw6, hw7, hw8, hw9, hw10, hw11⟩ := hW9; go_simp; rfl))
    go_simp
    (refine anyD_light (i := 4) (v := ?_) rfl (by kernel_rfl) (by kernel_rfl) (by kernel_rfl) (by kernel_rfl) (by kernel_rfl) (fun _ _ _ h => h) (.inl ⟨by kernel_rfl, fun W9 hW9 => ?_⟩) hS ?_; rotate_left; · (obtain ⟨hw0, hw1, hw2, hw3, hw4, hw5, hw6, hw7, hw8, hw9, hw10, hw11⟩ := hW9; go_simp; rfl))
    (refine anyD_light (i := 5) (v := ?_) rfl (by kernel_rfl) (by kernel_rfl) (by kernel_rfl) (by kernel_rfl) (by kernel_rfl) (fun _ _ _ h => h) (.inl ⟨by kernel_rfl, fun W9 hW9 => ?_⟩) hS ?_; rotate_left; · (obtain ⟨hw0, hw1, hw2, hw3, hw4, hw5, hw6, hw7, hw8, hw9, hw10, hw11⟩ := hW9; go_simp; rfl))
    go_simp
    refine anyD_pick [6, 10, 11] (by kernel_rfl) (by decide) ?_
    intro j hj
    simp only [List.mem_cons, List.not_mem_nil, or_false] at hj
    rcases hj with rfl | rfl | rfl
    · refine ⟨_, rfl, rfl, fun K hK => ?_⟩
      have HK := Lib.hid hK
      clear hK
      unfold Oper.wp
      go_simp
      have hap2 := Hap.out V0 (fun x => M x ∨ (wo.heap.size ≤ x ∧ x < V0.heap.size)) _ _ (fun x hx => by have h9 := hbc.size; rcases hx with hx | hx; (have := hM x hx; omega); exact hx.2) _ _ (pl_read (HoE.out.ext hbc) hesM hEl (fun x hx => hx.imp id fun h => (show w.heap.size ≤ x by omega)) (HoG.out.ext hbc)) (pl_readG (HoG.out.ext hbc) hgsM hGl (fun x hx => hx.imp id fun h => (show w.heap.size ≤ x by omega))) (Hsf.out.ext hbc) (Hsb.out.ext hbc)
      refine hap2.mono ?_
      rintro e V1 ⟨esv, gsv, rfl, oE9, oG9, hb9⟩
      clear hap2
      obtain ⟨A6, c6, rfl, _, _⟩ := oE9.shape
      obtain ⟨A7, c7, rfl, _, _⟩ := oG9.shape
      have oE9 : Own entC (fun x => (M x ∨ (wo.heap.size ≤ x ∧ x < V0.heap.size) ∨ V1.heap.size ≤ x) ∨ (Value.slice A7 rb.gs.length c7).ownBlock = some x) V1 V0.heap.size 65 (.slice A6 rb.es.length c6) rb.es := own_sub oE9 fun x hx h => h.imp (fun h => h.elim .inl fun h => h.elim .inr fun h => by omega) id
      have oG9 : Own gnC M V1 V0.heap.size 82 (.slice A7 rb.gs.length c7) rb.gs := own_freeM free_gn oG9
      have hEi : ∀ x, (Value.slice A6 rb.es.length c6).ownBlock = some x → V0.heap.size ≤ x ∧ x < V1.heap.size := fun x hx => ⟨oE9.base x hx, oE9.lt x hx⟩
      have hGi : ∀ x, (Value.slice A7 rb.gs.length c7).ownBlock = some x → V0.heap.size ≤ x ∧ x < V1.heap.size := fun x hx => ⟨oG9.base x hx, oG9.lt x hx⟩
      have Hn : Hid (V0.heap.size ≤ V1.heap.size ∧ wo.heap.size ≤ V0.heap.size) := Lib.hid ⟨hb9.size, hbc.size⟩
      replace hbc := hbc.trans (hb9.mono hbc.size)
      clear hb9
      clear hS
      have hS := HSS.out _ hbc
      refine HK.out _ _ (fun _ => hS) ?_
      clear HK
      (refine anyD_light (i := 7) (v := ?_) rfl (by kernel_rfl) (by kernel_rfl) (by kernel_rfl) (by kernel_rfl) (by kernel_rfl) (fun _ _ _ h => h) (.inl ⟨by kernel_rfl, fun W9 hW9 => ?_⟩) hS ?_; rotate_left; · (obtain ⟨hw0, hw1, hw2, hw3, hw4, hw5, hw6, hw7, hw8, hw9, hw10, hw11⟩ := hW9; go_simp; rfl))
      (refine anyD_light (i := 8) (v := ?_) rfl (by kernel_rfl) (by kernel_rfl) (by kernel_rfl) (by kernel_rfl) (by kernel_rfl) (fun _ _ _ h => h) (.inl ⟨by kernel_rfl, fun W9 hW9 => ?_⟩) hS ?_; rotate_left; · (obtain ⟨hw0, hw1, hw2, hw3, hw4, hw5, hw6, hw7, hw8, hw9, hw10, hw11⟩ := hW9; go_simp; rfl))
      (refine anyD_light (i := 9) (v := ?_) rfl (by kernel_rfl) (by kernel_rfl) (by kernel_rfl) (by kernel_rfl) (by kernel_rfl) (fun _ _ _ h => h) (.inl ⟨by kernel_rfl, fun W9 hW9 => ?_⟩) hS ?_; rotate_left; · (obtain ⟨hw0, hw1, hw2, hw3, hw4, hw5, hw6, hw7, hw8, hw9, hw10, hw11⟩ := hW9; go_simp; rfl))
      go_simp
      refine anyD_pick [10, 11] (by kernel_rfl) (by decide) ?_
      intro j hj
      simp only [List.mem_cons, List.not_mem_nil, or_false] at hj
      rcases hj with rfl | rfl
      · refine ⟨_, rfl, rfl, fun K hK => ?_⟩
        have HK := Lib.hid hK
        clear hK
        unfold Oper.wp
        go_simp
        obtain ⟨V2, g10, hV, hgg10, hss10, k10, hal⟩ := box1 V1 #[.int .i64 0, .int .i64 0, .int .i64 0, .slice none 0 0, .slice none 0 0] 26
        rw [hV, hgg10]
        have Hg10 : Hid (V1.heap.size = g10 ∧ V2.heap.size = g10 + 1 ∧ wo.heap.size ≤ g10) := Lib.hid ⟨hgg10, hss10, by have := hbc.size; omega⟩
        clear hV hgg10 hss10
        replace oE9 := oE9.ext hal
        replace oG9 := oG9.ext hal
        replace hbc := hbc.trans (hal.mono hbc.size)
        clear hal
        clear hS
        have hS := HSS.out _ hbc
        refine HK.out _ _ (fun _ => hS) ?_
        clear HK
        go_simp
        refine anyD_one (i := 11) (by kernel_rfl) rfl rfl (fun K hK => ?_)
        have HK := Lib.hid hK
        clear hK
        unfold Oper.wp
        go_simp
        obtain ⟨V3, g11, hV, hgg11, hss11, k11, hal⟩ := box1 V2 #[.int .i64 0, .int .i64 0] 31
        rw [hV, hgg11]
        have Hg11 : Hid (V2.heap.size = g11 ∧ V3.heap.size = g11 + 1 ∧ wo.heap.size ≤ g11) := Lib.hid ⟨hgg11, hss11, by have := hbc.size; omega⟩
        clear hV hgg11 hss11
        replace k10 := k10.ext hal
        replace oE9 := oE9.ext hal
        replace oG9 := oG9.ext hal
        replace hbc := hbc.trans (hal.mono hbc.size)
        clear hal
        clear hS
        have hS := HSS.out _ hbc
        refine HK.out _ _ (fun _ => hS) ?_
        clear HK
        go_simp
        have hne : g10 ≠ g11 := by have := Hg10.out; have := Hg11.out; have := Hn.out; omega
        have Hfin := Lib.hid (fun W hW => ApAt.make (M := M) (wo := wo) (rb := rb) (W := W) (n1 := V0.heap.size) (n2 := V1.heap.size) hbc k10 k11 hne Hg10.out.2.2 Hg11.out.2.2 Hn.out.2 (by have := Hg10.out; have := Hg11.out; have := Hn.out; omega) (by have := Hg10.out; have := Hg11.out; have := Hn.out; omega) oE9 oG9 hEi hGi hW)
        have m0 := k10.cell 0; have m1 := k10.cell 1; have m2 := k10.cell 2; have m3 := k10.cell 3; have m4 := k10.cell 4; have x0 := k10.frozen 0; have x1 := k10.frozen 1; have x2 := k10.frozen 2; have x3 := k10.frozen 3; have x4 := k10.frozen 4; have xl := k10.lt
        have hTq := put5_turned V3 g10 (.int .i64 rb.nu) (.int .i64 rb.ns) (.int .i64 rb.hz) (.slice A6 rb.es.length c6) (.slice A7 rb.gs.length c7)
        obtain ⟨n0c, n1c, u0, u1, ul⟩ := (k11.turned hTq hne.symm).two
        have hbx := hbc.trans (hTq.rest _ Hg10.out.2.2)
        unfold put5 at *
        go_simp
        refine anyD_one (i := 12) (by kernel_rfl) rfl rfl (fun K hK => ?_)
        have HK := Lib.hid hK
        clear hK
        unfold Oper.wp
        go_simp
        refine HK.out _ _ (fun _ => HSS.out _ hbx) ?_
        clear HK
        go_simp
        refine anyD_one (i := 13) (by kernel_rfl) rfl rfl (fun K hK => ?_)
        have HK := Lib.hid hK
        clear hK
        unfold Oper.wp
        go_simp
        refine HK.out _ _ (fun h => by cases h) ?_
        clear HK hbx
        go_simp
        refine anyD_done (by kernel_rfl) ?_ _
        clear m0 m1 m2 m3 m4 x0 x1 x2 x3 x4 xl hTq n0c n1c u0 u1 ul k10 k11 oE9 oG9 hEi hGi hbc
        go_wp2
        go_meet
        exact ⟨g10, g11, _, _, rfl, rfl, Lib.hid (Hfin.out _ rfl)⟩
      · refine ⟨_, rfl, rfl, fun K hK => ?_⟩
        have HK := Lib.hid hK
        clear hK
        unfold Oper.wp
        go_simp
        obtain ⟨V2, g11, hV, hgg11, hss11, k11, hal⟩ := box1 V1 #[.int .i64 0, .int .i64 0] 31
        rw [hV, hgg11]
        have Hg11 : Hid (V1.heap.size = g11 ∧ V2.heap.size = g11 + 1 ∧ wo.heap.size ≤ g11) := Lib.hid ⟨hgg11, hss11, by have := hbc.size; omega⟩
        clear hV hgg11 hss11
        replace oE9 := oE9.ext hal
        replace oG9 := oG9.ext hal
        replace hbc := hbc.trans (hal.mono hbc.size)
        clear hal
        clear hS
        have hS := HSS.out _ hbc
        refine HK.out _ _ (fun _ => hS) ?_
        clear HK
        go_simp
        refine anyD_one (i := 10) (by kernel_rfl) rfl rfl (fun K hK => ?_)
        have HK := Lib.hid hK
        clear hK
        unfold Oper.wp
        go_simp
        obtain ⟨V3, g10, hV, hgg10, hss10, k10, hal⟩ := box1 V2 #[.int .i64 0, .int .i64 0, .int .i64 0, .slice none 0 0, .slice none 0 0] 26
        rw [hV, hgg10]
        have Hg10 : Hid (V2.heap.size = g10 ∧ V3.heap.size = g10 + 1 ∧ wo.heap.size ≤ g10) := Lib.hid ⟨hgg10, hss10, by have := hbc.size; omega⟩
        clear hV hgg10 hss10
        replace k11 := k11.ext hal
        replace oE9 := oE9.ext hal
        replace oG9 := oG9.ext hal
        replace hbc := hbc.trans (hal.mono hbc.size)
        clear hal
        clear hS
        have hS := HSS.out _ hbc
        refine HK.out _ _ (fun _ => hS) ?_
        clear HK
        go_simp
        have hne : g10 ≠ g11 := by have := Hg10.out; have := Hg11.out; have := Hn.out; omega
        have Hfin := Lib.hid (fun W hW => ApAt.make (M := M) (wo := wo) (rb := rb) (W := W) (n1 := V0.heap.size) (n2 := V1.heap.size) hbc k10 k11 hne Hg10.out.2.2 Hg11.out.2.2 Hn.out.2 (by have := Hg10.out; have := Hg11.out; have := Hn.out; omega) (by have := Hg10.out; have := Hg11.out; have := Hn.out; omega) oE9 oG9 hEi hGi hW)
        have m0 := k10.cell 0; have m1 := k10.cell 1; have m2 := k10.cell 2; have m3 := k10.cell 3; have m4 := k10.cell 4; have x0 := k10.frozen 0; have x1 := k10.frozen 1; have x2 := k10.frozen 2; have x3 := k10.frozen 3; have x4 := k10.frozen 4; have xl := k10.lt
        have hTq := put5_turned V3 g10 (.int .i64 rb.nu) (.int .i64 rb.ns) (.int .i64 rb.hz) (.slice A6 rb.es.length c6) (.slice A7 rb.gs.length c7)
        obtain ⟨n0c, n1c, u0, u1, ul⟩ := (k11.turned hTq hne.symm).two
        have hbx := hbc.trans (hTq.rest _ Hg10.out.2.2)
        unfold put5 at *
        go_simp
        refine anyD_one (i := 12) (by kernel_rfl) rfl rfl (fun K hK => ?_)
        have HK := Lib.hid hK
        clear hK
        unfold Oper.wp
        go_simp
        refine HK.out _ _ (fun _ => HSS.out _ hbx) ?_
        clear HK
        go_simp
        refine anyD_one (i := 13) (by kernel_rfl) rfl rfl (fun K hK => ?_)
        have HK := Lib.hid hK
        clear hK
        unfold Oper.wp
        go_simp
        refine HK.out _ _ (fun h => by cases h) ?_
        clear HK hbx
        go_simp
        refine anyD_done (by kernel_rfl) ?_ _
        clear m0 m1 m2 m3 m4 x0 x1 x2 x3 x4 xl hTq n0c n1c u0 u1 ul k10 k11 oE9 oG9 hEi hGi hbc
        go_wp2
        go_meet
        exact ⟨g10, g11, _, _, rfl, rfl, Lib.hid (Hfin.out _ rfl)⟩
    · refine ⟨_, rfl, rfl, fun K hK => ?_⟩
      have HK := Lib.hid hK
      clear hK
      unfold Oper.wp
      go_simp
      obtain ⟨V1, g10, hV, hgg10, hss10, k10, hal⟩ := box1 V0 #[.int .i64 0, .int .i64 0, .int .i64 0, .slice none 0 0, .slice none 0 0] 26
      rw [hV, hgg10]
      have Hg10 : Hid (V0.heap.size = g10 ∧ V1.heap.size = g10 + 1 ∧ wo.heap.size ≤ g10) := Lib.hid ⟨hgg10, hss10, by have := hbc.size; omega⟩
      clear hV hgg10 hss10
      replace hbc := hbc.trans (hal.mono hbc.size)
      clear hal
      clear hS
      have hS := HSS.out _ hbc
      refine HK.out _ _ (fun _ => hS) ?_
      clear HK
      go_simp
      refine anyD_pick [6, 11] (by kernel_rfl) (by decide) ?_
      intro j hj
      simp only [List.mem_cons, List.not_mem_nil, or_false] at hj
      rcases hj with rfl | rfl
      · refine ⟨_, rfl, rfl, fun K hK => ?_⟩
        have HK := Lib.hid hK
        clear hK
        unfold Oper.wp
        go_simp
        have hap2 := Hap.out V1 (fun x => M x ∨ (wo.heap.size ≤ x ∧ x < V1.heap.size)) _ _ (fun x hx => by have h9 := hbc.size; rcases hx with hx | hx; (have := hM x hx; omega); exact hx.2) _ _ (pl_read (HoE.out.ext hbc) hesM hEl (fun x hx => hx.imp id fun h => (show w.heap.size ≤ x by omega)) (HoG.out.ext hbc)) (pl_readG (HoG.out.ext hbc) hgsM hGl (fun x hx => hx.imp id fun h => (show w.heap.size ≤ x by omega))) (Hsf.out.ext hbc) (Hsb.out.ext hbc)
        refine hap2.mono ?_
        rintro e V2 ⟨esv, gsv, rfl, oE9, oG9, hb9⟩
        clear hap2
        obtain ⟨A6, c6, rfl, _, _⟩ := oE9.shape
        obtain ⟨A7, c7, rfl, _, _⟩ := oG9.shape
        have oE9 : Own entC (fun x => (M x ∨ (wo.heap.size ≤ x ∧ x < V1.heap.size) ∨ V2.heap.size ≤ x) ∨ (Value.slice A7 rb.gs.length c7).ownBlock = some x) V2 V1.heap.size 65 (.slice A6 rb.es.length c6) rb.es := own_sub oE9 fun x hx h => h.imp (fun h => h.elim .inl fun h => h.elim .inr fun h => by omega) id
        have oG9 : Own gnC M V2 V1.heap.size 82 (.slice A7 rb.gs.length c7) rb.gs := own_freeM free_gn oG9
        have hEi : ∀ x, (Value.slice A6 rb.es.length c6).ownBlock = some x → V1.heap.size ≤ x ∧ x < V2.heap.size := fun x hx => ⟨oE9.base x hx, oE9.lt x hx⟩
        have hGi : ∀ x, (Value.slice A7 rb.gs.length c7).ownBlock = some x → V1.heap.size ≤ x ∧ x < V2.heap.size := fun x hx => ⟨oG9.base x hx, oG9.lt x hx⟩
        replace k10 := k10.ext hb9
        have Hn : Hid (V1.heap.size ≤ V2.heap.size ∧ wo.heap.size ≤ V1.heap.size) := Lib.hid ⟨hb9.size, hbc.size⟩
        replace hbc := hbc.trans (hb9.mono hbc.size)
        clear hb9
        clear hS
        have hS := HSS.out _ hbc
        refine HK.out _ _ (fun _ => hS) ?_
        clear HK
        (refine anyD_light (i := 7) (v := ?_) rfl (by kernel_rfl) (by kernel_rfl) (by kernel_rfl) (by kernel_rfl) (by kernel_rfl) (fun _ _ _ h => h) (.inl ⟨by kernel_rfl, fun W9 hW9 => ?_⟩) hS ?_; rotate_left; · (obtain ⟨hw0, hw1, hw2, hw3, hw4, hw5, hw6, hw7, hw8, hw9, hw10, hw11⟩ := hW9; go_simp; rfl))
        (refine anyD_light (i := 8) (v := ?_) rfl (by kernel_rfl) (by kernel_rfl) (by kernel_rfl) (by kernel_rfl) (by kernel_rfl) (fun _ _ _ h => h) (.inl ⟨by kernel_rfl, fun W9 hW9 => ?_⟩) hS ?_; rotate_left; · (obtain ⟨hw0, hw1, hw2, hw3, hw4, hw5, hw6, hw7, hw8, hw9, hw10, hw11⟩ := hW9; go_simp; rfl))
        (refine anyD_light (i := 9) (v := ?_) rfl (by kernel_rfl) (by kernel_rfl) (by kernel_rfl) (by kernel_rfl) (by kernel_rfl) (fun _ _ _ h => h) (.inl ⟨by kernel_rfl, fun W9 hW9 => ?_⟩) hS ?_; rotate_left; · (obtain ⟨hw0, hw1, hw2, hw3, hw4, hw5, hw6, hw7, hw8, hw9, hw10, hw11⟩ := hW9; go_simp; rfl))
        go_simp
        refine anyD_one (i := 11) (by kernel_rfl) rfl rfl (fun K hK => ?_)
        have HK := Lib.hid hK
        clear hK
        unfold Oper.wp
        go_simp
        obtain ⟨V3, g11, hV, hgg11, hss11, k11, hal⟩ := box1 V2 #[.int .i64 0, .int .i64 0] 31
        rw [hV, hgg11]
        have Hg11 : Hid (V2.heap.size = g11 ∧ V3.heap.size = g11 + 1 ∧ wo.heap.size ≤ g11) := Lib.hid ⟨hgg11, hss11, by have := hbc.size; omega⟩
        clear hV hgg11 hss11
        replace k10 := k10.ext hal
        replace oE9 := oE9.ext hal
        replace oG9 := oG9.ext hal
        replace hbc := hbc.trans (hal.mono hbc.size)
        clear hal
        clear hS
        have hS := HSS.out _ hbc
        refine HK.out _ _ (fun _ => hS) ?_
        clear HK
        go_simp
        have hne : g10 ≠ g11 := by have := Hg10.out; have := Hg11.out; have := Hn.out; omega
        have Hfin := Lib.hid (fun W hW => ApAt.make (M := M) (wo := wo) (rb := rb) (W := W) (n1 := V1.heap.size) (n2 := V2.heap.size) hbc k10 k11 hne Hg10.out.2.2 Hg11.out.2.2 Hn.out.2 (by have := Hg10.out; have := Hg11.out; have := Hn.out; omega) (by have := Hg10.out; have := Hg11.out; have := Hn.out; omega) oE9 oG9 hEi hGi hW)
        have m0 := k10.cell 0; have m1 := k10.cell 1; have m2 := k10.cell 2; have m3 := k10.cell 3; have m4 := k10.cell 4; have x0 := k10.frozen 0; have x1 := k10.frozen 1; have x2 := k10.frozen 2; have x3 := k10.frozen 3; have x4 := k10.frozen 4; have xl := k10.lt
        have hTq := put5_turned V3 g10 (.int .i64 rb.nu) (.int .i64 rb.ns) (.int .i64 rb.hz) (.slice A6 rb.es.length c6) (.slice A7 rb.gs.length c7)
        obtain ⟨n0c, n1c, u0, u1, ul⟩ := (k11.turned hTq hne.symm).two
        have hbx := hbc.trans (hTq.rest _ Hg10.out.2.2)
        unfold put5 at *
        go_simp
        refine anyD_one (i := 12) (by kernel_rfl) rfl rfl (fun K hK => ?_)
        have HK := Lib.hid hK
        clear hK
        unfold Oper.wp
        go_simp
        refine HK.out _ _ (fun _ => HSS.out _ hbx) ?_
        clear HK
        go_simp
        refine anyD_one (i := 13) (by kernel_rfl) rfl rfl (fun K hK => ?_)
        have HK := Lib.hid hK
        clear hK
        unfold Oper.wp
        go_simp
        refine HK.out _ _ (fun h => by cases h) ?_
        clear HK hbx
        go_simp
        refine anyD_done (by kernel_rfl) ?_ _
        clear m0 m1 m2 m3 m4 x0 x1 x2 x3 x4 xl hTq n0c n1c u0 u1 ul k10 k11 oE9 oG9 hEi hGi hbc
        go_wp2
        go_meet
        exact ⟨g10, g11, _, _, rfl, rfl, Lib.hid (Hfin.out _ rfl)⟩
      · refine ⟨_, rfl, rfl, fun K hK => ?_⟩
        have HK := Lib.hid hK
        clear hK
        unfold Oper.wp
        go_simp
        obtain ⟨V2, g11, hV, hgg11, hss11, k11, hal⟩ := box1 V1 #[.int .i64 0, .int .i64 0] 31
        rw [hV, hgg11]
        have Hg11 : Hid (V1.heap.size = g11 ∧ V2.heap.size = g11 + 1 ∧ wo.heap.size ≤ g11) := Lib.hid ⟨hgg11, hss11, by have := hbc.size; omega⟩
        clear hV hgg11 hss11
        replace k10 := k10.ext hal
        replace hbc := hbc.trans (hal.mono hbc.size)
        clear hal
        clear hS
        have hS := HSS.out _ hbc
        refine HK.out _ _ (fun _ => hS) ?_
        clear HK
        go_simp
        refine anyD_one (i := 6) (by kernel_rfl) rfl rfl (fun K hK => ?_)
        have HK := Lib.hid hK
        clear hK
        unfold Oper.wp
        go_simp
        have hap2 := Hap.out V2 (fun x => M x ∨ (wo.heap.size ≤ x ∧ x < V2.heap.size)) _ _ (fun x hx => by have h9 := hbc.size; rcases hx with hx | hx; (have := hM x hx; omega); exact hx.2) _ _ (pl_read (HoE.out.ext hbc) hesM hEl (fun x hx => hx.imp id fun h => (show w.heap.size ≤ x by omega)) (HoG.out.ext hbc)) (pl_readG (HoG.out.ext hbc) hgsM hGl (fun x hx => hx.imp id fun h => (show w.heap.size ≤ x by omega))) (Hsf.out.ext hbc) (Hsb.out.ext hbc)
        refine hap2.mono ?_
        rintro e V3 ⟨esv, gsv, rfl, oE9, oG9, hb9⟩
        clear hap2
        obtain ⟨A6, c6, rfl, _, _⟩ := oE9.shape
        obtain ⟨A7, c7, rfl, _, _⟩ := oG9.shape
        have oE9 : Own entC (fun x => (M x ∨ (wo.heap.size ≤ x ∧ x < V2.heap.size) ∨ V3.heap.size ≤ x) ∨ (Value.slice A7 rb.gs.length c7).ownBlock = some x) V3 V2.heap.size 65 (.slice A6 rb.es.length c6) rb.es := own_sub oE9 fun x hx h => h.imp (fun h => h.elim .inl fun h => h.elim .inr fun h => by omega) id
        have oG9 : Own gnC M V3 V2.heap.size 82 (.slice A7 rb.gs.length c7) rb.gs := own_freeM free_gn oG9
        have hEi : ∀ x, (Value.slice A6 rb.es.length c6).ownBlock = some x → V2.heap.size ≤ x ∧ x < V3.heap.size := fun x hx => ⟨oE9.base x hx, oE9.lt x hx⟩
        have hGi : ∀ x, (Value.slice A7 rb.gs.length c7).ownBlock = some x → V2.heap.size ≤ x ∧ x < V3.heap.size := fun x hx => ⟨oG9.base x hx, oG9.lt x hx⟩
        replace k10 := k10.ext hb9
        replace k11 := k11.ext hb9
        have Hn : Hid (V2.heap.size ≤ V3.heap.size ∧ wo.heap.size ≤ V2.heap.size) := Lib.hid ⟨hb9.size, hbc.size⟩
        replace hbc := hbc.trans (hb9.mono hbc.size)
        clear hb9
        clear hS
        have hS := HSS.out _ hbc
        refine HK.out _ _ (fun _ => hS) ?_
        clear HK
        (refine anyD_light (i := 7) (v := ?_) rfl (by kernel_rfl) (by kernel_rfl) (by kernel_rfl) (by kernel_rfl) (by kernel_rfl) (fun _ _ _ h => h) (.inl ⟨by kernel_rfl, fun W9 hW9 => ?_⟩) hS ?_; rotate_left; · (obtain ⟨hw0, hw1, hw2, hw3, hw4, hw5, hw6, hw7, hw8, hw9, hw10, hw11⟩ := hW9; go_simp; rfl))
        (refine anyD_light (i := 8) (v := ?_) rfl (by kernel_rfl) (by kernel_rfl) (by kernel_rfl) (by kernel_rfl) (by kernel_rfl) (fun _ _ _ h => h) (.inl ⟨by kernel_rfl, fun W9 hW9 => ?_⟩) hS ?_; rotate_left; · (obtain ⟨hw0, hw1, hw2, hw3, hw4, hw5, hw6, hw7, hw8, hw9, hw10, hw11⟩ := hW9; go_simp; rfl))
        (refine anyD_light (i := 9) (v := ?_) rfl (by kernel_rfl) (by kernel_rfl) (by kernel_rfl) (by kernel_rfl) (by kernel_rfl) (fun _ _ _ h => h) (.inl ⟨by kernel_rfl, fun W9 hW9 => ?_⟩) hS ?_; rotate_left; · (obtain ⟨hw0, hw1, hw2, hw3, hw4, hw5, hw6, hw7, hw8, hw9, hw10, hw11⟩ := hW9; go_simp; rfl))
        go_simp
        have hne : g10 ≠ g11 := by have := Hg10.out; have := Hg11.out; have := Hn.out; omega
        have Hfin := Lib.hid (fun W hW => ApAt.make (M := M) (wo := wo) (rb := rb) (W := W) (n1 := V2.heap.size) (n2 := V3.heap.size) hbc k10 k11 hne Hg10.out.2.2 Hg11.out.2.2 Hn.out.2 (by have := Hg10.out; have := Hg11.out; have := Hn.out; omega) (by have := Hg10.out; have := Hg11.out; have := Hn.out; omega) oE9 oG9 hEi hGi hW)
        have m0 := k10.cell 0; have m1 := k10.cell 1; have m2 := k10.cell 2; have m3 := k10.cell 3; have m4 := k10.cell 4; have x0 := k10.frozen 0; have x1 := k10.frozen 1; have x2 := k10.frozen 2; have x3 := k10.frozen 3; have x4 := k10.frozen 4; have xl := k10.lt
        have hTq := put5_turned V3 g10 (.int .i64 rb.nu) (.int .i64 rb.ns) (.int .i64 rb.hz) (.slice A6 rb.es.length c6) (.slice A7 rb.gs.length c7)
        obtain ⟨n0c, n1c, u0, u1, ul⟩ := (k11.turned hTq hne.symm).two
        have hbx := hbc.trans (hTq.rest _ Hg10.out.2.2)
        unfold put5 at *
        go_simp
        refine anyD_one (i := 12) (by kernel_rfl) rfl rfl (fun K hK => ?_)
        have HK := Lib.hid hK
        clear hK
        unfold Oper.wp
        go_simp
        refine HK.out _ _ (fun _ => HSS.out _ hbx) ?_
        clear HK
        go_simp
        refine anyD_one (i := 13) (by kernel_rfl) rfl rfl (fun K hK => ?_)
        have HK := Lib.hid hK
        clear hK
        unfold Oper.wp
        go_simp
        refine HK.out _ _ (fun h => by cases h) ?_
        clear HK hbx
        go_simp
        refine anyD_done (by kernel_rfl) ?_ _
        clear m0 m1 m2 m3 m4 x0 x1 x2 x3 x4 xl hTq n0c n1c u0 u1 ul k10 k11 oE9 oG9 hEi hGi hbc
        go_wp2
        go_meet
        exact ⟨g10, g11, _, _, rfl, rfl, Lib.hid (Hfin.out _ rfl)⟩
    · refine ⟨_, rfl, rfl, fun K hK => ?_⟩
      have HK := Lib.hid hK
      clear hK
      unfold Oper.wp
      go_simp
      obtain ⟨V1, g11, hV, hgg11, hss11, k11, hal⟩ := box1 V0 #[.int .i64 0, .int .i64 0] 31
      rw [hV, hgg11]
      have Hg11 : Hid (V0.heap.size = g11 ∧ V1.heap.size = g11 + 1 ∧ wo.heap.size ≤ g11) := Lib.hid ⟨hgg11, hss11, by have := hbc.size; omega⟩
      clear hV hgg11 hss11
      replace hbc := hbc.trans (hal.mono hbc.size)
      clear hal
      clear hS
      have hS := HSS.out _ hbc
      refine HK.out _ _ (fun _ => hS) ?_
      clear HK
      go_simp
      refine anyD_pick [6, 10] (by kernel_rfl) (by decide) ?_
      intro j hj
      simp only [List.mem_cons, List.not_mem_nil, or_false] at hj
      rcases hj with rfl | rfl
      · refine ⟨_, rfl, rfl, fun K hK => ?_⟩
        have HK := Lib.hid hK
        clear hK
        unfold Oper.wp
        go_simp
        have hap2 := Hap.out V1 (fun x => M x ∨ (wo.heap.size ≤ x ∧ x < V1.heap.size)) _ _ (fun x hx => by have h9 := hbc.size; rcases hx with hx | hx; (have := hM x hx; omega); exact hx.2) _ _ (pl_read (HoE.out.ext hbc) hesM hEl (fun x hx => hx.imp id fun h => (show w.heap.size ≤ x by omega)) (HoG.out.ext hbc)) (pl_readG (HoG.out.ext hbc) hgsM hGl (fun x hx => hx.imp id fun h => (show w.heap.size ≤ x by omega))) (Hsf.out.ext hbc) (Hsb.out.ext hbc)
        refine hap2.mono ?_
        rintro e V2 ⟨esv, gsv, rfl, oE9, oG9, hb9⟩
        clear hap2
        obtain ⟨A6, c6, rfl, _, _⟩ := oE9.shape
        obtain ⟨A7, c7, rfl, _, _⟩ := oG9.shape
        have oE9 : Own entC (fun x => (M x ∨ (wo.heap.size ≤ x ∧ x < V1.heap.size) ∨ V2.heap.size ≤ x) ∨ (Value.slice A7 rb.gs.length c7).ownBlock = some x) V2 V1.heap.size 65 (.slice A6 rb.es.length c6) rb.es := own_sub oE9 fun x hx h => h.imp (fun h => h.elim .inl fun h => h.elim .inr fun h => by omega) id
        have oG9 : Own gnC M V2 V1.heap.size 82 (.slice A7 rb.gs.length c7) rb.gs := own_freeM free_gn oG9
        have hEi : ∀ x, (Value.slice A6 rb.es.length c6).ownBlock = some x → V1.heap.size ≤ x ∧ x < V2.heap.size := fun x hx => ⟨oE9.base x hx, oE9.lt x hx⟩
        have hGi : ∀ x, (Value.slice A7 rb.gs.length c7).ownBlock = some x → V1.heap.size ≤ x ∧ x < V2.heap.size := fun x hx => ⟨oG9.base x hx, oG9.lt x hx⟩
        replace k11 := k11.ext hb9
        have Hn : Hid (V1.heap.size ≤ V2.heap.size ∧ wo.heap.size ≤ V1.heap.size) := Lib.hid ⟨hb9.size, hbc.size⟩
        replace hbc := hbc.trans (hb9.mono hbc.size)
        clear hb9
        clear hS
        have hS := HSS.out _ hbc
        refine HK.out _ _ (fun _ => hS) ?_
        clear HK
        (refine anyD_light (i := 7) (v := ?_) rfl (by kernel_rfl) (by kernel_rfl) (by kernel_rfl) (by kernel_rfl) (by kernel_rfl) (fun _ _ _ h => h) (.inl ⟨by kernel_rfl, fun W9 hW9 => ?_⟩) hS ?_; rotate_left; · (obtain ⟨hw0, hw1, hw2, hw3, hw4, hw5, hw6, hw7, hw8, hw9, hw10, hw11⟩ := hW9; go_simp; rfl))
        (refine anyD_light (i := 8) (v := ?_) rfl (by kernel_rfl) (by kernel_rfl) (by kernel_rfl) (by kernel_rfl) (by kernel_rfl) (fun _ _ _ h => h) (.inl ⟨by kernel_rfl, fun W9 hW9 => ?_⟩) hS ?_; rotate_left; · (obtain ⟨hw0, hw1, hw2, hw3, hw4, hw5, hw6, hw7, hw8, hw9, hw10, hw11⟩ := hW9; go_simp; rfl))
        (refine anyD_light (i := 9) (v := ?_) rfl (by kernel_rfl) (by kernel_rfl) (by kernel_rfl) (by kernel_rfl) (by kernel_rfl) (fun _ _ _ h => h) (.inl ⟨by kernel_rfl, fun W9 hW9 => ?_⟩) hS ?_; rotate_left; · (obtain ⟨hw0, hw1, hw2, hw3, hw4, hw5, hw6, hw7, hw8, hw9, hw10, hw11⟩ := hW9; go_simp; rfl))
        go_simp
        refine anyD_one (i := 10) (by kernel_rfl) rfl rfl (fun K hK => ?_)
        have HK := Lib.hid hK
        clear hK
        unfold Oper.wp
        go_simp
        obtain ⟨V3, g10, hV, hgg10, hss10, k10, hal⟩ := box1 V2 #[.int .i64 0, .int .i64 0, .int .i64 0, .slice none 0 0, .slice none 0 0] 26
        rw [hV, hgg10]
        have Hg10 : Hid (V2.heap.size = g10 ∧ V3.heap.size = g10 + 1 ∧ wo.heap.size ≤ g10) := Lib.hid ⟨hgg10, hss10, by have := hbc.size; omega⟩
        clear hV hgg10 hss10
        replace k11 := k11.ext hal
        replace oE9 := oE9.ext hal
        replace oG9 := oG9.ext hal
        replace hbc := hbc.trans (hal.mono hbc.size)
        clear hal
        clear hS
        have hS := HSS.out _ hbc
        refine HK.out _ _ (fun _ => hS) ?_
        clear HK
        go_simp
        have hne : g10 ≠ g11 := by have := Hg10.out; have := Hg11.out; have := Hn.out; omega
        have Hfin := Lib.hid (fun W hW => ApAt.make (M := M) (wo := wo) (rb := rb) (W := W) (n1 := V1.heap.size) (n2 := V2.heap.size) hbc k10 k11 hne Hg10.out.2.2 Hg11.out.2.2 Hn.out.2 (by have := Hg10.out; have := Hg11.out; have := Hn.out; omega) (by have := Hg10.out; have := Hg11.out; have := Hn.out; omega) oE9 oG9 hEi hGi hW)
        have m0 := k10.cell 0; have m1 := k10.cell 1; have m2 := k10.cell 2; have m3 := k10.cell 3; have m4 := k10.cell 4; have x0 := k10.frozen 0; have x1 := k10.frozen 1; have x2 := k10.frozen 2; have x3 := k10.frozen 3; have x4 := k10.frozen 4; have xl := k10.lt
        have hTq := put5_turned V3 g10 (.int .i64 rb.nu) (.int .i64 rb.ns) (.int .i64 rb.hz) (.slice A6 rb.es.length c6) (.slice A7 rb.gs.length c7)
        obtain ⟨n0c, n1c, u0, u1, ul⟩ := (k11.turned hTq hne.symm).two
        have hbx := hbc.trans (hTq.rest _ Hg10.out.2.2)
        unfold put5 at *
        go_simp
        refine anyD_one (i := 12) (by kernel_rfl) rfl rfl (fun K hK => ?_)
        have HK := Lib.hid hK
        clear hK
        unfold Oper.wp
        go_simp
        refine HK.out _ _ (fun _ => HSS.out _ hbx) ?_
        clear HK
        go_simp
        refine anyD_one (i := 13) (by kernel_rfl) rfl rfl (fun K hK => ?_)
        have HK := Lib.hid hK
        clear hK
        unfold Oper.wp
        go_simp
        refine HK.out _ _ (fun h => by cases h) ?_
        clear HK hbx
        go_simp
        refine anyD_done (by kernel_rfl) ?_ _
        clear m0 m1 m2 m3 m4 x0 x1 x2 x3 x4 xl hTq n0c n1c u0 u1 ul k10 k11 oE9 oG9 hEi hGi hbc
        go_wp2
        go_meet
        exact ⟨g10, g11, _, _, rfl, rfl, Lib.hid (Hfin.out _ rfl)⟩
      · refine ⟨_, rfl, rfl, fun K hK => ?_⟩
        have HK := Lib.hid hK
        clear hK
        unfold Oper.wp
        go_simp
        obtain ⟨V2, g10, hV, hgg10, hss10, k10, hal⟩ := box1 V1 #[.int .i64 0, .int .i64 0, .int .i64 0, .slice none 0 0, .slice none 0 0] 26
        rw [hV, hgg10]
        have Hg10 : Hid (V1.heap.size = g10 ∧ V2.heap.size = g10 + 1 ∧ wo.heap.size ≤ g10) := Lib.hid ⟨hgg10, hss10, by have := hbc.size; omega⟩
        clear hV hgg10 hss10
        replace k11 := k11.ext hal
        replace hbc := hbc.trans (hal.mono hbc.size)
        clear hal
        clear hS
        have hS := HSS.out _ hbc
        refine HK.out _ _ (fun _ => hS) ?_
        clear HK
        go_simp
        refine anyD_one (i := 6) (by kernel_rfl) rfl rfl (fun K hK => ?_)
        have HK := Lib.hid hK
        clear hK
        unfold Oper.wp
        go_simp
        have hap2 := Hap.out V2 (fun x => M x ∨ (wo.heap.size ≤ x ∧ x < V2.heap.size)) _ _ (fun x hx => by have h9 := hbc.size; rcases hx with hx | hx; (have := hM x hx; omega); exact hx.2) _ _ (pl_read (HoE.out.ext hbc) hesM hEl (fun x hx => hx.imp id fun h => (show w.heap.size ≤ x by omega)) (HoG.out.ext hbc)) (pl_readG (HoG.out.ext hbc) hgsM hGl (fun x hx => hx.imp id fun h => (show w.heap.size ≤ x by omega))) (Hsf.out.ext hbc) (Hsb.out.ext hbc)
        refine hap2.mono ?_
        rintro e V3 ⟨esv, gsv, rfl, oE9, oG9, hb9⟩
        clear hap2
        obtain ⟨A6, c6, rfl, _, _⟩ := oE9.shape
        obtain ⟨A7, c7, rfl, _, _⟩ := oG9.shape
        have oE9 : Own entC (fun x => (M x ∨ (wo.heap.size ≤ x ∧ x < V2.heap.size) ∨ V3.heap.size ≤ x) ∨ (Value.slice A7 rb.gs.length c7).ownBlock = some x) V3 V2.heap.size 65 (.slice A6 rb.es.length c6) rb.es := own_sub oE9 fun x hx h => h.imp (fun h => h.elim .inl fun h => h.elim .inr fun h => by omega) id
        have oG9 : Own gnC M V3 V2.heap.size 82 (.slice A7 rb.gs.length c7) rb.gs := own_freeM free_gn oG9
        have hEi : ∀ x, (Value.slice A6 rb.es.length c6).ownBlock = some x → V2.heap.size ≤ x ∧ x < V3.heap.size := fun x hx => ⟨oE9.base x hx, oE9.lt x hx⟩
        have hGi : ∀ x, (Value.slice A7 rb.gs.length c7).ownBlock = some x → V2.heap.size ≤ x ∧ x < V3.heap.size := fun x hx => ⟨oG9.base x hx, oG9.lt x hx⟩
        replace k10 := k10.ext hb9
        replace k11 := k11.ext hb9
        have Hn : Hid (V2.heap.size ≤ V3.heap.size ∧ wo.heap.size ≤ V2.heap.size) := Lib.hid ⟨hb9.size, hbc.size⟩
        replace hbc := hbc.trans (hb9.mono hbc.size)
        clear hb9
        clear hS
        have hS := HSS.out _ hbc
        refine HK.out _ _ (fun _ => hS) ?_
        clear HK
        (refine anyD_light (i := 7) (v := ?_) rfl (by kernel_rfl) (by kernel_rfl) (by kernel_rfl) (by kernel_rfl) (by kernel_rfl) (fun _ _ _ h => h) (.inl ⟨by kernel_rfl, fun W9 hW9 => ?_⟩) hS ?_; rotate_left; · (obtain ⟨hw0, hw1, hw2, hw3, hw4, hw5, hw6, hw7, hw8, hw9, hw10, hw11⟩ := hW9; go_simp; rfl))
        (refine anyD_light (i := 8) (v := ?_) rfl (by kernel_rfl) (by kernel_rfl) (by kernel_rfl) (by kernel_rfl) (by kernel_rfl) (fun _ _ _ h => h) (.inl ⟨by kernel_rfl, fun W9 hW9 => ?_⟩) hS ?_; rotate_left; · (obtain ⟨hw0, hw1, hw2, hw3, hw4, hw5, hw6, hw7, hw8, hw9, hw10, hw11⟩ := hW9; go_simp; rfl))
        (refine anyD_light (i := 9) (v := ?_) rfl (by kernel_rfl) (by kernel_rfl) (by kernel_rfl) (by kernel_rfl) (by kernel_rfl) (fun _ _ _ h => h) (.inl ⟨by kernel_rfl, fun W9 hW9 => ?_⟩) hS ?_; rotate_left; · (obtain ⟨hw0, hw1, hw2, hw3, hw4, hw5, hw6, hw7, hw8, hw9, hw10, hw11⟩ := hW9; go_simp; rfl))
        go_simp
        have hne : g10 ≠ g11 := by have := Hg10.out; have := Hg11.out; have := Hn.out; omega
        have Hfin := Lib.hid (fun W hW => ApAt.make (M := M) (wo := wo) (rb := rb) (W := W) (n1 := V2.heap.size) (n2 := V3.heap.size) hbc k10 k11 hne Hg10.out.2.2 Hg11.out.2.2 Hn.out.2 (by have := Hg10.out; have := Hg11.out; have := Hn.out; omega) (by have := Hg10.out; have := Hg11.out; have := Hn.out; omega) oE9 oG9 hEi hGi hW)
        have m0 := k10.cell 0; have m1 := k10.cell 1; have m2 := k10.cell 2; have m3 := k10.cell 3; have m4 := k10.cell 4; have x0 := k10.frozen 0; have x1 := k10.frozen 1; have x2 := k10.frozen 2; have x3 := k10.frozen 3; have x4 := k10.frozen 4; have xl := k10.lt
        have hTq := put5_turned V3 g10 (.int .i64 rb.nu) (.int .i64 rb.ns) (.int .i64 rb.hz) (.slice A6 rb.es.length c6) (.slice A7 rb.gs.length c7)
        obtain ⟨n0c, n1c, u0, u1, ul⟩ := (k11.turned hTq hne.symm).two
        have hbx := hbc.trans (hTq.rest _ Hg10.out.2.2)
        unfold put5 at *
        go_simp
        refine anyD_one (i := 12) (by kernel_rfl) rfl rfl (fun K hK => ?_)
        have HK := Lib.hid hK
        clear hK
        unfold Oper.wp
        go_simp
        refine HK.out _ _ (fun _ => HSS.out _ hbx) ?_
        clear HK
        go_simp
        refine anyD_one (i := 13) (by kernel_rfl) rfl rfl (fun K hK => ?_)
        have HK := Lib.hid hK
        clear hK
        unfold Oper.wp
        go_simp
        refine HK.out _ _ (fun h => by cases h) ?_
        clear HK hbx
        go_simp
        refine anyD_done (by kernel_rfl) ?_ _
        clear m0 m1 m2 m3 m4 x0 x1 x2 x3 x4 xl hTq n0c n1c u0 u1 ul k10 k11 oE9 oG9 hEi hGi hbc
        go_wp2
        go_meet
        exact ⟨g10, g11, _, _, rfl, rfl, Lib.hid (Hfin.out _ rfl)⟩
  case rest =>
    obtain ⟨g10, g11, es', gs', rfl, rfl, hX⟩ := hcut
    clear hS
    obtain ⟨A6, c6, rfl, _, _⟩ := hX.out.oE.shape
    obtain ⟨A7, c7, rfl, _, _⟩ := hX.out.oG.shape
    have kpc := Hkp.out.ext hX.out.bel; have k9c := Hk9.out.ext hX.out.bel; have kRc := HkR.out.ext hX.out.bel
    have h10 := hX.out.h10; have h11 := hX.out.h11
    have hp10 : p ≠ g10 := by omega
    have hzc := hX.out.bel.size
    have HS9 := Lib.hid (show ∀ W, Blk W g10 26 #[.int .i64 rb.nu, .int .i64 rb.ns, .int .i64 rb.hz, .slice A6 rb.es.length c6, .slice A7 rb.gs.length c7] → W.cell? ⟨g10, 0, none⟩ = some (.int .i64 rb.nu) ∧ W.cell? ⟨g10, 1, none⟩ = some (.int .i64 rb.ns) ∧ W.cell? ⟨g10, 2, none⟩ = some (.int .i64 rb.hz) ∧ W.cell? ⟨g10, 3, none⟩ = some (.slice A6 rb.es.length c6) ∧ W.cell? ⟨g10, 4, none⟩ = some (.slice A7 rb.gs.length c7) from fun W k => ⟨k.cell 0, k.cell 1, k.cell 2, k.cell 3, k.cell 4⟩)
    go_wp2_with fail
    refine wp_region_D (fun W => W.cell? ⟨g10, 0, none⟩ = some (.int .i64 rb.nu) ∧ W.cell? ⟨g10, 1, none⟩ = some (.int .i64 rb.ns) ∧ W.cell? ⟨g10, 2, none⟩ = some (.int .i64 rb.hz) ∧ W.cell? ⟨g10, 3, none⟩ = some (.slice A6 rb.es.length c6) ∧ W.cell? ⟨g10, 4, none⟩ = some (.slice A7 rb.gs.length c7)) (fun j => j == 6 || j == 7 || j == 8 || j == 9) (by kernel_rfl) ?_
    change anyD _ _ _ _ _ _ _ _ _ (wc.drewN 1)
    have hbV := below_drewN' wc.heap.size wc 1
    generalize wc.drewN 1 = V0 at hbV ⊢
    have k10V := hX.out.k10.ext hbV
    have hS := HS9.out V0 k10V
    have kpV := kpc.ext hbV
    have x5 := kpV.frozen 5; have y5 := kpV.cell 5; have xl := kpV.lt
    (refine anyD_light (i := 0) (v := ?_) rfl (by kernel_rfl) (by kernel_rfl) (by kernel_rfl) (by kernel_rfl) (by kernel_rfl) (fun _ _ _ h => h) (.inl ⟨by kernel_rfl, fun W9 hW9 => ?_⟩) hS ?_; rotate_left; · (obtain ⟨hw0, hw1, hw2, hw3, hw4⟩ := hW9; go_simp; rfl))
    (refine anyD_light (i := 1) (v := ?_) rfl (by kernel_rfl) (by kernel_rfl) (by kernel_rfl) (by kernel_rfl) (by kernel_rfl) (fun _ _ _ h => h) (.inl ⟨by kernel_rfl, fun W9 hW9 => ?_⟩) hS ?_; rotate_left; · (obtain ⟨hw0, hw1, hw2, hw3, hw4⟩ := hW9; go_simp; rfl))
    (refine anyD_light (i := 2) (v := ?_) rfl (by kernel_rfl) (by kernel_rfl) (by kernel_rfl) (by kernel_rfl) (by kernel_rfl) (fun _ _ _ h => h) (.inl ⟨by kernel_rfl, fun W9 hW9 => ?_⟩) hS ?_; rotate_left; · (obtain ⟨hw0, hw1, hw2, hw3, hw4⟩ := hW9; go_simp; rfl))
    (refine anyD_light (i := 3) (v := ?_) rfl (by kernel_rfl) (by kernel_rfl) (by kernel_rfl) (by kernel_rfl) (by kernel_rfl) (fun _ _ _ h => h) (.inl ⟨by kernel_rfl, fun W9 hW9 => ?_⟩) hS ?_; rotate_left; · (obtain ⟨hw0, hw1, hw2, hw3, hw4⟩ := hW9; go_simp; rfl))
    (refine anyD_light (i := 4) (v := ?_) rfl (by kernel_rfl) (by kernel_rfl) (by kernel_rfl) (by kernel_rfl) (by kernel_rfl) (fun _ _ _ h => h) (.inl ⟨by kernel_rfl, fun W9 hW9 => ?_⟩) hS ?_; rotate_left; · (obtain ⟨hw0, hw1, hw2, hw3, hw4⟩ := hW9; go_simp; rfl))
    go_simp
    refine anyD_one (i := 5) (by kernel_rfl) rfl rfl (fun K hK => ?_)
    have HK := Lib.hid hK
    clear hK
    clear hS
    unfold Oper.wp
    go_simp
    have hT5 : Turned p V0 (V0.setCell ⟨p, 5, none⟩ (.bool false)) := (Turned.refl p V0).set 5 _
    have kp5 : Blk (V0.setCell ⟨p, 5, none⟩ (.bool false)) p 77 #[.int .i64 b.nu, .int .i64 b.ns, .int .i64 b.hz, .slice Ae b.es.length ce, .slice Ag b.gs.length cg, .bool false] := by simpa using kpV.set_ 5 (.bool false)
    have hS9 := HS9.out _ (k10V.turned hT5 hp10.symm)
    refine HK.out _ _ (fun _ => hS9) ?_
    clear HK
    have hS := hS9
    (refine anyD_light (i := 6) (v := ?_) rfl (by kernel_rfl) (by kernel_rfl) (by kernel_rfl) (by kernel_rfl) (by kernel_rfl) (fun _ _ _ h => h) (.inl ⟨by kernel_rfl, fun W9 hW9 => ?_⟩) hS ?_; rotate_left; · (obtain ⟨hw0, hw1, hw2, hw3, hw4⟩ := hW9; go_simp; rfl))
    go_simp
    refine anyD_one (i := 7) (by kernel_rfl) rfl rfl (fun K hK => ?_)
    have HK := Lib.hid hK
    clear hK
    unfold Oper.wp
    go_simp
    refine HK.out _ _ (fun h => by cases h) ?_
    clear HK
    go_simp
    refine anyD_one (i := 8) (by kernel_rfl) rfl rfl (fun K hK => ?_)
    have HK := Lib.hid hK
    clear hK
    unfold Oper.wp
    go_simp
    refine HK.out _ _ (fun h => by cases h) ?_
    clear HK
    go_simp
    refine anyD_one (i := 9) (by kernel_rfl) rfl rfl (fun K hK => ?_)
    have HK := Lib.hid hK
    clear hK
    have m0 := kp5.cell 0; have m1 := kp5.cell 1; have m2 := kp5.cell 2; have m3 := kp5.cell 3; have m4 := kp5.cell 4; have z0 := kp5.frozen 0; have z1 := kp5.frozen 1; have z2 := kp5.frozen 2; have z3 := kp5.frozen 3; have z4 := kp5.frozen 4; have zl := kp5.lt
    unfold Oper.wp
    go_simp
    refine HK.out _ _ (fun h => by cases h) ?_
    clear HK
    go_simp
    refine anyD_done (by kernel_rfl) ?_ _
    obtain ⟨W, hW⟩ : ∃ W, put5 (V0.setCell ⟨p, 5, none⟩ (.bool false)) p (.int .i64 rb.nu) (.int .i64 rb.ns) (.int .i64 rb.hz) (.slice A6 rb.es.length c6) (.slice A7 rb.gs.length c7) = W := ⟨_, rfl⟩
    have hT6 : Turned p V0 W := by rw [← hW]; exact hT5.trans (put5_turned _ p _ _ _ _ _)
    have kp6 : Blk W p 77 #[.int .i64 rb.nu, .int .i64 rb.ns, .int .i64 rb.hz, .slice A6 rb.es.length c6, .slice A7 rb.gs.length c7, .bool false] := by
      rw [← hW]
      unfold put5
      simpa using ((((kp5.set_ 0 (.int .i64 rb.nu)).set_ 1 (.int .i64 rb.ns)).set_ 2 (.int .i64 rb.hz)).set_ 3 (.slice A6 rb.es.length c6)).set_ 4 (.slice A7 rb.gs.length c7)
    unfold put5 at hW
    rw [hW]
    have oE6 := (hX.out.oE.ext hbV).turned hT6 (.inl hMp) (fun x hx e => by have h1 := hX.out.oE.base x hx; omega)
    have oG6 := (hX.out.oG.ext hbV).turned hT6 hMp (fun x hx e => by have h1 := hX.out.oG.base x hx; omega)
    have hbW : Below B w W := (hbBo.trans ((hX.out.bel.mono (by omega)).trans (hbV.mono (by omega)))).trans (hT6.rest B hBp)
    have hPl : PlAt M W B p rb false := ⟨hBp, hMp, _, _, kp6, own_lower oE6 (by omega), own_lower oG6 (by omega), fun x hx h => by have h1 := oE6.base x hx; have h2 := hM x h; omega, fun x hx h => by have h1 := oG6.base x hx; have h2 := hM x h; omega⟩
    have k9W := (k9c.ext hbV).turned hT6 hg9p
    have kRW := (kRc.ext hbV).turned hT6 hpg.symm
    have k11W := (hX.out.k11.ext hbV).turned hT6 (by omega)
    have hvW := ((Hvo.out.belowB (hX.out.bel.mono (by omega))).belowB (hbV.mono (by omega))).turned hT6 (show B ≤ p from hBp)
    have HPl := Lib.hid hPl; have HbW := Lib.hid hbW; have Hk11 := Lib.hid k11W; have HvW := Lib.hid hvW
    have hzW : n0 ≤ W.heap.size := by have h1 := hT6.size; have h2 := hbV.size; omega
    have HEW := (HEo.out.on (hX.out.bel.mono (by omega))).on ((hbV.mono (by omega)).trans (hT6.rest n0 (by omega)))
    have hfW : SlR fldC M0 W (.slice Af fl.length cf) fl := (((HsF.out.ext hX.out.bel).ext hbV).turned hT6 (.inr rfl)).zero
    have hbdW : SlR byteC M0 W (.slice Ab bdl.length cb) bdl := (((HsB.out.ext hX.out.bel).ext hbV).turned hT6 (.inr rfl)).zero
    have HO := Lib.hid (Hof.out W HEW hzW _ _ hfW hbdW)
    obtain ⟨_, rb1, _, _, _⟩ := kRW.two
    have q0 := k9W.cell 0; have q1 := k9W.cell 1; have q2 := k9W.cell 2; have q3 := k9W.cell 3; have q4 := k9W.cell 4; have q5 := k9W.cell 5; have q6 := k9W.cell 6
    have hz : ((0 : Int) != 0) = false := rfl
    clear hS hS9 k10V kpV kp5 kp6 oE6 oG6 hT6 hT5 hbW hPl k9W kRW k11W hvW HEW hfW hbdW hX kpc k9c kRc HS9 x5 y5 xl hbV hW
    go_wp2_with fail
    refine HO.out.mono ?_
    rintro e w11 ⟨v11, rfl, own11, hb11⟩
    obtain ⟨A11, c11, rfl, _, _⟩ := own11.shape
    have k11b := Hk11.out.ext hb11
    obtain ⟨u0, u1, _, _, _⟩ := k11b.two
    have hcA := run_convert_SlR (P := Tryz.prog) Tryz.underlying29 Tryz.underlying5 Tryz.underlying9 (own_bytes own11)
    have hcB := run_convert_SlR (P := Tryz.prog) Tryz.underlying29 Tryz.underlying5 Tryz.underlying9 (HvW.out.belowB (hb11.mono (by have := HbW.out.size; omega)))
    have HQ := Lib.hid (Tryz.bytes_Equal_strs _ _ (bs tx) (bs (67 :: rest)) w11 hcA hcB)
    have hPl2 := pl_ext HPl.out hb11
    have HPl2 := Lib.hid hPl2
    have Hb2 := Lib.hid (HbW.out.trans (hb11.mono (by have := HbW.out.size; omega)))
    have heq : ((bs tx).toList == (bs (67 :: rest)).toList) = true := by rw [bs_list, bs_list, Htx.out]; simp
    clear own11 hcA hcB k11b hPl2 hb11 q0 q1 q2 q3 q4 q5 q6
    go_wp2_with fail
    refine HQ.out.mono ?_
    rintro e w12 ⟨rfl, rfl⟩
    rw [heq]
    go_wp2_with (go_at_call 21; refine (failed_ok _ _ _).mono ?_; rintro e w13 ⟨rfl, hb13⟩)
    go_ret
    exact ⟨rfl, pl_ext HPl2.out hb13, Hb2.out.trans (hb13.mono (by have := Hb2.out.size; omega))⟩
end Go.Proofs.YtjamjkjmlckgeaaGreatDoor

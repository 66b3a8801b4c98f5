/-
  The reader of records: numbers, messages.
-/
import Derived.Test.YtjamjkjmlckgeaaGreatDoorF20
namespace Go.Proofs.YtjamjkjmlckgeaaGreatDoor
open Go.RowKit
set_option linter.unusedVariables false

set_option maxHeartbeats 2000000 in
theorem number_rd (M : Nat → Prop) (n0 : Nat) (w : World) (g : Nat) (n : Int) (r : List UInt8) (hE : Env n0 w) (hng : n0 ≤ g) (hn : -68719476736 ≤ n ∧ n ≤ 68719476736) (hR : RdAt M w g (Mb.numb n ++ r)) (hl : (Mb.numb n ++ r).length ≤ 100000000) :
    Calls Tryz.prog 53 #[.pointer (some ⟨g, 0, none⟩)] w fun e w' => e = .returned (.int .i64 n) ∧ RdAt M w' g r ∧ TurnedN g w w' := by
  have Hit := Lib.hid (item_rd M n0 w g (Lib.itoa n) r hE hng hR hl)
  have hil : (Lib.itoa n).length ≤ 18 := by
    unfold Lib.itoa
    split
    · rw [List.length_cons, Lib.decDigits_length]
      have := Mb.nDigits_le 11 n.natAbs (by omega) (by omega)
      omega
    · rw [Lib.decDigits_length]
      have := Mb.nDigits_le 11 n.toNat (by omega) (by omega)
      omega
  have Hat := Lib.hid (fun W => Tryz.strconv_Atoi (bs (Lib.itoa n)) n (by rw [bs_size]; exact hil) (by rw [bs_toList]; exact Mb.atoi_itoa n) W)
  have hgl := hR.lt
  clear hil hR hl
  go_enter Tryz.func53, Tryz.ntmps53
  go_wp2_with fail
  refine Hit.out.mono ?_
  rintro e w1 ⟨rfl, hR1, hT1⟩
  refine Hid.out ?_
  refine Lib.hid ?_
  go_wp2_with fail
  refine (Hat.out w1).mono ?_
  rintro e w2 ⟨rfl, t, hw2⟩
  have hb2 : Below w1.heap.size w1 w2 := hw2 ▸ bytesWorld_below w1 t
  clear hw2
  have hR2 := hR1.ext hb2
  have hT2 := hT1.below hb2
  obtain ⟨hMg, A, c, kb, hs⟩ := hR2
  obtain ⟨c0, c1, z0, z1, hl2⟩ := kb.two
  have hT3 : Turned g w2 (w2.setCell ⟨g, 1, none⟩ (.bool false)) := (Turned.refl g w2).set 1 _
  have kb3 : Blk (w2.setCell ⟨g, 1, none⟩ (.bool false)) g 120 #[.slice A r.length c, .bool false] := by simpa using kb.set_ 1 (.bool false)
  have hR3 : RdAt M (w2.setCell ⟨g, 1, none⟩ (.bool false)) g r := ⟨hMg, A, c, kb3, hs.turned hT3 hMg⟩
  have hT4 : TurnedN g w (w2.setCell ⟨g, 1, none⟩ (.bool false)) := hT2.trans (.of (Below.refl _ _) hT3)
  have HR3 := Lib.hid hR3; have HT4 := Lib.hid hT4
  clear hR1 hT1 hb2 hT2 hT3 kb3 hR3 hT4 kb hs Hit Hat
  go_wp2_with fail
  go_ret
  exact ⟨rfl, HR3.out, HT4.out⟩
theorem Own.growT {α : Type} {C : Codec α} {M : Nat → Prop} {w W : World} {B : Nat} {e : TypeId} {v : Value} {l : List α} {g : Nat} (hF : FreeC C) (h : Own C M w B e v l) (hT : TurnedN g w W) (hv : ∀ b, v.ownBlock = some b → b ≠ g) : Own C M W B e v l :=
  own_freeM hF (Own.turnedN (M := fun _ => True) (own_freeM hF h) hT trivial hv)
theorem Own.turnF {α : Type} {C : Codec α} {M : Nat → Prop} {w W : World} {B : Nat} {e : TypeId} {v : Value} {l : List α} {g : Nat} (hF : FreeC C) (h : Own C M w B e v l) (hT : Turned g w W) (hv : ∀ b, v.ownBlock = some b → b ≠ g) : Own C M W B e v l :=
  own_freeM hF (Own.turned (M := fun _ => True) (own_freeM hF h) hT trivial hv)
theorem slr_reM {M : Nat → Prop} {w : World} {b off n c : Nat} {l : List UInt8} (h : SlR byteC M0 w (.slice (some ⟨b, off, none⟩) n c) l) (hb : ¬ M b) : SlR byteC M w (.slice (some ⟨b, off, none⟩) n c) l := by
  obtain ⟨A, n', c', xs, hv, rfl, hc, hm, he, ha⟩ := h
  refine ⟨A, _, c', xs, hv, rfl, hc, hm, ⟨he.1, fun i hi => flat_byte.2 _ _ _ _ _ _ (he.2 i hi)⟩, fun h0 => ?_⟩
  obtain ⟨b', off', hA, _, h2, h3⟩ := ha h0
  injection hv with e1 _ _
  rw [hA] at e1
  cases e1
  exact ⟨b, off, hA, hb, h2, h3⟩
theorem TurnedN.low {g B : Nat} {w W W' : World} (h : TurnedN g w W) (hb : Below B W W') (hB : w.heap.size ≤ B) : TurnedN g w W' :=
  ⟨fun b h1 h2 => (hb.block b (Nat.lt_of_lt_of_le h1 hB)).trans (h.block b h1 h2), Nat.le_trans h.size hb.size, fun B' h1 h2 => (h.rest B' h1 h2).trans (hb.mono (Nat.le_trans h2 hB))⟩
theorem rd_grown {M : Nat → Prop} {w w' : World} {g : Nat} {r : List UInt8} {row : Option Nat} (h : RdAt M w g r) (hg : w.grownBy w' row) (hrow : ∀ x, row = some x → M x) (hne : some g ≠ row) : RdAt M w' g r := by
  obtain ⟨h1, A, c, h2, h3⟩ := h
  exact ⟨h1, A, c, h2.grown hg hne, h3.keep (fun b hb hn => hg.block b hb fun e => hn (hrow b e.symm)) hg.size⟩
set_option maxRecDepth 100000 in
set_option maxHeartbeats 4000000 in
theorem msg_rd (M Mt : Nat → Prop) (n0 : Nat) (w : World) (g : Nat) (m : Mb.Msg) (r : List UInt8) (hE : Env n0 w) (hng : n0 ≤ g) (hM : ∀ x, M x → x < w.heap.size) (hm : Mb.MsgIn m) (hR : RdAt Mt w g (Mb.msgB m ++ r)) (hl : (Mb.msgB m ++ r).length ≤ 100000000) :
    Calls Tryz.prog 54 #[.pointer (some ⟨g, 0, none⟩)] w fun e w' => ∃ f b, e = .returned (.agg #[f, b]) ∧ SlR fldC M w' f m.1 ∧ SlR byteC M w' b m.2 ∧ RdAt Mt w' g r ∧ TurnedN g w w' := by
  obtain ⟨fl, bd⟩ := m
  obtain ⟨hm1, hm2⟩ := hm
  dsimp only at hm1 hm2
  have hmsg : Mb.msgB (fl, bd) ++ r = Mb.numb (fl.length : Int) ++ (fl.flatMap Mb.fldB ++ (Mb.item bd ++ r)) := by
    show (Mb.numb (fl.length : Int) ++ (fl.flatMap Mb.fldB ++ Mb.item bd)) ++ r = _
    simp only [List.append_assoc]
  rw [hmsg] at hR hl
  clear hmsg
  have hgl := hR.lt
  have hMg := hR.1
  obtain ⟨w0, g2, g3, hw0, hg2, hg3, hsz0, k2, k3, hb0⟩ := box2 w #[.slice none 0 0, .slice none 0 0] 45 #[.slice none 0 0, .slice none 0 0] 45
  obtain ⟨M1, hM1⟩ : ∃ M1 : Nat → Prop, M1 = MB Mt w.heap.size := ⟨_, rfl⟩
  obtain ⟨M2, hM2⟩ : ∃ M2 : Nat → Prop, M2 = fun x => M x ∨ x = g2 ∨ x = g3 := ⟨_, rfl⟩
  have hMM : ∀ x, Mt x → M1 x := fun x hx => by rw [hM1]; exact .inl hx
  have hMnew : ∀ x, w.heap.size ≤ x → M1 x := fun x hx => by rw [hM1]; exact .inr hx
  have hM12 : M1 g2 := hMnew _ (by omega)
  have hM13 : M1 g3 := hMnew _ (by omega)
  have hM22 : M2 g2 := by rw [hM2]; exact .inr (.inl rfl)
  have hM23 : M2 g3 := by rw [hM2]; exact .inr (.inr rfl)
  have hM2M : ∀ x, M x → M2 x := fun x hx => by rw [hM2]; exact .inl hx
  have hM2lt : ∀ x, M2 x → x < w0.heap.size := by
    intro x hx
    rw [hM2] at hx
    rcases hx with hx | hx | hx
    · have := hM x hx; omega
    · omega
    · omega
  have hR0 : RdAt M1 w0 g (Mb.numb (fl.length : Int) ++ (fl.flatMap Mb.fldB ++ (Mb.item bd ++ r))) := by
    obtain ⟨_, A, c, h2, h3⟩ := hR
    refine ⟨hMM g hMg, A, c, h2.ext hb0, ?_⟩
    rw [hM1]
    exact h3.toMB.ext hb0
  have hn2g : g2 ≠ g := by omega
  have hn3g : g3 ≠ g := by omega
  have hn23 : g2 ≠ g3 := by omega
  have hgg2 : g < g2 := by omega
  have HN := Lib.hid (number_rd M1 n0 w0 g (fl.length : Int) _ (hE.ext hb0 (by omega)) hng (by omega) hR0 hl)
  have hlb : (fl.flatMap Mb.fldB ++ (Mb.item bd ++ r)).length ≤ 100000000 := by rw [List.length_append] at hl; omega
  have Hlb := Lib.hid hlb
  have hE0 := hE.ext hb0 (by omega)
  have hg3l : g3 < w0.heap.size := k3.lt
  clear hsz0 hM1 hM2 hR hR0 hl hlb
  go_enter Tryz.func54, Tryz.ntmps54
  go_wp2_with fail
  refine HN.out.mono ?_
  rintro e w1 ⟨rfl, hR1, hT1⟩
  have k21 := k2.turnedN hT1 hn2g; have k31 := k3.turnedN hT1 hn3g
  have hz1 := hT1.size
  clear HN k2 k3
  refine Hid.out ?_
  refine Lib.hid ?_
  go_wp2_with fail
  go_loopw [4] (fun i wr => ∃ (k : Nat) (A : Option Addr) (c : Nat) (L : List Mb.Fld), k ≤ fl.length ∧ i = .int .i64 ((fl.length - k : Nat) : Int) ∧ Hid (L = fl.take k) ∧ Hid (RdAt M1 wr g ((fl.drop k).flatMap Mb.fldB ++ (Mb.item bd ++ r))) ∧ Blk wr g2 45 #[.slice none 0 0, .slice none 0 0] ∧ Blk wr g3 45 #[.slice A L.length c, .slice none 0 0] ∧ Own fldC M0 wr w0.heap.size 108 (.slice A L.length c) L ∧ Hid (Env n0 wr) ∧ w0.heap.size ≤ wr.heap.size ∧ Hid (TurnedN g w wr)) (fun i _ => (intOf i).toNat)
  case atStart => exact ⟨0, none, 0, [], Nat.zero_le _, rfl, Lib.hid rfl, Lib.hid (by simpa using hR1), k21, k31, Own.nil _ _ _ _ _, Lib.hid (hE0.on (hT1.rest n0 hng (by have := hb0.size; omega))), hz1, Lib.hid ((TurnedN.fromBelow hb0).trans hT1)⟩
  case round =>
    obtain ⟨k, A, c, L, hk, rfl, hL, hRk, kr2, kr3, own, hEk, hzk, hTk⟩ := hrel
    clear k21 k31 hR1 hT1 hz1
    obtain ⟨hMgk, AR, cR, kbR, hsR⟩ := hRk.out
    obtain ⟨_, rb1, _, _, _⟩ := kbR.two
    have hRkk := hRk.out
    clear kbR hsR hRk
    by_cases hlt : k < fl.length
    · have hpos : (0 : Int) < ((fl.length - k : Nat) : Int) := by omega
      have hdrop : (fl.drop k).flatMap Mb.fldB ++ (Mb.item bd ++ r) = Mb.item fl[k].1 ++ (Mb.item fl[k].2 ++ ((fl.drop (k + 1)).flatMap Mb.fldB ++ (Mb.item bd ++ r))) := by
        rw [List.drop_eq_getElem_cons hlt, List.flatMap_cons]
        show ((Mb.item fl[k].1 ++ Mb.item fl[k].2) ++ _) ++ _ = _
        simp only [List.append_assoc]
      have hlk : (Mb.item fl[k].1 ++ (Mb.item fl[k].2 ++ ((fl.drop (k + 1)).flatMap Mb.fldB ++ (Mb.item bd ++ r)))).length ≤ 100000000 := by
        rw [← hdrop]
        have h9 := Hlb.out
        conv at h9 => lhs; rw [← List.take_append_drop k fl, List.flatMap_append]
        simp only [List.length_append] at h9 ⊢
        omega
      rw [hdrop] at hRkk
      have hfs := fld_size (List.getElem_mem hlt)
      have hcat : fl.take (k + 1) = fl.take k ++ [fl[k]] := List.take_succ_eq_append_getElem hlt
      have Hfx := Lib.hid (show fl[k] = (fl[k].1, fl[k].2) from rfl)
      obtain ⟨n1, hn1⟩ : ∃ x, x = fl[k].1 := ⟨_, rfl⟩
      obtain ⟨n2, hn2⟩ : ∃ x, x = fl[k].2 := ⟨_, rfl⟩
      rw [← hn1, ← hn2] at hRkk hlk hfs
      have Hcat := Lib.hid (show fl.take (k + 1) = fl.take k ++ [(n1, n2)] by rw [hcat, hn1, hn2])
      have Hlk := Lib.hid hlk
      have HRk := Lib.hid hRkk
      have hLlen : L.length = k := by rw [hL.out, List.length_take]; omega
      have HLl := Lib.hid hLlen
      clear hn1 hn2 hcat hdrop hlk hRkk hLlen Hfx
      have HS := Lib.hid (show ∀ W, Below wr.heap.size wr W → W.cell? ⟨g3, 0, none⟩ = some (.slice A L.length c) from fun W hW => (kr3.ext hW).cell 0)
      go_wp2_with fail
      have hownx : ∀ x, (Value.slice A L.length c).ownBlock = some x → x ≠ g := fun x hx e => by have h1 := own.base x hx; omega
      have hownx2 : ∀ x, (Value.slice A L.length c).ownBlock = some x → x ≠ g2 := own_ne_blk own kr2 (by decide)
      have hownx3 : ∀ x, (Value.slice A L.length c).ownBlock = some x → x ≠ g3 := own_ne_blk own kr3 (by decide)
      have hzw : w.heap.size ≤ w0.heap.size := hb0.size
      have hown1 : ∀ x, (Value.slice A L.length c).ownBlock = some x → M1 x := fun x hx => hMnew x (by have h1 := own.base x hx; omega)
      refine wp_region_D (fun W => W.cell? ⟨g3, 0, none⟩ = some (.slice A L.length c)) (fun j => j == 9 || j == 10) (by kernel_rfl) ?_
      change anyD _ _ _ _ _ _ _ _ _ (wr.drewN 1)
      have hbV := below_drewN' wr.heap.size wr 1
      generalize wr.drewN 1 = V0 at hbV ⊢
      have hS := HS.out V0 hbV
      (refine anyD_light (i := 0) (v := ?_) rfl (by kernel_rfl) (by kernel_rfl) (by kernel_rfl) (by kernel_rfl) (by kernel_rfl) (fun _ _ _ h => h) (.inl ⟨by kernel_rfl, fun W9 hW9 => ?_⟩) hS ?_; rotate_left; · (have hw0 := hW9; go_simp; rfl))
      (refine anyD_light (i := 1) (v := ?_) rfl (by kernel_rfl) (by kernel_rfl) (by kernel_rfl) (by kernel_rfl) (by kernel_rfl) (fun _ _ _ h => h) (.inl ⟨by kernel_rfl, fun W9 hW9 => ?_⟩) hS ?_; rotate_left; · (have hw0 := hW9; go_simp; rfl))
      (refine anyD_light (i := 2) (v := ?_) rfl (by kernel_rfl) (by kernel_rfl) (by kernel_rfl) (by kernel_rfl) (by kernel_rfl) (fun _ _ _ h => h) (.inl ⟨by kernel_rfl, fun W9 hW9 => ?_⟩) hS ?_; rotate_left; · (have hw0 := hW9; go_simp; rfl))
      (refine anyD_light (i := 4) (v := ?_) rfl (by kernel_rfl) (by kernel_rfl) (by kernel_rfl) (by kernel_rfl) (by kernel_rfl) (fun _ _ _ h => h) (.inl ⟨by kernel_rfl, fun W9 hW9 => ?_⟩) hS ?_; rotate_left; · (have hw0 := hW9; go_simp; rfl))
      go_simp
      refine anyD_one (i := 3) (by kernel_rfl) rfl rfl (fun K hK => ?_)
      have HK := Lib.hid hK
      clear hK
      clear hS
      unfold Oper.wp
      go_simp
      refine (item_rd M1 n0 V0 g n1 _ (hEk.out.ext hbV (by omega)) hng (HRk.out.ext hbV) Hlk.out).mono ?_
      rintro e V1 ⟨rfl, hR1, hT1⟩
      have k31 := (kr3.ext hbV).turnedN hT1 hn3g
      have k21 := (kr2.ext hbV).turnedN hT1 hn2g
      have own1 := (own.ext hbV).growT free_fld hT1 (hownx)
      have hz1 : wr.heap.size ≤ V1.heap.size := Nat.le_trans hbV.size hT1.size
      have hE1 := (hEk.out.ext hbV (by omega)).on (hT1.rest n0 hng (by have := hbV.size; omega))
      have hTT1 := (TurnedN.fromBelow hbV).trans hT1
      have hS := k31.cell 0
      refine HK.out _ _ (fun _ => hS) ?_
      clear HK
      go_simp
      refine anyD_one (i := 5) (by kernel_rfl) rfl rfl (fun K hK => ?_)
      have HK := Lib.hid hK
      clear hK
      clear hS
      unfold Oper.wp
      go_simp
      refine (item_rd M1 n0 V1 g n2 _ hE1 hng hR1 (by have := Hlk.out; rw [List.length_append] at this; omega)).mono ?_
      rintro e V2 ⟨rfl, hR2, hT2⟩
      have k32 := k31.turnedN hT2 hn3g
      have k22 := k21.turnedN hT2 hn2g
      have own2 := own1.growT free_fld hT2 hownx
      have hz2 : wr.heap.size ≤ V2.heap.size := Nat.le_trans hz1 hT2.size
      have hE2 := hE1.on (hT2.rest n0 hng (by omega))
      have hTT2 := hTT1.trans hT2
      have hS := k32.cell 0
      refine HK.out _ _ (fun _ => hS) ?_
      clear HK
      (refine anyD_light (i := 6) (v := ?_) rfl (by kernel_rfl) (by kernel_rfl) (by kernel_rfl) (by kernel_rfl) (by kernel_rfl) (fun _ _ _ h => h) (.inl ⟨by kernel_rfl, fun W9 hW9 => ?_⟩) hS ?_; rotate_left; · (have hw0 := hW9; go_simp; rfl))
      go_simp
      refine anyD_one (i := 7) (by kernel_rfl) rfl rfl (fun K hK => ?_)
      have HK := Lib.hid hK
      clear hK
      clear hS
      unfold Oper.wp
      go_simp
      have xr : SlR fldC (fun x => M0 x ∨ (Value.slice A L.length c).ownBlock = some x) (V2.alloc (.cells #[.string (bs n1), .string (bs n2)] 108)) (.slice (some ⟨V2.heap.size, 0, none⟩) 1 1) [(n1, n2)] := SlR.built (C := fldC) (cs := [.string (bs n1), .string (bs n2)]) 108 ⟨[.string (bs n1)], [.string (bs n2)], rfl, ⟨rfl, by dsimp only; unfold maxLen; omega⟩, ⟨rfl, by dsimp only; unfold maxLen; omega⟩⟩ fun x hx => hx.elim (fun h => h.elim) fun h => own2.lt x h
      have hal : Below V2.heap.size V2 (V2.alloc (.cells #[.string (bs n1), .string (bs n2)] 108)) := (Below.refl _ _).alloc (Nat.le_refl _) _
      generalize hV3 : V2.alloc (.cells #[.string (bs n1), .string (bs n2)] 108) = V3 at xr hal ⊢
      have k33 := k32.ext hal
      have k23 := k22.ext hal
      have own3 := own2.ext hal
      have hz3 : wr.heap.size ≤ V3.heap.size := Nat.le_trans hz2 hal.size
      have hR3 := hR2.ext hal
      have hE3 := hE2.ext hal (by omega)
      have hTT3 := hTT2.below hal
      have hS := k33.cell 0
      refine HK.out _ _ (fun _ => hS) ?_
      clear HK
      go_simp
      refine anyD_one (i := 8) (by kernel_rfl) rfl rfl (fun K hK => ?_)
      have HK := Lib.hid hK
      clear hK
      clear hS
      refine wp_append_Own fldC (M := M0) (v := .slice A L.length c) (l := L) (l' := [(n1, n2)]) TFlds (.tmp 19) (.tmp 25) rfl rfl own3 rfl xr (by have := HLl.out; simp only [maxLen, List.length_cons, List.length_nil]; omega) (by have := HLl.out; simp only [List.length_cons, List.length_nil]; omega) (by omega) ?_
      intro A4 c4 L4 V4 hL4 own4 hbl4 hgr4 hor4
      have k34 := k33.grown hgr4 (fun e => hownx3 g3 e.symm rfl)
      have k24 := k23.grown hgr4 (fun e => hownx2 g2 e.symm rfl)
      have hb34 : Below w0.heap.size V3 V4 := hbl4
      have hz4 : wr.heap.size ≤ V4.heap.size := Nat.le_trans hz3 hgr4.size
      have hR4 := rd_grown hR3 hgr4 hown1 (fun e => hownx g e.symm rfl)
      have hE4 := hE3.on (hb34.mono (by omega))
      have hTT4 : TurnedN g w V4 := (hTk.out.trans hTT3).low hb34 hb0.size
      have hS := k34.cell 0
      refine HK.out _ _ (fun _ => hS) ?_
      clear HK
      (refine anyD_light (i := 9) (v := ?_) rfl (by kernel_rfl) (by kernel_rfl) (by kernel_rfl) (by kernel_rfl) (by kernel_rfl) (fun _ _ _ h => h) (.inl ⟨by kernel_rfl, fun W9 hW9 => ?_⟩) hS ?_; rotate_left; · (have hw0 := hW9; go_simp; rfl))
      go_simp
      refine anyD_one (i := 10) (by kernel_rfl) rfl rfl (fun K hK => ?_)
      have HK := Lib.hid hK
      clear hK
      have x0 := k34.frozen 0; have xl := k34.lt; have y0 := k34.cell 0
      unfold Oper.wp
      go_simp
      refine HK.out _ _ (fun h => by cases h) ?_
      clear HK
      go_simp
      refine anyD_done (by kernel_rfl) ?_ _
      have hT5 : Turned g3 V4 (V4.setCell ⟨g3, 0, none⟩ (.slice A4 L4.length c4)) := (Turned.refl g3 V4).set 0 _
      have k35 : Blk (V4.setCell ⟨g3, 0, none⟩ (.slice A4 L4.length c4)) g3 45 #[.slice A4 L4.length c4, .slice none 0 0] := by simpa using k34.set_ 0 (.slice A4 L4.length c4)
      have k25 := k24.turned hT5 hn23
      have own5 := own4.turnF free_fld hT5 (own_ne_blk own4 k34 (by decide))
      have hR5 := hR4.turned hT5 hM13 (Ne.symm hn3g)
      have hE5 := hE4.on (hT5.rest n0 (by omega))
      have hTT5 : TurnedN g w (V4.setCell ⟨g3, 0, none⟩ (.slice A4 L4.length c4)) := hTT4.low (hT5.rest w.heap.size (by omega)) (Nat.le_refl _)
      have hz5 : w0.heap.size ≤ (V4.setCell ⟨g3, 0, none⟩ (.slice A4 L4.length c4)).heap.size := by have h1 := hT5.size; omega
      generalize V4.setCell ⟨g3, 0, none⟩ (.slice A4 L4.length c4) = V5 at k35 k25 own5 hR5 hE5 hTT5 hz5 ⊢
      have HL4 := Lib.hid (show L4 = fl.take (k + 1) by rw [hL4.out, hL.out, Hcat.out])
      have HR5 := Lib.hid hR5; have HE5 := Lib.hid hE5; have HT5 := Lib.hid hTT5
      clear hT5 hL4 hR5 hE5 hTT5 hR4 hE4 hTT4 k34 k24 own4 k33 k23 own3 xr hR3 hE3 hTT3 hbl4 hgr4 hor4 HS hS
      have hdec : (((fl.length - k : Nat) : Int) - 1) = ((fl.length - (k + 1) : Nat) : Int) := by omega
      go_wp2_with fail
      go_roundw
      case rel => exact ⟨k + 1, A4, c4, L4, by omega, by first | rfl | (rw [← hdec]) | (simp only [← hdec]), HL4, HR5, k25, k35, own5, HE5, hz5, HT5⟩
      case measure => simp [intOf]; omega
    · have hk2 : k = fl.length := by omega
      subst hk2
      have hpos : ¬ (0 : Int) < ((fl.length - fl.length : Nat) : Int) := by omega
      rw [List.drop_length, List.flatMap_nil, List.nil_append] at hRkk
      have HI := Lib.hid (item_rd M1 n0 wr g bd r hEk.out hng hRkk (by have := Hlb.out; rw [List.length_append] at this; omega))
      have hLf : L = fl := by rw [hL.out, List.take_of_length_le (Nat.le_refl _)]
      have HLf := Lib.hid hLf
      clear hL hRkk hLf
      go_wp2_with fail
      refine HI.out.mono ?_
      rintro e w5 ⟨rfl, hR5, hT5⟩
      obtain ⟨cx, w6, hrun, hcx1, hcx2, hs6, ⟨mk, hmk, hbm⟩, hb6⟩ := run_bytes_of (P := Tryz.prog) w5 9 29 5 bd (by unfold maxLen; omega) Tryz.underlying9 Tryz.underlying29 Tryz.underlying5
      have k36 := (kr3.turnedN hT5 hn3g).ext hb6
      have k26 := (kr2.turnedN hT5 hn2g).ext hb6
      have hownx : ∀ x, (Value.slice A L.length c).ownBlock = some x → x ≠ g := fun x hx e => by have h1 := own.base x hx; omega
      have own6 := (own.growT free_fld hT5 hownx).ext hb6
      have hR6 := hR5.ext hb6
      have hTT6 := (hTk.out.trans hT5).below hb6
      have hz6 : w0.heap.size ≤ w6.heap.size := by have h1 := hT5.size; have h2 := hb6.size; omega
      have hz5 : w0.heap.size ≤ w5.heap.size := by have h1 := hT5.size; omega
      obtain ⟨b5, hb5⟩ : ∃ x, x = w5.heap.size := ⟨_, rfl⟩
      rw [← hb5] at hs6 hrun hz5
      clear hb5
      have y1 := k36.cell 1; have x1 := k36.frozen 1; have xl := k36.lt
      have hT7 : Turned g3 w6 (w6.setCell ⟨g3, 1, none⟩ (.slice (some ⟨b5, 0, none⟩) bd.length cx)) := (Turned.refl g3 w6).set 1 _
      have k37 : Blk (w6.setCell ⟨g3, 1, none⟩ (.slice (some ⟨b5, 0, none⟩) bd.length cx)) g3 45 #[.slice A L.length c, .slice (some ⟨b5, 0, none⟩) bd.length cx] := by simpa using k36.set_ 1 _
      have hs7 : SlR byteC M2 (w6.setCell ⟨g3, 1, none⟩ (.slice (some ⟨b5, 0, none⟩) bd.length cx)) (.slice (some ⟨b5, 0, none⟩) bd.length cx) bd := (slr_reM hs6 (fun h => by have := hM2lt _ h; omega)).turned hT7 hM23
      have k27 := k26.turned hT7 hn23
      have own7 := own6.turnF free_fld hT7 (own_ne_blk own6 k36 (by decide))
      have hR7 := hR6.turned hT7 hM13 (Ne.symm hn3g)
      have hzw : w.heap.size ≤ w0.heap.size := hb0.size
      have hTT7 := hTT6.low (hT7.rest w.heap.size (by omega)) (Nat.le_refl _)
      have hzz7 : w0.heap.size ≤ (w6.setCell ⟨g3, 1, none⟩ (.slice (some ⟨b5, 0, none⟩) bd.length cx)).heap.size := by have := hT7.size; omega
      generalize hw7 : w6.setCell ⟨g3, 1, none⟩ (.slice (some ⟨b5, 0, none⟩) bd.length cx) = w7 at k37 hs7 k27 own7 hR7 hTT7 hzz7
      obtain ⟨p0, p1, p2, p3, p4⟩ := k37.two
      obtain ⟨q0, q1, q2, q3, q4⟩ := k27.two
      obtain ⟨e0, e1⟩ := k27.put2 (.slice A L.length c) (.slice (some ⟨b5, 0, none⟩) bd.length cx)
      have hT8 : Turned g2 w7 ((w7.setCell ⟨g2, 0, none⟩ (.slice A L.length c)).setCell ⟨g2, 1, none⟩ (.slice (some ⟨b5, 0, none⟩) bd.length cx)) := ((Turned.refl g2 w7).set 0 _).set 1 _
      have hs8 := hs7.turned hT8 hM22
      have own8 := own7.turnF free_fld hT8 (own_ne_blk own7 k27 (by decide))
      have hR8 := hR7.turned hT8 hM12 (Ne.symm hn2g)
      have hTT8 := hTT7.low (hT8.rest w.heap.size (by omega)) (Nat.le_refl _)
      have Hs8 := Lib.hid hs8; have Ho8 := Lib.hid own8; have HR8 := Lib.hid hR8; have HT8 := Lib.hid hTT8
      clear hs7 own7 hR7 hTT7 hT8 hs8 own8 hR8 hTT8 hT7 k37 k27 own6 hR6 hTT6 hs6 hR5 hT5 hbm HI own kr2 kr3
      refine Hid.out ?_
      refine Lib.hid ?_
      go_wp2_with fail
      refine bodyPost_ret (v := .agg #[.slice A L.length c, .slice (some ⟨b5, 0, none⟩) bd.length cx]) (by simp [results, Tryz.results54, go_sem, e0, e1]) rfl ⟨_, _, rfl, ?_, ?_, ?_, HT8.out⟩
      · rw [← HLf.out]; exact own_freeR free_fld Ho8.out fun x hx => hM2lt x (hM2M x hx)
      · exact Hs8.out.sub fun x _ hx => hM2M x hx
      · obtain ⟨_, A9, c9, h2, h3⟩ := HR8.out
        exact ⟨hMg, A9, c9, h2, h3.sub fun x _ hx => hMM x hx⟩
end Go.Proofs.YtjamjkjmlckgeaaGreatDoor

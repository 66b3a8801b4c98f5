/-
  The writer of records: messages; the records of changes, of messages, of mailboxes.
-/
import Derived.Test.YtjamjkjmlckgeaaGreatDoorF16
namespace Go.Proofs.YtjamjkjmlckgeaaGreatDoor
open Go.RowKit
set_option linter.unusedVariables false

theorem SlR.belowB {α : Type} {C : Codec α} {B : Nat} {w w' : World} {v : Value} {l : List α} (h : SlR C (fun x => B ≤ x) w v l) (hb : Below B w w') : SlR C (fun x => B ≤ x) w' v l := h.keep (fun b _ hn => hb.block b (Nat.lt_of_not_le hn)) hb.size
theorem SlR.fromB {α : Type} {C : Codec α} {w : World} {v : Value} {l : List α} (h : SlR C M0 w v l) : SlR C (fun x => w.heap.size ≤ x) w v l := h.sub fun b hb hm => by omega
/-- sizes of what is written -/
def MsgSz (m : Mb.Msg) : Prop := m.1.length ≤ 1000000 ∧ (∀ x ∈ m.1, x.1.length ≤ 80000000 ∧ x.2.length ≤ 80000000) ∧ m.2.length ≤ 80000000
set_option maxRecDepth 100000 in
set_option maxHeartbeats 4000000 in
theorem wmsg_ok (n0 : Nat) (w : World) (B g : Nat) (l : List UInt8) (f bd : Value) (m : Mb.Msg) (hE : Env n0 w) (hn : n0 ≤ B) (hW : WrO w B g l) (hf : SlR fldC (fun x => B ≤ x) w f m.1) (hb : SlR byteC (fun x => B ≤ x) w bd m.2) (hz : MsgSz m) (hl : l.length + (Mb.msgB m).length ≤ 90000000) :
    Calls Tryz.prog 63 #[.pointer (some ⟨g, 0, none⟩), .agg #[f, bd]] w fun e w' => e = .returned (.tuple #[]) ∧ WrO w' B g (l ++ Mb.msgB m) ∧ Below B w w' ∧ Spared g w w' := by
  obtain ⟨fl, bdl⟩ := m
  obtain ⟨hz1, hz2, hz3⟩ := hz
  dsimp only at hf hb hz1 hz2 hz3
  obtain ⟨Af, cf, rfl, hfc, hfm⟩ := hf.form
  obtain ⟨Ab, cb, rfl, hbc, hbm⟩ := hb.form
  have hgl : g < w.heap.size := (WrX.glt (.inl hW))
  have hBg := hW.1
  have hmsg : Mb.msgB (fl, bdl) = Mb.numb (fl.length : Int) ++ (fl.flatMap Mb.fldB ++ Mb.item bdl) := rfl
  have hlen1 : l.length + (Mb.numb (fl.length : Int)).length + (fl.flatMap Mb.fldB).length + (Mb.item bdl).length ≤ 90000000 := by
    rw [hmsg, List.length_append, List.length_append] at hl
    omega
  obtain ⟨w1, g1, hw1, hg1, hsz1, k1, hb1⟩ := box1 w #[.slice Af fl.length cf, .slice Ab bdl.length cb] 45
  obtain ⟨w2, q, hw2, hq2, hsz2, k2, hb2⟩ := box1 w1 #[.int .i64 (fl.length : Int)] 3
  have hbw1 : Below B w w1 := hb1.mono (by omega)
  have hbw2 : Below B w w2 := hbw1.trans (hb2.mono (by omega))
  have Hnum := Lib.hid (numbers_ok n0 w2 B g q l [(fl.length : Int)] (hE.ext hbw2 hn) hn (.inl ((hW.ext hb1).ext hb2)) k2 (by simp) (by simp) (by intro n hnn; rw [List.mem_singleton] at hnn; subst hnn; omega) (by
    have : Mb.numsB [(fl.length : Int)] = Mb.numb (fl.length : Int) := by simp [Mb.numsB]
    rw [this]; omega))
  obtain ⟨d0, d1, _, _, _⟩ := k1.two
  have k12 := k1.ext hb2
  have hne1 : g1 ≠ g := by omega
  have Hlen := Lib.hid hlen1
  have Hmsg := Lib.hid hmsg
  have sp2 : Spared g w w2 := ((Lib.OthersKept.refl _ _ w).below hb1).below hb2
  clear hsz1 hsz2 hW hmsg hl hlen1
  go_enter Tryz.func63, Tryz.ntmps63
  go_wp2_with (go_at_call 62; refine Hnum.out.mono ?_; rintro e w3 ⟨rfl, hO3, hb3, hs3⟩; refine Hid.out ?_)
  have k3 := k12.spared hs3 hne1 (by decide)
  have hbw3 := hbw2.trans hb3
  have sp3 := Lib.hid (Lib.OthersKept.trans sp2 hs3)
  have HO3 := Lib.hid (show WrO w3 B g (l ++ Mb.numb (fl.length : Int)) by
    have : Mb.numsB [(fl.length : Int)] = Mb.numb (fl.length : Int) := by simp [Mb.numsB]
    rw [this] at hO3; exact hO3)
  obtain ⟨d0, d1, _, _, _⟩ := k3.two
  have hBw3 : B ≤ w3.heap.size := by have := hbw3.size; omega
  clear Hnum k1 k2 k12 hw1 hw2 hb1 hb2 hbw1 hbw2 hb3 hs3 hO3 sp2
  refine Lib.hid ?_
  go_wp2_with fail
  go_loopw [15] (fun i wr => ∃ k : Nat, k ≤ fl.length ∧ i = .int .i64 (k : Int) ∧ Hid (WrO wr B g (l ++ Mb.numb (fl.length : Int) ++ (fl.take k).flatMap Mb.fldB)) ∧ Blk wr g1 45 #[.slice Af fl.length cf, .slice Ab bdl.length cb] ∧ Below B w wr ∧ Hid (Spared g w wr)) (fun i _ => fl.length - (intOf i).toNat)
  case atStart => exact ⟨0, Nat.zero_le _, rfl, Lib.hid (by simpa using HO3.out), k3, hbw3, sp3⟩
  case round =>
    obtain ⟨k, hk, rfl, hO, kr, hbr, hsr⟩ := hrel
    clear d0 d1
    have hzr := hbr.size
    by_cases hlt : k < fl.length
    · obtain ⟨bb, off, rfl, _, _, q0, q1, _, _⟩ := (hf.belowB hbr).fldAt hlt
      have hsx := hz2 _ (List.getElem_mem hlt)
      have htk := flat_take1 Mb.fldB fl k hlt
      have hcat : (fl.take (k + 1)).flatMap Mb.fldB = (fl.take k).flatMap Mb.fldB ++ Mb.fldB fl[k] := take_flat Mb.fldB fl k hlt
      obtain ⟨n1, hn1⟩ : ∃ x, x = fl[k].1 := ⟨_, rfl⟩
      obtain ⟨n2, hn2⟩ : ∃ x, x = fl[k].2 := ⟨_, rfl⟩
      have hfb : Mb.fldB fl[k] = Mb.item n1 ++ Mb.item n2 := by rw [hn1, hn2]; rfl
      rw [hfb] at htk hcat
      rw [← hn1] at q0 hsx
      rw [← hn2] at q1 hsx
      obtain ⟨wx, gx, hwx, hgx, hszx, kx, hbx⟩ := box1 wr #[.string (bs n1), .string (bs n2)] 108
      have hbwx := hbr.trans (hbx.mono (by omega))
      obtain ⟨x0, x1, _, _, _⟩ := kx.two
      have Hlb := Lib.hid (show (l ++ Mb.numb (fl.length : Int) ++ (fl.take k).flatMap Mb.fldB).length + (Mb.item n1).length ≤ 90000000 by
        rw [List.length_append, List.length_append]
        rw [List.length_append] at htk
        have := Hlen.out
        omega)
      have HI1 := Lib.hid (item_own n0 wx B g _ n1 (hE.ext hbwx hn) hn (hO.out.ext hbx) (by omega) (by have := Hlb.out; omega))
      have Hcat := Lib.hid hcat
      have krx := kr.ext hbx
      have hnex : gx ≠ g := by have := (WrX.glt (.inl hO.out)); omega
      have hspx := Lib.hid (Lib.OthersKept.trans hsr.out ((Lib.OthersKept.refl _ _ wr).below hbx))
      have hnm := hE
      clear hcat htk hn1 hn2 hfb hszx hO kr hbx hsr
      go_wp2_with (go_at_call 96; refine HI1.out.mono ?_; rintro e w5 ⟨rfl, hO5, hb5, hs5⟩; refine Hid.out ?_)
      have kx5 := kx.spared hs5 hnex (by decide)
      have kr5 := krx.spared hs5 hne1 (by decide)
      have hbw5 := hbwx.trans hb5
      obtain ⟨x0, x1, _, _, _⟩ := kx5.two
      have HI2 := Lib.hid (item_own n0 w5 B g _ n2 (hE.ext hbw5 hn) hn hO5 (by omega) (by rw [List.length_append]; exact Hlb.out))
      have hsp5 := Lib.hid (Lib.OthersKept.trans hspx.out hs5)
      clear HI1 hO5 hb5 hs5 kx krx hwx
      refine Lib.hid ?_
      go_wp2_with (go_at_call 96; refine HI2.out.mono ?_; rintro e w6 ⟨rfl, hO6, hb6, hs6⟩)
      go_roundw
      case rel => exact ⟨k + 1, by omega, by go_num, Lib.hid (by rw [Hcat.out, ← List.append_assoc, ← List.append_assoc]; exact hO6), kr5.spared hs6 hne1 (by decide), hbw5.trans hb6, Lib.hid (Lib.OthersKept.trans hsp5.out hs6)⟩
      case measure => simp [intOf]; omega
    · obtain ⟨d0, d1, _, _, _⟩ := kr.two
      have hcv := run_convert_SlR (P := Tryz.prog) Tryz.underlying29 Tryz.underlying5 Tryz.underlying9 (hb.belowB hbr)
      have hO2 := hO.out
      rw [List.take_of_length_le (by omega)] at hO2
      have HI := Lib.hid (item_own n0 wr B g _ bdl (hE.ext hbr hn) hn hO2 (by omega) (by rw [List.length_append, List.length_append]; have := Hlen.out; omega))
      clear hO hO2
      go_wp2_with (go_at_call 96; refine HI.out.mono ?_; rintro e w6 ⟨rfl, hO6, hb6, hs6⟩)
      refine bodyPost_end (results_none rfl _ _ _) rfl ⟨rfl, ?_, hbr.trans hb6, Lib.OthersKept.trans hsr.out hs6⟩
      rw [Hmsg.out, ← List.append_assoc, ← List.append_assoc]
      exact hO6
set_option maxRecDepth 100000 in
set_option maxHeartbeats 4000000 in
theorem ofChange_ok (n0 : Nat) (w : World) (c : Mb.Chg) (f b : Value) (hE : Env n0 w) (hn : n0 ≤ w.heap.size) (hf : SlR fldC M0 w f c.2.2.2.2.2.1) (hb : SlR byteC M0 w b c.2.2.2.2.2.2) (hin : ∀ n ∈ [c.1, c.2.1, c.2.2.1, c.2.2.2.1, c.2.2.2.2.1], -9223372036854775808 ≤ n ∧ n ≤ 9223372036854775807) (hz : MsgSz c.2.2.2.2.2) (hl : (Mb.msgB c.2.2.2.2.2).length ≤ 80000000) :
    Calls Tryz.prog 31 #[chgV c f b] w fun e w' => ∃ v, e = .returned v ∧ Own byteC M0 w' w.heap.size 5 v (Mb.chgB c) ∧ Below w.heap.size w w' := by
  obtain ⟨kd, ud, st, cl, tm, fl, bdl⟩ := c
  dsimp only at hf hb hin hz hl ⊢
  obtain ⟨Af, cf, rfl, hfc, hfm⟩ := hf.form
  obtain ⟨Ab, cb, rfl, hbc, hbm⟩ := hb.form
  obtain ⟨w1, g1, hw1, hg1, hsz1, k1, hb1⟩ := box1 w #[.int .i64 kd, .int .i64 ud, .int .i64 st, .int .i64 cl, .int .i64 tm, .slice Af fl.length cf, .slice Ab bdl.length cb] 47
  have kc := fun (w : World) (C : Array Value) (n c : Nat) => Lib.run_convert_bytes_const (P := Tryz.prog) w 29 5 C n c Tryz.underlying29 Tryz.underlying5
  obtain ⟨w2, q, hw2, hq2, hsz2, hc2, hb2⟩ : ∃ W q, w1.alloc (.cells #[.int .u8 67] 5 (1, 2)) = W ∧ w1.heap.size = q ∧ W.heap.size = q + 1 ∧ W.cell? ⟨q, 0, none⟩ = some (.int .u8 ((67 : UInt8).toNat : Int)) ∧ Below w1.heap.size w1 W := ⟨_, _, rfl, rfl, by simp, World.cell?_alloc_mark _ _ _ _ 0, (Below.refl _ _).alloc (Nat.le_refl _) _⟩
  have hcv : (convert 29 29 (.slice (some ⟨q, 0, none⟩) 1 1)).run Tryz.prog (w1.alloc (.cells #[.int .u8 67] 5)) = .ok (.slice (some ⟨q, 0, none⟩) 1 1) w2 := by rw [← hq2, ← hw2]; exact kc w1 _ 1 1
  obtain ⟨w3, g, hw3, hg3, hsz3, k3, hb3⟩ := box1 w2 #[.slice (some ⟨q, 0, none⟩) 1 1] 132
  have hWC : WrC w3 w.heap.size g 67 := ⟨by omega, q, by omega, by omega, by omega, k3, (hb3.cell (p := ⟨q, 0, none⟩) (by show q < w2.heap.size; omega)).trans hc2⟩
  have hbw3 := below2 hb1 (below2 hb2 hb3)
  have k13 := (k1.ext hb2).ext hb3
  have sp3 : Spared g w w3 := (((Lib.OthersKept.refl _ _ w).below hb1).below hb2).below hb3
  obtain ⟨w4, q4, hw4, hq4, hsz4, k4, hb4⟩ := box1 w3 #[.int .i64 (kd), .int .i64 (ud), .int .i64 (st), .int .i64 (cl), .int .i64 (tm)] 3
  have hbw4 := below2 hbw3 hb4
  have k14 := k13.ext hb4
  have hne1 : g1 ≠ g := by omega
  have hl4 : (Mb.numsB [kd, ud, st, cl, tm]).length ≤ 120 := by
    have := Mb.nums_len [kd, ud, st, cl, tm] hin
    simpa using this
  have Hnum := Lib.hid (numbers_ok n0 w4 w.heap.size g q4 [67] [kd, ud, st, cl, tm] (hE.ext hbw4 hn) hn (WrX.ext (.inr ⟨_, rfl, hWC⟩) hb4) k4 (by simp) (by simp) hin (by rw [List.length_cons, List.length_nil]; omega))
  have sp4 : Spared g w w4 := sp3.below hb4
  have hfB := hf.fromB; have hbB := hb.fromB
  have HLB := Lib.hid (show Mb.chgB (kd, ud, st, cl, tm, fl, bdl) = 67 :: (Mb.numsB [kd, ud, st, cl, tm] ++ Mb.msgB (fl, bdl)) from rfl)
  have Hl := Lib.hid (show (67 :: Mb.numsB [kd, ud, st, cl, tm]).length + (Mb.msgB (fl, bdl)).length ≤ 90000000 by rw [List.length_cons]; omega)
  have c0 := k13.cell 0; have c1 := k13.cell 1; have c2 := k13.cell 2; have c3 := k13.cell 3; have c4 := k13.cell 4; have c5 := k13.cell 5; have c6 := k13.cell 6
  clear hsz1 hsz2 hsz3 hsz4 hl4 hl hin hWC hc2 k3 hf hb
  unfold chgV
  go_enter Tryz.func31, Tryz.ntmps31
  go_wp2_with (go_at_call 62; refine Hnum.out.mono ?_; rintro e w5 ⟨rfl, hO5, hb5, hs5⟩; refine Hid.out ?_)
  have k15 := k14.spared hs5 hne1 (by decide)
  have hbw5 := hbw4.trans hb5
  have e0 := k15.cell 0; have e1 := k15.cell 1; have e2 := k15.cell 2; have e3 := k15.cell 3; have e4 := k15.cell 4; have e5 := k15.cell 5; have e6 := k15.cell 6
  have Hmsg := Lib.hid (wmsg_ok n0 w5 w.heap.size g _ (.slice Af fl.length cf) (.slice Ab bdl.length cb) (fl, bdl) (hE.ext hbw5 hn) hn hO5 (hfB.belowB hbw5) (hbB.belowB hbw5) hz Hl.out)
  clear Hnum hO5 hb5 hs5 k13 k14 k4 sp3 sp4 kc hcv hw1 hw2 hw3 hw4 Hl c0 c1 c2 c3 c4 c5 c6
  refine Lib.hid ?_
  go_wp2_with (go_at_call 63; refine Hmsg.out.mono ?_; rintro e w6 ⟨rfl, hO6, hb6, hs6⟩; refine Hid.out ?_)
  obtain ⟨hBg6, v6, kb6, own6⟩ := hO6
  have own7 : Own byteC M0 w6 w.heap.size 5 v6 (Mb.chgB (kd, ud, st, cl, tm, fl, bdl)) := by rw [HLB.out]; exact own6
  clear own6
  obtain ⟨Av, cv, rfl, _, _⟩ := own7.shape
  obtain ⟨y0, y1, y2⟩ := kb6.one
  refine Lib.hid ?_
  have hbw6 := hbw5.trans hb6
  have Hown := Lib.hid own7
  clear own7 kb6 hb6 hs6 Hmsg
  go_wp2_with fail
  go_ret
  exact ⟨_, rfl, Hown.out, hbw6⟩
set_option maxRecDepth 100000 in
set_option maxHeartbeats 4000000 in
theorem ofMessage_ok (n0 : Nat) (w : World) (c : Mb.Ent) (f b : Value) (hE : Env n0 w) (hn : n0 ≤ w.heap.size) (hf : SlR fldC M0 w f c.2.2.2.2.1) (hb : SlR byteC M0 w b c.2.2.2.2.2) (hin : ∀ n ∈ [c.1, c.2.1, c.2.2.1, c.2.2.2.1], -9223372036854775808 ≤ n ∧ n ≤ 9223372036854775807) (hz : MsgSz c.2.2.2.2) (hl : (Mb.msgB c.2.2.2.2).length ≤ 80000000) :
    Calls Tryz.prog 46 #[entV c f b] w fun e w' => ∃ v, e = .returned v ∧ Own byteC M0 w' w.heap.size 5 v (Mb.entB c) ∧ Below w.heap.size w w' := by
  obtain ⟨kd, ud, st, tm, fl, bdl⟩ := c
  dsimp only at hf hb hin hz hl ⊢
  obtain ⟨Af, cf, rfl, hfc, hfm⟩ := hf.form
  obtain ⟨Ab, cb, rfl, hbc, hbm⟩ := hb.form
  obtain ⟨w1, g1, hw1, hg1, hsz1, k1, hb1⟩ := box1 w #[.int .i64 kd, .int .i64 ud, .int .i64 st, .int .i64 tm, .slice Af fl.length cf, .slice Ab bdl.length cb] 65
  have kc := fun (w : World) (C : Array Value) (n c : Nat) => Lib.run_convert_bytes_const (P := Tryz.prog) w 29 5 C n c Tryz.underlying29 Tryz.underlying5
  obtain ⟨w2, q, hw2, hq2, hsz2, hc2, hb2⟩ : ∃ W q, w1.alloc (.cells #[.int .u8 69] 5 (1, 2)) = W ∧ w1.heap.size = q ∧ W.heap.size = q + 1 ∧ W.cell? ⟨q, 0, none⟩ = some (.int .u8 ((69 : UInt8).toNat : Int)) ∧ Below w1.heap.size w1 W := ⟨_, _, rfl, rfl, by simp, World.cell?_alloc_mark _ _ _ _ 0, (Below.refl _ _).alloc (Nat.le_refl _) _⟩
  have hcv : (convert 29 29 (.slice (some ⟨q, 0, none⟩) 1 1)).run Tryz.prog (w1.alloc (.cells #[.int .u8 69] 5)) = .ok (.slice (some ⟨q, 0, none⟩) 1 1) w2 := by rw [← hq2, ← hw2]; exact kc w1 _ 1 1
  obtain ⟨w3, g, hw3, hg3, hsz3, k3, hb3⟩ := box1 w2 #[.slice (some ⟨q, 0, none⟩) 1 1] 132
  have hWC : WrC w3 w.heap.size g 69 := ⟨by omega, q, by omega, by omega, by omega, k3, (hb3.cell (p := ⟨q, 0, none⟩) (by show q < w2.heap.size; omega)).trans hc2⟩
  have hbw3 := below2 hb1 (below2 hb2 hb3)
  have k13 := (k1.ext hb2).ext hb3
  have sp3 : Spared g w w3 := (((Lib.OthersKept.refl _ _ w).below hb1).below hb2).below hb3
  obtain ⟨w4, q4, hw4, hq4, hsz4, k4, hb4⟩ := box1 w3 #[.int .i64 (kd), .int .i64 (ud), .int .i64 (st), .int .i64 (tm)] 3
  have hbw4 := below2 hbw3 hb4
  have k14 := k13.ext hb4
  have hne1 : g1 ≠ g := by omega
  have hl4 : (Mb.numsB [kd, ud, st, tm]).length ≤ 96 := by
    have := Mb.nums_len [kd, ud, st, tm] hin
    simpa using this
  have Hnum := Lib.hid (numbers_ok n0 w4 w.heap.size g q4 [69] [kd, ud, st, tm] (hE.ext hbw4 hn) hn (WrX.ext (.inr ⟨_, rfl, hWC⟩) hb4) k4 (by simp) (by simp) hin (by rw [List.length_cons, List.length_nil]; omega))
  have sp4 : Spared g w w4 := sp3.below hb4
  have hfB := hf.fromB; have hbB := hb.fromB
  have HLB := Lib.hid (show Mb.entB (kd, ud, st, tm, fl, bdl) = 69 :: (Mb.numsB [kd, ud, st, tm] ++ Mb.msgB (fl, bdl)) from rfl)
  have Hl := Lib.hid (show (69 :: Mb.numsB [kd, ud, st, tm]).length + (Mb.msgB (fl, bdl)).length ≤ 90000000 by rw [List.length_cons]; omega)
  have c0 := k13.cell 0; have c1 := k13.cell 1; have c2 := k13.cell 2; have c3 := k13.cell 3; have c4 := k13.cell 4; have c5 := k13.cell 5
  clear hsz1 hsz2 hsz3 hsz4 hl4 hl hin hWC hc2 k3 hf hb
  unfold entV
  go_enter Tryz.func46, Tryz.ntmps46
  go_wp2_with (go_at_call 62; refine Hnum.out.mono ?_; rintro e w5 ⟨rfl, hO5, hb5, hs5⟩; refine Hid.out ?_)
  have k15 := k14.spared hs5 hne1 (by decide)
  have hbw5 := hbw4.trans hb5
  have e0 := k15.cell 0; have e1 := k15.cell 1; have e2 := k15.cell 2; have e3 := k15.cell 3; have e4 := k15.cell 4; have e5 := k15.cell 5
  have Hmsg := Lib.hid (wmsg_ok n0 w5 w.heap.size g _ (.slice Af fl.length cf) (.slice Ab bdl.length cb) (fl, bdl) (hE.ext hbw5 hn) hn hO5 (hfB.belowB hbw5) (hbB.belowB hbw5) hz Hl.out)
  clear Hnum hO5 hb5 hs5 k13 k14 k4 sp3 sp4 kc hcv hw1 hw2 hw3 hw4 Hl c0 c1 c2 c3 c4 c5
  refine Lib.hid ?_
  go_wp2_with (go_at_call 63; refine Hmsg.out.mono ?_; rintro e w6 ⟨rfl, hO6, hb6, hs6⟩; refine Hid.out ?_)
  obtain ⟨hBg6, v6, kb6, own6⟩ := hO6
  have own7 : Own byteC M0 w6 w.heap.size 5 v6 (Mb.entB (kd, ud, st, tm, fl, bdl)) := by rw [HLB.out]; exact own6
  clear own6
  obtain ⟨Av, cv, rfl, _, _⟩ := own7.shape
  obtain ⟨y0, y1, y2⟩ := kb6.one
  refine Lib.hid ?_
  have hbw6 := hbw5.trans hb6
  have Hown := Lib.hid own7
  clear own7 kb6 hb6 hs6 Hmsg
  go_wp2_with fail
  go_ret
  exact ⟨_, rfl, Hown.out, hbw6⟩
set_option maxRecDepth 100000 in
set_option maxHeartbeats 4000000 in
theorem ofHead_ok (n0 : Nat) (w : World) (b : Mb.Box) (es gs : Value) (hE : Env n0 w) (hn : n0 ≤ w.heap.size) (hes : SlR entC M0 w es b.es) (hgs : SlR gnC M0 w gs b.gs) (hin : ∀ n ∈ [b.nu, b.ns, b.hz, (b.gs.length : Int)], -9223372036854775808 ≤ n ∧ n ≤ 9223372036854775807) (hgi : ∀ x ∈ b.gs, Mb.i64 x.1 ∧ Mb.i64 x.2) (hgl : b.gs.length ≤ 1000000) :
    Calls Tryz.prog 45 #[boxV b es gs] w fun e w' => ∃ v, e = .returned v ∧ Own byteC M0 w' w.heap.size 5 v (Mb.headB b) ∧ Below w.heap.size w w' := by
  obtain ⟨nu, ns, hz, eb, gb⟩ := b
  dsimp only at hes hgs hin hgi hgl ⊢
  obtain ⟨Ae, ce, rfl, hec, hem⟩ := hes.form
  obtain ⟨Ag, cg, rfl, hgc, hgm⟩ := hgs.form
  obtain ⟨w1, g1, hw1, hg1, hsz1, k1, hb1⟩ := box1 w #[.int .i64 nu, .int .i64 ns, .int .i64 hz, .slice Ae eb.length ce, .slice Ag gb.length cg] 26
  have kc := fun (w : World) (C : Array Value) (n c : Nat) => Lib.run_convert_bytes_const (P := Tryz.prog) w 29 5 C n c Tryz.underlying29 Tryz.underlying5
  obtain ⟨w2, q, hw2, hq2, hsz2, hc2, hb2⟩ : ∃ W q, w1.alloc (.cells #[.int .u8 77] 5 (1, 2)) = W ∧ w1.heap.size = q ∧ W.heap.size = q + 1 ∧ W.cell? ⟨q, 0, none⟩ = some (.int .u8 ((77 : UInt8).toNat : Int)) ∧ Below w1.heap.size w1 W := ⟨_, _, rfl, rfl, by simp, World.cell?_alloc_mark _ _ _ _ 0, (Below.refl _ _).alloc (Nat.le_refl _) _⟩
  have hcv : (convert 29 29 (.slice (some ⟨q, 0, none⟩) 1 1)).run Tryz.prog (w1.alloc (.cells #[.int .u8 77] 5)) = .ok (.slice (some ⟨q, 0, none⟩) 1 1) w2 := by rw [← hq2, ← hw2]; exact kc w1 _ 1 1
  obtain ⟨w3, g, hw3, hg3, hsz3, k3, hb3⟩ := box1 w2 #[.slice (some ⟨q, 0, none⟩) 1 1] 132
  have hWC : WrC w3 w.heap.size g 77 := ⟨by omega, q, by omega, by omega, by omega, k3, (hb3.cell (p := ⟨q, 0, none⟩) (by show q < w2.heap.size; omega)).trans hc2⟩
  have hbw3 := below2 hb1 (below2 hb2 hb3)
  have k13 := (k1.ext hb2).ext hb3
  have sp3 : Spared g w w3 := (((Lib.OthersKept.refl _ _ w).below hb1).below hb2).below hb3
  obtain ⟨w4, q4, hw4, hq4, hsz4, k4, hb4⟩ := box1 w3 #[.int .i64 (nu), .int .i64 (ns), .int .i64 (hz), .int .i64 ((gb.length : Int))] 3
  have hbw4 := below2 hbw3 hb4
  have k14 := k13.ext hb4
  have hne1 : g1 ≠ g := by omega
  have hl4 : (Mb.numsB [nu, ns, hz, (gb.length : Int)]).length ≤ 96 := by
    have := Mb.nums_len [nu, ns, hz, (gb.length : Int)] hin
    simpa using this
  have Hnum := Lib.hid (numbers_ok n0 w4 w.heap.size g q4 [77] [nu, ns, hz, (gb.length : Int)] (hE.ext hbw4 hn) hn (WrX.ext (.inr ⟨_, rfl, hWC⟩) hb4) k4 (by simp) (by simp) hin (by rw [List.length_cons, List.length_nil]; omega))
  have sp4 : Spared g w w4 := sp3.below hb4
  have hgB := hgs.fromB
  have HLB := Lib.hid (show Mb.headB ⟨nu, ns, hz, eb, gb⟩ = 77 :: (Mb.numsB [nu, ns, hz, (gb.length : Int)] ++ gb.flatMap fun g => Mb.numsB [g.1, g.2]) from rfl)
  have hll : ([77] ++ Mb.numsB [nu, ns, hz, (gb.length : Int)]).length ≤ 97 := by rw [List.length_append, List.length_cons, List.length_nil]; omega
  have Hll := Lib.hid hll
  have hgf := Mb.goneB_len gb (fun g hg => hgi g hg)
  have Hgf := Lib.hid hgf
  have c0 := k13.cell 0; have c1 := k13.cell 1; have c2 := k13.cell 2; have c3 := k13.cell 3; have c4 := k13.cell 4
  clear hsz1 hsz2 hsz3 hsz4 hl4 hll hin hWC hc2 k3 hes hgf
  unfold boxV
  go_enter Tryz.func45, Tryz.ntmps45
  go_wp2_with (go_at_call 62; refine Hnum.out.mono ?_; rintro e w5 ⟨rfl, hO5, hb5, hs5⟩; refine Hid.out ?_)
  have k15 := k14.spared hs5 hne1 (by decide)
  have hbw5 := hbw4.trans hb5
  have e4 := k15.cell 4
  have HO5 := Lib.hid hO5
  have hsp5 := Lib.hid (Lib.OthersKept.trans sp4 hs5)
  clear Hnum hO5 hb5 hs5 k13 k14 k4 sp3 sp4 kc hcv hw1 hw2 hw3 hw4 c0 c1 c2 c3 c4
  refine Lib.hid ?_
  go_wp2_with fail
  go_loopw [25] (fun i wr => ∃ k : Nat, k ≤ gb.length ∧ i = .int .i64 (k : Int) ∧ Hid (WrO wr w.heap.size g ([77] ++ Mb.numsB [nu, ns, hz, (gb.length : Int)] ++ (gb.take k).flatMap fun g => Mb.numsB [g.1, g.2])) ∧ Below w.heap.size w wr) (fun i _ => gb.length - (intOf i).toNat)
  case atStart => exact ⟨0, Nat.zero_le _, rfl, Lib.hid (by simpa using HO5.out), hbw5⟩
  case round =>
    obtain ⟨k, hk, rfl, hO, hbr⟩ := hrel
    clear e4
    have hzr := hbr.size
    by_cases hlt : k < gb.length
    · obtain ⟨bb, off, rfl, _, _, q0, q1⟩ := (hgB.belowB hbr).gnAt hlt
      have hgx := (fun h : Mb.i64 _ ∧ Mb.i64 _ => And.intro h.1.big h.2.big) (hgi _ (List.getElem_mem hlt))
      have htk := flat_take1 (fun g : Mb.Gn => Mb.numsB [g.1, g.2]) gb k hlt
      have hcat : (gb.take (k + 1)).flatMap (fun g : Mb.Gn => Mb.numsB [g.1, g.2]) = (gb.take k).flatMap (fun g : Mb.Gn => Mb.numsB [g.1, g.2]) ++ Mb.numsB [gb[k].1, gb[k].2] := take_flat _ gb k hlt
      obtain ⟨n1, hn1⟩ : ∃ x, x = gb[k].1 := ⟨_, rfl⟩
      obtain ⟨n2, hn2⟩ : ∃ x, x = gb[k].2 := ⟨_, rfl⟩
      rw [← hn1] at q0 hgx htk hcat
      rw [← hn2] at q1 hgx htk hcat
      obtain ⟨wx, gx, hwx, hgx2, hszx, kx, hbx⟩ := box1 wr #[.int .i64 n1, .int .i64 n2] 82
      obtain ⟨wy, qy, hwy, hqy, hszy, ky, hby⟩ := box1 wx #[.int .i64 n1, .int .i64 n2] 3
      have hbwy := hbr.trans ((hbx.mono (by omega)).trans (hby.mono (by omega)))
      obtain ⟨x0, x1, _, _, _⟩ := kx.two
      have HI1 := Lib.hid (numbers_ok n0 wy w.heap.size g qy _ [n1, n2] (hE.ext hbwy hn) hn (.inl ((hO.out.ext hbx).ext hby)) ky (by simp) (by simp) (by
        intro n hnn
        simp only [List.mem_cons, List.not_mem_nil, or_false] at hnn
        rcases hnn with rfl | rfl
        · exact hgx.1
        · exact hgx.2) (by
        rw [List.length_append]
        have := Hll.out
        have := Hgf.out
        omega))
      have Hcat := Lib.hid hcat
      clear hcat htk hn1 hn2 hszx hszy hO kx ky hbx hby
      go_wp2_with (go_at_call 62; refine HI1.out.mono ?_; rintro e w6 ⟨rfl, hO6, hb6, hs6⟩)
      go_roundw
      case rel => exact ⟨k + 1, by omega, by go_num, Lib.hid (by rw [Hcat.out, ← List.append_assoc]; exact hO6), hbwy.trans hb6⟩
      case measure => simp [intOf]; omega
    · have hO2 := hO.out
      rw [List.take_of_length_le (by omega)] at hO2
      obtain ⟨hBg6, v6, kb6, own6⟩ := hO2
      have own7 : Own byteC M0 wr w.heap.size 5 v6 (Mb.headB ⟨nu, ns, hz, eb, gb⟩) := by rw [HLB.out]; exact own6
      clear own6 hO
      obtain ⟨Av, cv, rfl, _, _⟩ := own7.shape
      obtain ⟨y0, y1, y2⟩ := kb6.one
      have Hown := Lib.hid own7
      clear own7 kb6
      go_wp2_with fail
      go_ret
      exact ⟨_, rfl, Hown.out, hbr⟩
end Go.Proofs.YtjamjkjmlckgeaaGreatDoor

/-
  Contracts and plain facts, one after another: The references' SameSeen, SameView, SameMessage, of equal contents; The reference's SameBox, of equal contents; The reference's ViewOf.
-/
import Derived.Test.YtjamjkjmlckgeaaGreatDoorF50
import Derived.BigQuiet
namespace Go.Proofs.YtjamjkjmlckgeaaGreatDoor
open Go.RowKit
set_option linter.unusedVariables false

set_option maxRecDepth 100000 in
set_option maxHeartbeats 4000000 in
theorem sameSeen_ok (l : List Mb.Seen) (u v : Value) (w : World) (hu : SlR gnC M0 w u l) (hv : SlR gnC M0 w v l) :
    Calls Tryz.prog 36 #[u, v] w fun e w' => e = .returned (.bool true) ∧ Below w.heap.size w w' := by
  obtain ⟨A, c, rfl, hlc, hlm⟩ := hu.form
  obtain ⟨A', c', rfl, _, _⟩ := hv.form
  unfold maxLen at hlm
  have Hu := Lib.hid hu; have Hv := Lib.hid hv
  clear hu hv
  go_enter Tryz.func36, Tryz.ntmps36
  go_wp2_with fail
  go_loopw [5] (fun i wr => ∃ k : Nat, k ≤ l.length ∧ i = .int .i64 (k : Int) ∧ Below w.heap.size w wr) (fun i _ => l.length - (intOf i).toNat)
  case atStart => exact ⟨0, Nat.zero_le _, rfl, Below.refl _ _⟩
  case round =>
    obtain ⟨k, hk, rfl, hb⟩ := hrel
    by_cases hlt : k < l.length
    · obtain ⟨be, off, rfl, _, hbe, q0, q1⟩ := (Hu.out.ext hb).gnAt hlt
      obtain ⟨be', off', rfl, _, hbe', p0, p1⟩ := (Hv.out.ext hb).gnAt hlt
      obtain ⟨⟨x1, x2⟩, hx⟩ : ∃ x, x = l[k] := ⟨_, rfl⟩
      rw [← hx] at q0 q1 p0 p1
      dsimp only at q0 q1 p0 p1
      have hi0 : (0 : Int) ≤ (k : Int) := by omega
      have hi1 : (k : Int) < (l.length : Int) := by omega
      have hq1 : IntKind.i64.wrap (k : Int) = (k : Int) := IntWalk.i64_in _ (by omega)
      clear hx
      go_wp2_with fail
      go_quiet (fail)
      generalize hV : wr.drewN nq = V
      have hbV : Below wr.heap.size wr V := by rw [← hV]; exact below_drewN' _ _ _
      clear hV q0 q1 p0 p1
      go_wp2_with fail
      go_roundw
      case rel => exact ⟨k + 1, by omega, by go_num, hb.trans (hbV.mono hb.size)⟩
      case measure => simp [intOf]; omega
    · go_wp2_with fail
      go_ret
      exact ⟨rfl, hb⟩
set_option maxRecDepth 100000 in
set_option maxHeartbeats 4000000 in
theorem sameView_ok (q : Int) (l : List Mb.Seen) (u v : Value) (w : World) (hu : SlR gnC M0 w u l) (hv : SlR gnC M0 w v l) :
    Calls Tryz.prog 15 #[.agg #[.int .i64 q, u], .agg #[.int .i64 q, v]] w fun e w' => e = .returned (.bool true) ∧ Below w.heap.size w w' := by
  obtain ⟨A, c, rfl, hlc, hlm⟩ := hu.form
  obtain ⟨A', c', rfl, _, _⟩ := hv.form
  obtain ⟨w0, g, g2, hw0, hg, hg2, hsz0, k0, k2, hb0⟩ := box2 w #[.int .i64 q, .slice A l.length c] 40 #[.int .i64 q, .slice A' l.length c'] 40
  have Hs := Lib.hid (sameSeen_ok l _ _ w0 (hu.ext hb0) (hv.ext hb0))
  have c0 := k0.cell 0; have c1 := k0.cell 1; have d0 := k2.cell 0; have d1 := k2.cell 1
  clear hu hv hsz0
  go_enter Tryz.func15, Tryz.ntmps15
  go_wp2_with fail
  refine Hs.out.mono ?_
  rintro e w1 ⟨rfl, hb1⟩
  go_wp2_with fail
  go_ret
  exact ⟨rfl, below2 hb0 hb1⟩
set_option maxRecDepth 100000 in
set_option maxHeartbeats 4000000 in
theorem sameMessage_ok (f : List Mb.Fld) (bd : List UInt8) (f1 b1 f2 b2 : Value) (w : World) (hf1 : SlR fldC M0 w f1 f) (hf2 : SlR fldC M0 w f2 f) (hb1 : SlR byteC M0 w b1 bd) (hb2 : SlR byteC M0 w b2 bd) :
    Calls Tryz.prog 28 #[.agg #[f1, b1], .agg #[f2, b2]] w fun e w' => e = .returned (.bool true) ∧ Below w.heap.size w w' := by
  obtain ⟨A, c, rfl, hlc, hlm⟩ := hf1.form
  obtain ⟨A', c', rfl, _, _⟩ := hf2.form
  obtain ⟨Ab, cb, rfl, _, _⟩ := hb1.form
  obtain ⟨Ab', cb', rfl, _, _⟩ := hb2.form
  unfold maxLen at hlm
  obtain ⟨w0, g, g2, hw0, hg, hg2, hsz0, k0, k2, hb0⟩ := box2 w #[.slice A f.length c, .slice Ab bd.length cb] 45 #[.slice A' f.length c', .slice Ab' bd.length cb'] 45
  have hsm := same_ok M0 _ _ bd bd w0 (hb1.ext hb0) (hb2.ext hb0)
  rw [show (bd == bd) = true from by simp] at hsm
  have Hs := Lib.hid hsm
  have Hu := Lib.hid (hf1.ext hb0); have Hv := Lib.hid (hf2.ext hb0)
  have c0 := k0.cell 0; have c1 := k0.cell 1; have d0 := k2.cell 0; have d1 := k2.cell 1
  clear hf1 hf2 hb1 hb2 hsz0 hsm
  go_enter Tryz.func28, Tryz.ntmps28
  go_wp2_with fail
  refine Hs.out.mono ?_
  rintro e w1 ⟨rfl, rfl⟩
  go_wp2_with fail
  go_loopw [5] (fun i wr => ∃ k : Nat, k ≤ f.length ∧ i = .int .i64 (k : Int) ∧ Below w0.heap.size w0 wr) (fun i _ => f.length - (intOf i).toNat)
  case atStart => exact ⟨0, Nat.zero_le _, rfl, Below.refl _ _⟩
  case round =>
    obtain ⟨k, hk, rfl, hb⟩ := hrel
    have kr := k0.ext hb; have kr2 := k2.ext hb
    have c0 := kr.cell 0; have d0 := kr2.cell 0
    by_cases hlt : k < f.length
    · obtain ⟨be, off, rfl, _, hbe, q0, q1, _, _⟩ := (Hu.out.ext hb).fldAt hlt
      obtain ⟨be', off', rfl, _, hbe', p0, p1, _, _⟩ := (Hv.out.ext hb).fldAt hlt
      obtain ⟨⟨x1, x2⟩, hx⟩ : ∃ x, x = f[k] := ⟨_, rfl⟩
      rw [← hx] at q0 q1 p0 p1
      dsimp only at q0 q1 p0 p1
      have hi0 : (0 : Int) ≤ (k : Int) := by omega
      have hi1 : (k : Int) < (f.length : Int) := by omega
      have hq1 : IntKind.i64.wrap (k : Int) = (k : Int) := IntWalk.i64_in _ (by omega)
      clear hx
      go_wp2_with fail
      go_quiet (fail)
      generalize hV : wr.drewN nq = V
      have hbV : Below wr.heap.size wr V := by rw [← hV]; exact below_drewN' _ _ _
      clear hV q0 q1 p0 p1
      go_wp2_with fail
      go_roundw
      case rel => exact ⟨k + 1, by omega, by go_num, hb.trans (hbV.mono hb.size)⟩
      case measure => simp [intOf]; omega
    · go_wp2_with fail
      go_ret
      exact ⟨rfl, below2 hb0 hb⟩
end Go.Proofs.YtjamjkjmlckgeaaGreatDoor
namespace Go.Proofs.YtjamjkjmlckgeaaGreatDoor
open Go.RowKit
set_option linter.unusedVariables false

set_option maxRecDepth 100000 in
set_option maxHeartbeats 8000000 in
theorem sameBox_ok (b : Mb.Box) (es gs es' gs' : Value) (w : World) (hes : SlR entC M0 w es b.es) (hgs : SlR gnC M0 w gs b.gs) (hes' : SlR entC M0 w es' b.es) (hgs' : SlR gnC M0 w gs' b.gs) :
    Calls Tryz.prog 8 #[boxV b es gs, boxV b es' gs'] w fun e w' => e = .returned (.bool true) ∧ Below w.heap.size w w' := by
  obtain ⟨Ae, ce, rfl, hec, hem⟩ := hes.form
  obtain ⟨Ag, cg, rfl, hgc, hgm⟩ := hgs.form
  obtain ⟨Ae', ce', rfl, _, _⟩ := hes'.form
  obtain ⟨Ag', cg', rfl, _, _⟩ := hgs'.form
  unfold maxLen at hem hgm
  unfold boxV
  obtain ⟨w0, g, g2, hw0, hg, hg2, hsz0, k0, k2, hb0⟩ := box2 w #[.int .i64 b.nu, .int .i64 b.ns, .int .i64 b.hz, .slice Ae b.es.length ce, .slice Ag b.gs.length cg] 26 #[.int .i64 b.nu, .int .i64 b.ns, .int .i64 b.hz, .slice Ae' b.es.length ce', .slice Ag' b.gs.length cg'] 26
  have He := Lib.hid (hes.ext hb0); have He' := Lib.hid (hes'.ext hb0); have Hg := Lib.hid (hgs.ext hb0); have Hg' := Lib.hid (hgs'.ext hb0)
  have c0 := k0.cell 0; have c1 := k0.cell 1; have c2 := k0.cell 2; have c3 := k0.cell 3; have c4 := k0.cell 4
  have d0 := k2.cell 0; have d1 := k2.cell 1; have d2 := k2.cell 2; have d3 := k2.cell 3; have d4 := k2.cell 4
  clear hes hgs hes' hgs' hsz0
  go_enter Tryz.func8, Tryz.ntmps8
  go_wp2_with fail
  go_loopw [5] (fun i wr => ∃ k : Nat, k ≤ b.es.length ∧ i = .int .i64 (k : Int) ∧ Below w0.heap.size w0 wr) (fun i _ => b.es.length - (intOf i).toNat)
  case atStart => exact ⟨0, Nat.zero_le _, rfl, Below.refl _ _⟩
  case round =>
    obtain ⟨k, hk, rfl, hb⟩ := hrel
    clear c0 c1 c2 c3 c4 d0 d1 d2 d3 d4
    have kr := k0.ext hb; have kr2 := k2.ext hb
    have c3 := kr.cell 3; have d3 := kr2.cell 3
    by_cases hlt : k < b.es.length
    · obtain ⟨be, off, Af, cf, Ab, cb, rfl, _, hbe, q0, q1, q2, q3, q4, q5, qf, qb⟩ := (He.out.ext hb).entAt hlt
      obtain ⟨wx, gx, hwx, hgx, hszx, kx, hbx⟩ := box1 wr #[.int .i64 b.es[k].1, .int .i64 b.es[k].2.1, .int .i64 b.es[k].2.2.1, .int .i64 b.es[k].2.2.2.1, .slice Af b.es[k].2.2.2.2.1.length cf, .slice Ab b.es[k].2.2.2.2.2.length cb] 65
      obtain ⟨be', off', Af', cf', Ab', cb', rfl, _, hbe', p0, p1, p2, p3, p4, p5, pf, pb⟩ := ((He'.out.ext hb).ext hbx).entAt hlt
      obtain ⟨⟨x1, x2, x3, x4, f, bd⟩, hx⟩ : ∃ x, x = b.es[k] := ⟨_, rfl⟩
      rw [← hx] at q0 q1 q2 q3 q4 q5 qf qb p0 p1 p2 p3 p4 p5 pf pb kx hwx
      dsimp only at q0 q1 q2 q3 q4 q5 qf qb p0 p1 p2 p3 p4 p5 pf pb kx hwx
      obtain ⟨wy, gy, hwy, hgy, hszy, ky, hby⟩ := box1 wx #[.int .i64 x1, .int .i64 x2, .int .i64 x3, .int .i64 x4, .slice Af' f.length cf', .slice Ab' bd.length cb'] 65
      have hbwy := hb.trans ((below2 hbx hby).mono hb.size)
      have d3 := (kr2.ext hbx).cell 3
      have Hm := Lib.hid (sameMessage_ok f bd _ _ _ _ wy ((qf.ext hbx).ext hby) (pf.ext hby) ((qb.ext hbx).ext hby) (pb.ext hby))
      have kxy := kx.ext hby
      have s0 := kxy.cell 0; have s1 := kxy.cell 1; have s2 := kxy.cell 2; have s3 := kxy.cell 3; have s4 := kxy.cell 4; have s5 := kxy.cell 5
      have t0 := ky.cell 0; have t1 := ky.cell 1; have t2 := ky.cell 2; have t3 := ky.cell 3; have t4 := ky.cell 4; have t5 := ky.cell 5
      clear hx hszx hszy kx ky kxy qf qb pf pb
      go_wp2_with fail
      refine Hm.out.mono ?_
      rintro e w1 ⟨rfl, hb1⟩
      clear s0 s1 s2 s3 s4 s5 t0 t1 t2 t3 t4 t5 q0 q1 q2 q3 q4 q5 p0 p1 p2 p3 p4 p5 c3 d3 Hm hwx hwy
      go_wp2_with fail
      go_roundw
      case rel => exact ⟨k + 1, by omega, by go_num, hbwy.trans (hb1.mono hbwy.size)⟩
      case measure => simp [intOf]; omega
    · obtain rfl : k = b.es.length := by omega
      clear hlt hk
      have c4 := kr.cell 4; have d4 := kr2.cell 4
      have Hb := Lib.hid hb
      obtain ⟨wo, rfl⟩ : ∃ W0, W0 = wr := ⟨_, rfl⟩
      go_wp2_with fail
      go_loopw [8] (fun i wr => ∃ k : Nat, k ≤ b.gs.length ∧ i = .int .i64 (k : Int) ∧ Below wo.heap.size wo wr) (fun i _ => b.gs.length - (intOf i).toNat)
      case atStart => exact ⟨0, Nat.zero_le _, rfl, Below.refl _ _⟩
      case round =>
        obtain ⟨k, hk, rfl, hbr⟩ := hrel
        have hb2 := hb.trans (hbr.mono hb.size)
        have c4 := (k0.ext hb2).cell 4; have d4 := (k2.ext hb2).cell 4
        by_cases hlt : k < b.gs.length
        · obtain ⟨be, off, rfl, _, hbe, q0, q1⟩ := (Hg.out.ext hb2).gnAt hlt
          obtain ⟨be', off', rfl, _, hbe', p0, p1⟩ := (Hg'.out.ext hb2).gnAt hlt
          obtain ⟨⟨x1, x2⟩, hx⟩ : ∃ x, x = b.gs[k] := ⟨_, rfl⟩
          rw [← hx] at q0 q1 p0 p1
          dsimp only at q0 q1 p0 p1
          have hi0 : (0 : Int) ≤ (k : Int) := by omega
          have hi1 : (k : Int) < (b.gs.length : Int) := by omega
          have hq1 : IntKind.i64.wrap (k : Int) = (k : Int) := IntWalk.i64_in _ (by omega)
          clear hx
          go_wp2_with fail
          go_quiet (fail)
          generalize hV : wr.drewN nq = V
          have hbV : Below wr.heap.size wr V := by rw [← hV]; exact below_drewN' _ _ _
          clear hV q0 q1 p0 p1
          go_wp2_with fail
          go_roundw
          case rel => exact ⟨k + 1, by omega, by go_num, hbr.trans (hbV.mono hbr.size)⟩
          case measure => simp [intOf]; omega
        · go_wp2_with fail
          go_ret
          exact ⟨rfl, below2 hb0 hb2⟩
end Go.Proofs.YtjamjkjmlckgeaaGreatDoor
namespace Go.Proofs.YtjamjkjmlckgeaaGreatDoor
open Go.RowKit
set_option linter.unusedVariables false

set_option maxRecDepth 100000 in
set_option maxHeartbeats 8000000 in
theorem viewOf_ok (M : Nat → Prop) (b : Mb.Box) (es gs : Value) (w : World) (hM : ∀ x, M x → x < w.heap.size) (hes : SlR entC M0 w es b.es) (hG : Mb.Good b) :
    Calls Tryz.prog 10 #[boxV b es gs] w fun e w' => ∃ v, e = .returned (.agg #[.int .i64 b.ns, v]) ∧ SlR gnC M w' v (Mb.allV b) ∧ Below w.heap.size w w' := by
  have hle := hG.le
  have hb9 : ∀ e ∈ b.es, (-9223372036854775808 ≤ e.1 ∧ e.1 ≤ 9223372036854775807) ∧ (-9223372036854775808 ≤ e.2.2.1 ∧ e.2.2.1 ≤ 9223372036854775807) := fun e he => by
    have h := hG.es e he
    have h1 := hG.nu
    exact ⟨⟨by have := h.1.1; omega, by have := h.1.2; omega⟩, ⟨by have := h.2.2.1.1; omega, by have := h.2.2.1.2; omega⟩⟩
  obtain ⟨Ae, ce, rfl, hec, hem⟩ := hes.form
  unfold boxV
  obtain ⟨w0, g, g2, hw0, hg, hg2, hsz0, k0, k2, hb0⟩ := box2 w #[.int .i64 b.nu, .int .i64 b.ns, .int .i64 b.hz, .slice Ae b.es.length ce, gs] 26 #[.int .i64 0, .slice none 0 0] 40
  obtain ⟨wz, gk, hwz, hgk, hsz1, kz, hbz⟩ := box1 w0 #[.int .i64 0, .slice none 0 0] 40
  obtain ⟨m0, m1, x0, x1, xl⟩ := kz.two
  obtain ⟨w1, hw1⟩ : ∃ W, (wz.setCell ⟨gk, 0, none⟩ (.int .i64 b.ns)).setCell ⟨gk, 1, none⟩ (.slice none 0 0) = W := ⟨_, rfl⟩
  have kk := (put2 kz (.int .i64 b.ns) (.slice none 0 0) hw1).1
  have hb1 : Below w0.heap.size w0 w1 := below_put2 hbz (by omega) _ _ hw1
  have hgl2 : w.heap.size ≤ g2 := by omega
  have hgu2 : g2 < w0.heap.size := by omega
  have hgkl : w0.heap.size ≤ gk := by omega
  have hgkl2 : gk < w1.heap.size := kk.lt
  have hes0 := hes.ext hb0
  have hw01 := hb1.size
  have k01 := k0.ext hb1
  have hz0 := hb0.size; have hz1 := hb1.size
  have c1 := k0.cell 1
  have Hb9 := Lib.hid hb9; have HM := Lib.hid hM
  clear hb9 hes hsz0 hM kz hbz
  go_enter Tryz.func10, Tryz.ntmps10
  go_wp2_with fail
  go_loopw [4] (fun i wr => ∃ (k : Nat) (A : Option Addr) (c : Nat) (L : List Mb.Seen), k ≤ b.es.length ∧ i = .int .i64 (k : Int) ∧ Hid (L = (b.es.take k).map fun e => (e.1, e.2.2.1)) ∧ Blk wr gk 40 #[.int .i64 b.ns, .slice A L.length c] ∧ Own gnC M0 wr w0.heap.size 84 (.slice A L.length c) L ∧ Below w0.heap.size w0 wr) (fun i _ => b.es.length - (intOf i).toNat)
  case atStart => exact ⟨0, none, 0, [], Nat.zero_le _, rfl, Lib.hid (by simp), kk, Own.nil _ _ _ _ _, hb1⟩
  case round =>
    obtain ⟨k, A, c, L, hk, rfl, hL, kL, own, hbr⟩ := hrel
    clear hw1 c1 hwz m0 m1 x0 x1 xl hsz1
    have hzr := hbr.size
    have kr := k0.ext hbr
    have c3 := kr.cell 3
    by_cases hlt : k < b.es.length
    · obtain ⟨bb, off, Af, cf, Ab, cb, rfl, _, hbb, q0, q1, q2, q3, q4, q5, qf, qb⟩ := ((hes0.ext hbr)).entAt hlt
      have hcat : b.es.take (k + 1) = b.es.take k ++ [b.es[k]] := List.take_succ_eq_append_getElem hlt
      have hLl : L.length = k := by rw [hL.out, List.length_map, List.length_take]; omega
      have hrg := Hb9.out _ (List.getElem_mem hlt)
      obtain ⟨x, hx⟩ : ∃ x, x = b.es[k] := ⟨_, rfl⟩
      rw [← hx] at q0 q1 q2 q3 q4 q5 qf qb hcat hrg
      obtain ⟨x1, x2, x3, x4, f, bd⟩ := x
      dsimp only at q0 q2 hrg
      have hi0 : (0 : Int) ≤ (k : Int) := by omega
      have hi1 : (k : Int) < (b.es.length : Int) := by omega
      have hq1 : IntKind.i64.wrap (k : Int) = (k : Int) := IntWalk.i64_in _ (by omega)
      have HLl := Lib.hid hLl; have Hcat := Lib.hid hcat
      have hgkr := kL.lt
      have hbb1 : bb < w0.heap.size := by
        obtain ⟨b3, o3, _, _, _, _, e3, _, h3, _⟩ := hes0.entAt hlt
        cases e3
        exact h3
      have HS := Lib.hid (show ∀ W, Below wr.heap.size wr W → W.cell? ⟨gk, 1, none⟩ = some (.slice A L.length c) ∧ W.cell? ⟨g, 3, none⟩ = some (.slice (some ⟨bb, off, none⟩) b.es.length ce) ∧ W.cell? ⟨bb, off + k * 6, none⟩ = some (.int .i64 x1) ∧ W.cell? ⟨bb, off + k * 6 + 2, none⟩ = some (.int .i64 x3) from fun W hW => ⟨(kL.ext hW).cell 1, (kr.ext hW).cell 3, (hW.cell (p := ⟨bb, off + k * 6, none⟩) hbb).trans q0, (hW.cell (p := ⟨bb, off + k * 6 + 2, none⟩) hbb).trans q2⟩)
      clear hLl hcat hx qf qb q0 q1 q2 q3 q4 q5
      go_wp2_with fail
      refine wp_region_D (fun W => W.cell? ⟨gk, 1, none⟩ = some (.slice A L.length c) ∧ W.cell? ⟨g, 3, none⟩ = some (.slice (some ⟨bb, off, none⟩) b.es.length ce) ∧ W.cell? ⟨bb, off + k * 6, none⟩ = some (.int .i64 x1) ∧ W.cell? ⟨bb, off + k * 6 + 2, none⟩ = some (.int .i64 x3)) (fun j => j == 18) (by kernel_rfl) ?_
      change anyD _ _ _ _ _ _ _ _ _ (wr.drewN 1)
      have hbV := below_drewN' wr.heap.size wr 1
      generalize wr.drewN 1 = V0 at hbV ⊢
      have hS := HS.out V0 hbV
      (refine anyD_light (i := 0) (v := ?_) rfl (by kernel_rfl) (by kernel_rfl) (by kernel_rfl) (by kernel_rfl) (by kernel_rfl) (fun _ _ _ h => h) (.inl ⟨by kernel_rfl, fun W9 hW9 => ?_⟩) hS ?_; rotate_left; · (obtain ⟨hw0, hw1, hw2, hw3⟩ := hW9; go_simp; rfl))
      (refine anyD_light (i := 1) (v := ?_) rfl (by kernel_rfl) (by kernel_rfl) (by kernel_rfl) (by kernel_rfl) (by kernel_rfl) (fun _ _ _ h => h) (.inl ⟨by kernel_rfl, fun W9 hW9 => ?_⟩) hS ?_; rotate_left; · (obtain ⟨hw0, hw1, hw2, hw3⟩ := hW9; go_simp; rfl))
      (refine anyD_light (i := 2) (v := ?_) rfl (by kernel_rfl) (by kernel_rfl) (by kernel_rfl) (by kernel_rfl) (by kernel_rfl) (fun _ _ _ h => h) (.inl ⟨by kernel_rfl, fun W9 hW9 => ?_⟩) hS ?_; rotate_left; · (obtain ⟨hw0, hw1, hw2, hw3⟩ := hW9; go_simp; rfl))
      (refine anyD_light (i := 3) (v := ?_) rfl (by kernel_rfl) (by kernel_rfl) (by kernel_rfl) (by kernel_rfl) (by kernel_rfl) (fun _ _ _ h => h) (.inl ⟨by kernel_rfl, fun W9 hW9 => ?_⟩) hS ?_; rotate_left; · (obtain ⟨hw0, hw1, hw2, hw3⟩ := hW9; go_simp; rfl))
      (refine anyD_light (i := 4) (v := ?_) rfl (by kernel_rfl) (by kernel_rfl) (by kernel_rfl) (by kernel_rfl) (by kernel_rfl) (fun _ _ _ h => h) (.inl ⟨by kernel_rfl, fun W9 hW9 => ?_⟩) hS ?_; rotate_left; · (obtain ⟨hw0, hw1, hw2, hw3⟩ := hW9; go_simp; rfl))
      (refine anyD_light (i := 5) (v := ?_) rfl (by kernel_rfl) (by kernel_rfl) (by kernel_rfl) (by kernel_rfl) (by kernel_rfl) (fun _ _ _ h => h) (.inl ⟨by kernel_rfl, fun W9 hW9 => ?_⟩) hS ?_; rotate_left; · (obtain ⟨hw0, hw1, hw2, hw3⟩ := hW9; go_simp; rfl))
      go_simp
      (refine anyD_light (i := 6) (v := ?_) rfl (by kernel_rfl) (by kernel_rfl) (by kernel_rfl) (by kernel_rfl) (by kernel_rfl) (fun _ _ _ h => h) (.inl ⟨by kernel_rfl, fun W9 hW9 => ?_⟩) hS ?_; rotate_left; · (obtain ⟨hw0, hw1, hw2, hw3⟩ := hW9; go_simp; rfl))
      (refine anyD_light (i := 7) (v := ?_) rfl (by kernel_rfl) (by kernel_rfl) (by kernel_rfl) (by kernel_rfl) (by kernel_rfl) (fun _ _ _ h => h) (.inl ⟨by kernel_rfl, fun W9 hW9 => ?_⟩) hS ?_; rotate_left; · (obtain ⟨hw0, hw1, hw2, hw3⟩ := hW9; go_simp; rfl))
      (refine anyD_light (i := 8) (v := ?_) rfl (by kernel_rfl) (by kernel_rfl) (by kernel_rfl) (by kernel_rfl) (by kernel_rfl) (fun _ _ _ h => h) (.inl ⟨by kernel_rfl, fun W9 hW9 => ?_⟩) hS ?_; rotate_left; · (obtain ⟨hw0, hw1, hw2, hw3⟩ := hW9; go_simp; rfl))
      (refine anyD_light (i := 9) (v := ?_) rfl (by kernel_rfl) (by kernel_rfl) (by kernel_rfl) (by kernel_rfl) (by kernel_rfl) (fun _ _ _ h => h) (.inl ⟨by kernel_rfl, fun W9 hW9 => ?_⟩) hS ?_; rotate_left; · (obtain ⟨hw0, hw1, hw2, hw3⟩ := hW9; go_simp; rfl))
      (refine anyD_light (i := 10) (v := ?_) rfl (by kernel_rfl) (by kernel_rfl) (by kernel_rfl) (by kernel_rfl) (by kernel_rfl) (fun _ _ _ h => h) (.inl ⟨by kernel_rfl, fun W9 hW9 => ?_⟩) hS ?_; rotate_left; · (obtain ⟨hw0, hw1, hw2, hw3⟩ := hW9; go_simp; rfl))
      (refine anyD_light (i := 11) (v := ?_) rfl (by kernel_rfl) (by kernel_rfl) (by kernel_rfl) (by kernel_rfl) (by kernel_rfl) (fun _ _ _ h => h) (.inl ⟨by kernel_rfl, fun W9 hW9 => ?_⟩) hS ?_; rotate_left; · (obtain ⟨hw0, hw1, hw2, hw3⟩ := hW9; go_simp; rfl))
      go_simp
      (refine anyD_light (i := 12) (v := ?_) rfl (by kernel_rfl) (by kernel_rfl) (by kernel_rfl) (by kernel_rfl) (by kernel_rfl) (fun _ _ _ h => h) (.inl ⟨by kernel_rfl, fun W9 hW9 => ?_⟩) hS ?_; rotate_left; · (obtain ⟨hw0, hw1, hw2, hw3⟩ := hW9; go_simp; rfl))
      (refine anyD_light (i := 13) (v := ?_) rfl (by kernel_rfl) (by kernel_rfl) (by kernel_rfl) (by kernel_rfl) (by kernel_rfl) (fun _ _ _ h => h) (.inl ⟨by kernel_rfl, fun W9 hW9 => ?_⟩) hS ?_; rotate_left; · (obtain ⟨hw0, hw1, hw2, hw3⟩ := hW9; go_simp; rfl))
      (refine anyD_light (i := 14) (v := ?_) rfl (by kernel_rfl) (by kernel_rfl) (by kernel_rfl) (by kernel_rfl) (by kernel_rfl) (fun _ _ _ h => h) (.inl ⟨by kernel_rfl, fun W9 hW9 => ?_⟩) hS ?_; rotate_left; · (obtain ⟨hw0, hw1, hw2, hw3⟩ := hW9; go_simp; rfl))
      go_simp
      refine anyD_one (i := 15) (by kernel_rfl) rfl rfl (fun K hK => ?_)
      have HK := Lib.hid hK
      clear hK
      clear hS
      unfold Oper.wp
      go_simp
      have ownV := own.ext hbV
      have xr : SlR gnC (fun x => M0 x ∨ (Value.slice A L.length c).ownBlock = some x) (V0.alloc (.cells #[.int .i64 x1, .int .i64 x3] 84)) (.slice (some ⟨V0.heap.size, 0, none⟩) 1 1) [(x1, x3)] := SlR.built (C := gnC) (cs := [.int .i64 x1, .int .i64 x3]) 84 ⟨[.int .i64 x1], [.int .i64 x3], rfl, ⟨rfl, hrg.1⟩, ⟨rfl, hrg.2⟩⟩ fun x hx => hx.elim (fun h => h.elim) fun h => ownV.lt x h
      have hal : Below V0.heap.size V0 (V0.alloc (.cells #[.int .i64 x1, .int .i64 x3] 84)) := (Below.refl _ _).alloc (Nat.le_refl _) _
      generalize hV3 : V0.alloc (.cells #[.int .i64 x1, .int .i64 x3] 84) = V3 at xr hal ⊢
      have hb3 := below2 hbV hal
      have own3 := ownV.ext hal
      have kL3 := kL.ext hb3
      have hz3 := hb3.size
      have hS := HS.out V3 hb3
      refine HK.out _ _ (fun _ => hS) ?_
      clear HK
      go_simp
      refine anyD_one (i := 16) (by kernel_rfl) rfl rfl (fun K hK => ?_)
      have HK := Lib.hid hK
      clear hK
      clear hS
      refine wp_append_Own gnC (M := M0) (v := .slice A L.length c) (l := L) (l' := [(x1, x3)]) TSns (.tmp 16) (.tmp 30) rfl rfl own3 rfl xr (by have := HLl.out; simp only [maxLen, List.length_cons, List.length_nil]; omega) (by have := HLl.out; simp only [List.length_cons, List.length_nil]; omega) (by omega) ?_
      intro A4 c4 L4 V4 hL4 own4 hbl4 hgr4 hor4
      have hneo := own_ne_blk own3 kL3 (by decide)
      have kL4 := kL3.grown hgr4 (fun e => hneo gk e.symm rfl)
      have hlow : ∀ p : Addr, p.block < w0.heap.size → p.block < V3.heap.size → V4.cell? p = V3.cell? p := fun p h1 h2 => World.cell?_of_block (hgr4.block _ h2 fun e => by have := own3.base _ e.symm; omega)
      have hS4 : V4.cell? ⟨gk, 1, none⟩ = some (.slice A L.length c) ∧ V4.cell? ⟨g, 3, none⟩ = some (.slice (some ⟨bb, off, none⟩) b.es.length ce) ∧ V4.cell? ⟨bb, off + k * 6, none⟩ = some (.int .i64 x1) ∧ V4.cell? ⟨bb, off + k * 6 + 2, none⟩ = some (.int .i64 x3) := ⟨kL4.cell 1, (hlow ⟨g, 3, none⟩ (by show g < _; omega) (by show g < _; omega)).trans (HS.out V3 hb3).2.1, (hlow ⟨bb, _, none⟩ hbb1 (by show bb < _; omega)).trans (HS.out V3 hb3).2.2.1, (hlow ⟨bb, _, none⟩ hbb1 (by show bb < _; omega)).trans (HS.out V3 hb3).2.2.2⟩
      have hbr4 : Below w0.heap.size w0 V4 := (hbr.trans (hb3.mono hzr)).trans hbl4
      have hS := hS4
      refine HK.out _ _ (fun _ => hS) ?_
      clear HK
      (refine anyD_light (i := 17) (v := ?_) rfl (by kernel_rfl) (by kernel_rfl) (by kernel_rfl) (by kernel_rfl) (by kernel_rfl) (fun _ _ _ h => h) (.inl ⟨by kernel_rfl, fun W9 hW9 => ?_⟩) hS ?_; rotate_left; · (obtain ⟨hw0, hw1, hw2, hw3⟩ := hW9; go_simp; rfl))
      go_simp
      refine anyD_one (i := 18) (by kernel_rfl) rfl rfl (fun K hK => ?_)
      have HK := Lib.hid hK
      clear hK
      have x0 := kL4.frozen 1; have xl := kL4.lt; have y0 := kL4.cell 1
      unfold Oper.wp
      go_simp
      refine HK.out _ _ (fun h => by cases h) ?_
      clear HK
      go_simp
      refine anyD_done (by kernel_rfl) ?_ _
      have k5 : Blk (V4.setCell ⟨gk, 1, none⟩ (.slice A4 L4.length c4)) gk 40 #[.int .i64 b.ns, .slice A4 L4.length c4] := by simpa using kL4.set_ 1 (.slice A4 L4.length c4)
      have own5 : Own gnC M0 (V4.setCell ⟨gk, 1, none⟩ (.slice A4 L4.length c4)) w0.heap.size 84 (.slice A4 L4.length c4) L4 := (((own_freeM (M' := One gk) free_gn own4).turned ((Turned.refl gk _).set 1 _) rfl (own_ne_blk own4 kL4 (by decide)))).weak (Nat.le_refl _) (fun x hx => hx.elim)
      have hbr5 : Below w0.heap.size w0 (V4.setCell ⟨gk, 1, none⟩ (.slice A4 L4.length c4)) := Below.setCell hbr4 hgkl _
      generalize V4.setCell ⟨gk, 1, none⟩ (.slice A4 L4.length c4) = V5 at k5 own5 hbr5 ⊢
      have HL4 := Lib.hid (show L4 = (b.es.take (k + 1)).map fun e => (e.1, e.2.2.1) by rw [hL4.out, hL.out, Hcat.out, List.map_append]; rfl)
      clear x0 xl y0 kL4 own4 hgr4 hbl4 hor4 hL4 hbr4 own3 kL3 xr hal kL own
      go_wp2_with fail
      go_roundw
      case rel => exact ⟨k + 1, A4, c4, L4, by omega, by go_num, HL4, k5, own5, hbr5⟩
      case measure => simp [intOf]; omega
    · have hL2 : L = Mb.allV b := by rw [hL.out, List.take_of_length_le (by omega)]; rfl
      subst hL2
      have n0 := kL.cell 0; have n1 := kL.cell 1
      have k2r := k2.ext hbr
      obtain ⟨_, _, z0, z1, zl⟩ := k2r.two
      clear hL
      go_wp2_with fail
      obtain ⟨e0, e1⟩ := k2r.put2 (.int .i64 b.ns) (.slice A (Mb.allV b).length c)
      refine bodyPost_ret (v := .agg #[.int .i64 b.ns, .slice A (Mb.allV b).length c]) (by simp [results, Tryz.results10, go_sem, e0, e1]) rfl ⟨_, rfl, ?_, below_set2 (below2 hb0 hbr) hgl2 _ _⟩
      have h1 : SlR gnC (fun x => M x ∨ x = g2) wr (.slice A (Mb.allV b).length c) (Mb.allV b) := own_freeR free_gn own fun x hx => by
        rcases hx with hx | hx
        · have := HM.out x hx; omega
        · omega
      exact (h1.turned (((Turned.refl g2 _).set 0 _).set 1 _) (.inr rfl)).sub fun x _ hx => .inl hx
end Go.Proofs.YtjamjkjmlckgeaaGreatDoor

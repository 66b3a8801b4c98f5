/-
  The law TopCompactionIsInvisible: its walk.
-/
import Derived.Test.YtjamjkjmlckgeaaGreatDoorF22
import Derived.Test.YtjamjkjmlckgeaaGreatDoorF26
import Derived.Test.YtjamjkjmlckgeaaGreatDoorF11
import Derived.Deep.CutRange
import Derived.Deep.CutBlock
namespace Go.Proofs.YtjamjkjmlckgeaaGreatDoor
open Go.RowKit
set_option linter.unusedVariables false

set_option maxRecDepth 100000 in
set_option maxHeartbeats 16000000 in
theorem cm_ok (n0 : Nat) (w : World) (v : Value) (l : List Mb.Chg) (wh lo kn : Int) (hE : Env n0 w) (hn : n0 ≤ w.heap.size) (hl : SlR chgC M0 w v l) (hsz : ∀ c ∈ l, c.2.2.2.2.2.1.length ≤ 4398046511104 ∧ c.2.2.2.2.2.2.length ≤ 140737488355328) (hlo : -9223372036854775808 ≤ lo ∧ lo ≤ 9223372036854775807) :
    Calls Tryz.prog 3 #[v, .int .i64 wh, .int .i64 lo, .int .i64 kn] w fun e w' => e = .returned (.bool true) ∧ Below w.heap.size w w' := by
  obtain ⟨Al, cl, rfl, hlc, hlm⟩ := hl.form
  go_enter Tryz.func3, Tryz.ntmps3
  go_wp2_with fail
  refine (nbox_ok M0 w (fun x hx => hx.elim)).mono ?_
  rintro e w1 ⟨es, gs, he, hes, hgs, hb1⟩
  obtain ⟨Ae, ce, rfl, _, _⟩ := hes.form
  obtain ⟨Ag, cg, rfl, _, _⟩ := hgs.form
  have he : e = .returned (.tuple #[.agg #[.int .i64 2, .int .i64 2, .int .i64 0, .slice Ae 1 ce, .slice Ag 0 cg], .bool true]) := he
  subst he
  refine Hid.out ?_
  refine Lib.hid ?_
  obtain ⟨wa, g9, hwa, hg9, hsza, k9a, hba⟩ := box1 w1 #[.int .i64 0, .int .i64 0, .int .i64 0, .slice none 0 0, .slice none 0 0] 26
  obtain ⟨w2, hw2, ⟨m0, m1, m2, m3, m4⟩, ⟨x0, x1, x2, x3, x4, xl⟩, k9, hT9⟩ := land5 k9a (.int .i64 2) (.int .i64 2) (.int .i64 0) (.slice Ae 1 ce) (.slice Ag 0 cg)
  have hb2 : Below w1.heap.size w1 w2 := hba.trans (hT9.rest _ (by omega))
  have hb02 := below2 hb1 hb2
  have hz2 := hb02.size
  have q0 := k9.cell 0; have q1 := k9.cell 1; have q2 := k9.cell 2; have q3 := k9.cell 3; have q4 := k9.cell 4
  have hl2 := hl.ext hb02
  have hE2 := hE.ext hb02 hn
  have he2 := hes.ext hb2; have hg2 := hgs.ext hb2
  have hG := Mb.ex_lead.good
  have hcl := clog_ok n0 w2 Mb.exB _ _ hE2 (by omega) he2 hg2 (fun e he => by have h9 := (Mb.msg_ok (hG.es e he).2.2.2.2).2.2; omega)
  unfold boxV at hcl
  have hcl : Calls Tryz.prog 6 #[.agg #[.int .i64 2, .int .i64 2, .int .i64 0, .slice Ae 1 ce, .slice Ag 0 cg]] w2 _ := hcl
  have Hcl := Lib.hid hcl
  clear hcl hsza k9a hba hb2 hT9 hes hgs
  go_wp2_with fail
  refine Hcl.out.mono ?_
  rintro e w3 ⟨v3, d1, d2, rfl, hb3, hor⟩
  obtain ⟨hd1, hd2, own3⟩ : d1 = 0 ∧ d2 = 0 ∧ Own byteC M0 w3 w2.heap.size 5 v3 (Mb.logB (Mb.boxC Mb.exB)) := by
    rcases hor with ⟨h1, h2, _, _, h5⟩ | ⟨_, _, h⟩
    · exact ⟨h1, h2, h5⟩
    · exact absurd ⟨hG, by have := Mb.ex_lead.fit (by omega); omega⟩ h
  obtain ⟨A3, c3, rfl, _, _⟩ := own3.shape
  have Hown := Lib.hid own3
  have hz1 : (d1 != 0) = false := by rw [hd1]; rfl
  have Hd := Lib.hid (And.intro hd1 hd2)
  obtain ⟨w4, g12, hw4, hg12, hsz4, k12, hb4⟩ := box1 w3 #[.int .i64 d1, .int .i64 d2] 31
  have hb24 := below2 hb3 hb4
  have hz4 := hb24.size
  have hE4 := hE2.ext hb24 (by omega)
  have hrep := replay_ok M0 n0 w4 _ _ _ Mb.exB hE4 (by omega) (fun x hx => hx.elim) (own3.read0.ext hb4) (Mb.ex_lead.read (by omega)).1 (Mb.ex_lead.read (by omega)).2 Mb.ex_lead.inn (Mb.ex_lead.plays (by omega))
  have Hrep := Lib.hid hrep
  clear hor hd1 hd2 own3 hsz4 hrep Hcl q0 q1 q2 q3 q4 m0 m1 m2 m3 m4 x0 x1 x2 x3 x4 xl hw2 hwa
  refine Hid.out ?_
  refine Lib.hid ?_
  go_wp2_with fail
  refine Hrep.out.mono ?_
  rintro e w5 ⟨es5, gs5, he, he5, hg5, hb5⟩
  obtain ⟨Ae5, ce5, rfl, _, _⟩ := he5.form
  obtain ⟨Ag5, cg5, rfl, _, _⟩ := hg5.form
  have he : e = .returned (.tuple #[.agg #[.int .i64 2, .int .i64 2, .int .i64 0, .slice Ae5 1 ce5, .slice Ag5 0 cg5], .agg #[.int .i64 0, .int .i64 0]]) := he
  obtain ⟨z, hz9⟩ : ∃ z : Int, z = 0 := ⟨_, rfl⟩
  have he : e = .returned (.tuple #[.agg #[.int .i64 2, .int .i64 2, .int .i64 0, .slice Ae5 1 ce5, .slice Ag5 0 cg5], .agg #[.int .i64 z, .int .i64 z]]) := by rw [he, hz9]
  subst he
  have hzz : (z != 0) = false := by rw [hz9]; rfl
  obtain ⟨wb, g13, g14, hwb, hg13, hg14, hszb, k13a, k14a, hbb⟩ := box2 w5 #[.int .i64 0, .int .i64 0, .int .i64 0, .slice none 0 0, .slice none 0 0] 26 #[.int .i64 0, .int .i64 0] 31
  obtain ⟨wv, w6, hwv, hw6, ⟨m0, m1, m2, m3, m4⟩, ⟨x0, x1, x2, x3, x4, xl⟩, ⟨n0', n1', u0, u1, ul⟩, k13, k14, hbz, _⟩ := land52 k13a k14a (by omega) (.int .i64 2) (.int .i64 2) (.int .i64 0) (.slice Ae5 1 ce5) (.slice Ag5 0 cg5) (.int .i64 z) (.int .i64 z)
  have hb6 : Below w5.heap.size w5 w6 := hbb.trans (hbz _ (by omega) (by omega))
  have hb26 := below2 hb24 (below2 hb5 hb6)
  have hb46 := below2 hb5 hb6
  have k9x := k9.ext hb26; have k12x := k12.ext hb46
  have q0 := k9x.cell 0; have q1 := k9x.cell 1; have q2 := k9x.cell 2; have q3 := k9x.cell 3; have q4 := k9x.cell 4
  have r0 := k13.cell 0; have r1 := k13.cell 1; have r2 := k13.cell 2; have r3 := k13.cell 3; have r4 := k13.cell 4
  have p0 := k12x.cell 0; have s0 := k14.cell 0
  have hsame := sameBox_ok Mb.exB _ _ _ _ w6 (he2.ext hb26) (hg2.ext hb26) (he5.ext hb6) (hg5.ext hb6)
  unfold boxV at hsame
  have hsame : Calls Tryz.prog 8 #[.agg #[.int .i64 2, .int .i64 2, .int .i64 0, .slice Ae 1 ce, .slice Ag 0 cg], .agg #[.int .i64 2, .int .i64 2, .int .i64 0, .slice Ae5 1 ce5, .slice Ag5 0 cg5]] w6 _ := hsame
  have Hsame := Lib.hid hsame
  clear hsame hszb k13a k14a hbb hbz Hrep k13 k14 k12 hz9
  go_wp2_with fail
  refine Hsame.out.mono ?_
  rintro e w7 ⟨rfl, hb7⟩
  have hb27 := below2 hb26 hb7
  have k97 := k9.ext hb27
  clear q0 q1 q2 q3 q4 r0 r1 r2 r3 r4 p0 s0 m0 m1 m2 m3 m4 x0 x1 x2 x3 x4 xl n0' n1' u0 u1 ul hwv hw6 hwb Hsame k9x k12x
  by_cases hlen : 12 < l.length
  · have hli : (12 : Int) < (l.length : Int) := by omega
    go_wp2_with fail
    go_ret
    exact ⟨rfl, below2 hb02 hb27⟩
  have hli : ¬ (12 : Int) < (l.length : Int) := by omega
  go_wp2_with fail
  refine (new_ok w7).mono ?_
  rintro e w8 ⟨he, hb8⟩
  have he : e = .returned (.agg #[.int .i64 1, .int .i64 1, .int .i64 0, .slice none 0 0, .slice none 0 0]) := he
  subst he
  obtain ⟨w9, hw9, ⟨m0, m1, m2, m3, m4⟩, ⟨x0, x1, x2, x3, x4, xl⟩, k99, hT9⟩ := land5 (k97.ext hb8) (.int .i64 1) (.int .i64 1) (.int .i64 0) (.slice none 0 0) (.slice none 0 0)
  have hg9w : w.heap.size ≤ g9 := by have := hb1.size; omega
  have hb0 : Below w.heap.size w w9 := (below2 hb02 (below2 hb27 hb8)).trans (hT9.rest _ hg9w)
  have hzw := hb0.size
  have q0 := k99.cell 0; have q1 := k99.cell 1; have q2 := k99.cell 2; have q3 := k99.cell 3; have q4 := k99.cell 4
  have hvo := viewOf_ok (fun x => x = g9) Mb.newB (.slice none 0 0) (.slice none 0 0) w9 (fun x hx => by rw [hx]; exact k99.lt) (SlR.nil _ _ _) Mb.good_new
  unfold boxV at hvo
  have hvo : Calls Tryz.prog 10 #[.agg #[.int .i64 1, .int .i64 1, .int .i64 0, .slice none 0 0, .slice none 0 0]] w9 _ := hvo
  have Hvo := Lib.hid hvo
  clear hvo hT9
  go_wp2_with fail
  refine Hvo.out.mono ?_
  rintro e w10 ⟨vs, he, hvs, hb10⟩
  obtain ⟨Av, cv, rfl, _, _⟩ := hvs.form
  have he : e = .returned (.agg #[.int .i64 1, .slice Av 0 cv]) := he
  subst he
  obtain ⟨wc, g17, hwc, hg17, hszc, k17a, hbc⟩ := box1 w10 #[.int .i64 0, .slice none 0 0] 40
  obtain ⟨w11, hw11, ⟨y0, y1⟩, ⟨u0, u1, ul⟩, k17, hT17⟩ := land2 k17a (.int .i64 1) (.slice Av 0 cv)
  have hb11 : Below w10.heap.size w10 w11 := hbc.trans (hT17.rest _ (by omega))
  have hb911 := below2 hb10 hb11
  have hb011 := below2 hb0 hb911
  have k911 := k99.ext hb911
  have hvs11 := hvs.ext hb11
  clear q0 q1 q2 q3 q4 m0 m1 m2 m3 m4 x0 x1 x2 x3 x4 xl hw9 hszc k17a hbc hT17 Hvo
  go_wp2_with fail
  obtain ⟨Mx, hMx⟩ : ∃ Mx : Nat → Prop, Mx = fun x => x = g9 ∨ x = g17 := ⟨_, rfl⟩
  have hvs17 : SlR gnC Mx w11 (.slice Av 0 cv) [] := (hvs.sub (M' := Mx) fun b hb h => by
    rw [hMx] at h
    rcases h with h | h
    · exact h
    · omega).ext hb11
  have hlB : SlR chgC (fun x => w.heap.size ≤ x) w11 (.slice Al l.length cl) l := hl.fromB.belowB hb011
  have hvg : Mb.VGood (1, []) := Mb.view_of Mb.good_new
  have Hst := Lib.hid (And.intro hvg (And.intro hvs17 hb011))
  have HMx := Lib.hid hMx
  have hne917 : g9 < g17 := by have h1 := k99.lt; have h2 := hb10.size; omega
  have hgl9 := k911.lt; have hgl17 := k17.lt; have hw11s := hb011.size
  clear hvs hvs11 hvs17 hvg hMx
  go_loopw [19, 20] (fun u i wr => ∃ (k : Nat) (b : Mb.Box) (made : List Mb.Chg) (A : Option Addr) (c : Nat) (Ae : Option Addr) (ce : Nat) (Ag : Option Addr) (cg : Nat) (vq : Int) (vl : List Mb.Seen) (Av : Option Addr) (cv : Nat), k ≤ l.length ∧ i = .int .i64 (k : Int) ∧ u = .slice A made.length c ∧ Hid (Mb.Runs Mb.newB made b ∧ made.length ≤ k ∧ ∀ c ∈ made, c ∈ l) ∧ Hid (Mb.VGood (vq, vl) ∧ vl.length ≤ 400) ∧ Blk wr g9 26 #[.int .i64 b.nu, .int .i64 b.ns, .int .i64 b.hz, .slice Ae b.es.length ce, .slice Ag b.gs.length cg] ∧ Blk wr g17 40 #[.int .i64 vq, .slice Av vl.length cv] ∧ Hid (SlR entC (OwnB Mx (.slice A made.length c)) wr (.slice Ae b.es.length ce) b.es ∧ SlR gnC (OwnB Mx (.slice A made.length c)) wr (.slice Ag b.gs.length cg) b.gs ∧ SlR gnC (OwnB Mx (.slice A made.length c)) wr (.slice Av vl.length cv) vl) ∧ Own chgC Mx wr w11.heap.size 47 (.slice A made.length c) made ∧ Hid (Below w.heap.size w wr) ∧ w11.heap.size ≤ wr.heap.size) (fun _ i _ => l.length - (intOf i).toNat)
  case atStart => exact ⟨0, Mb.newB, [], none, 0, none, 0, none, 0, 1, [], Av, cv, Nat.zero_le _, rfl, rfl, Lib.hid ⟨rfl, Nat.le_refl _, fun c hc => by cases hc⟩, Lib.hid ⟨Hst.out.1, by simp⟩, k911, k17, Lib.hid ⟨SlR.nil _ _ _, SlR.nil _ _ _, Hst.out.2.1.sub fun x _ hx => hx.elim id fun h => (by simp [Value.ownBlock] at h)⟩, Own.nil _ _ _ _ _, Lib.hid Hst.out.2.2, Nat.le_refl _⟩
  case round =>
    clear y0 y1 u0 u1 ul hw11 hwc k911 k17 Hst
    obtain ⟨k, b, made, A, c, Ae', ce', Ag', cg', vq, vl, Av', cv', hk, rfl, rfl, hruns, hvg, k9r, k17r, hrd, own, hbr, hzr⟩ := hrel
    by_cases hlt : k < l.length
    · obtain ⟨be, off, Af, cf, Ab, cb, rfl, hMb, hbe, ⟨t0, t1, t2, t3, t4, t5, t6⟩, hf, hbd, hrg⟩ := (hl.fromB.belowB hbr.out).chgAt hlt
      have hszk := hsz _ (List.getElem_mem hlt)
      have hmem := List.getElem_mem hlt
      obtain ⟨cc, hx⟩ : ∃ x, x = l[k] := ⟨_, rfl⟩
      rw [← hx] at t0 t1 t2 t3 t4 t5 t6 hf hbd hrg hszk hmem
      obtain ⟨kd, ud, st, cr, tm, f, bd⟩ := cc
      dsimp only at t0 t1 t2 t3 t4 t5 t6 hf hbd hrg hszk
      have hi0 : (0 : Int) ≤ (k : Int) := by omega
      have hi1 : (k : Int) < (l.length : Int) := by omega
      have hq1 : IntKind.i64.wrap (k : Int) = (k : Int) := IntWalk.i64_in _ (by omega)
      have HS := Lib.hid (show ∀ W, Below wr.heap.size wr W → W.cell? ⟨g9, 0, none⟩ = some (.int .i64 b.nu) ∧ W.cell? ⟨g9, 1, none⟩ = some (.int .i64 b.ns) ∧ W.cell? ⟨g9, 2, none⟩ = some (.int .i64 b.hz) ∧ W.cell? ⟨g9, 3, none⟩ = some (.slice Ae' b.es.length ce') ∧ W.cell? ⟨g9, 4, none⟩ = some (.slice Ag' b.gs.length cg') ∧ W.cell? ⟨be, off + k * 7, none⟩ = some (.int .i64 kd) ∧ W.cell? ⟨be, off + k * 7 + 1, none⟩ = some (.int .i64 ud) ∧ W.cell? ⟨be, off + k * 7 + 2, none⟩ = some (.int .i64 st) ∧ W.cell? ⟨be, off + k * 7 + 3, none⟩ = some (.int .i64 cr) ∧ W.cell? ⟨be, off + k * 7 + 4, none⟩ = some (.int .i64 tm) ∧ W.cell? ⟨be, off + k * 7 + 5, none⟩ = some (.slice Af f.length cf) ∧ W.cell? ⟨be, off + k * 7 + 6, none⟩ = some (.slice Ab bd.length cb) from fun W hW => ⟨(k9r.ext hW).cell 0, (k9r.ext hW).cell 1, (k9r.ext hW).cell 2, (k9r.ext hW).cell 3, (k9r.ext hW).cell 4, (hW.cell (p := ⟨be, off + k * 7, none⟩) hbe).trans t0, (hW.cell (p := ⟨be, off + k * 7 + 1, none⟩) hbe).trans t1, (hW.cell (p := ⟨be, off + k * 7 + 2, none⟩) hbe).trans t2, (hW.cell (p := ⟨be, off + k * 7 + 3, none⟩) hbe).trans t3, (hW.cell (p := ⟨be, off + k * 7 + 4, none⟩) hbe).trans t4, (hW.cell (p := ⟨be, off + k * 7 + 5, none⟩) hbe).trans t5, (hW.cell (p := ⟨be, off + k * 7 + 6, none⟩) hbe).trans t6⟩)
      have hS := HS.out _ (below_drewN' wr.heap.size wr 1)
      clear hx t0 t1 t2 t3 t4 t5 t6
      have hml := hruns.out.2.1
      have hrgood := Mb.runs_good made Mb.newB b hruns.out.1 Mb.good_new (by show 0 + made.length ≤ 400; omega)
      have hGb := hrgood.1
      obtain ⟨rb, hrb⟩ : ∃ r, r = Mb.appF b (kd, ud, st, cr, tm, f, bd) := ⟨_, rfl⟩
      obtain ⟨rbb, r1, r2⟩ := rb
      have hMlt : ∀ x, OwnB Mx (.slice A made.length c) x → x < wr.heap.size := fun x hx => by
        have h2 := k9r.lt; have h3 := k17r.lt
        rcases hx with hx | hx
        · rw [HMx.out] at hx
          rcases hx with hx | hx <;> omega
        · exact own.lt x hx
      have hap := fun W (Mc : Nat → Prop) (h0 : ∀ x, Mc x → x < W.heap.size) (hW : Below wr.heap.size wr W) (hs : ∀ x, x < wr.heap.size → Mc x → OwnB Mx (.slice A made.length c) x) => Apply_ok Mc b (kd, ud, st, cr, tm, f, bd) (.slice Ae' b.es.length ce') (.slice Ag' b.gs.length cg') (.slice Af f.length cf) (.slice Ab bd.length cb) W h0 ((hrd.out.1.sub hs).ext hW) ((hrd.out.2.1.sub hs).ext hW) (hf.zero.ext hW) (hbd.zero.ext hW) (fun e he => by have h9 := (Mb.msg_ok (hGb.es e he).2.2.2.2).2.2; omega) hszk.1 hszk.2 (fun _ => by have := hrgood.2.2; have h0 : Mb.newB.gs.length = 0 := rfl; omega)
      rw [← hrb] at hap
      dsimp only at hap
      unfold boxV chgV at hap
      have Hap := Lib.hid hap
      have Hrb := Lib.hid hrb
      have HMlt := Lib.hid hMlt
      have Hfb := Lib.hid (And.intro hf hbd)
      have HGb := Lib.hid hGb
      have Hrg := Lib.hid hrg
      clear hap hrb hf hbd hMlt hGb hrgood hrg hszk
      go_upto_region 17 with fail
      go_cut [21, 22] from 82 to 90 (fun v21 v22 wx => ∃ g21 g22 es' gs', v21 = .pointer (some ⟨g21, 0, none⟩) ∧ v22 = .pointer (some ⟨g22, 0, none⟩) ∧ Hid (RnAt (OwnB Mx (.slice A made.length c)) wr rbb r1 r2 g21 g22 es' gs' wx))
      case first =>
        refine wp_region_D (fun W => W.cell? ⟨g9, 0, none⟩ = some (.int .i64 b.nu) ∧ W.cell? ⟨g9, 1, none⟩ = some (.int .i64 b.ns) ∧ W.cell? ⟨g9, 2, none⟩ = some (.int .i64 b.hz) ∧ W.cell? ⟨g9, 3, none⟩ = some (.slice Ae' b.es.length ce') ∧ W.cell? ⟨g9, 4, none⟩ = some (.slice Ag' b.gs.length cg') ∧ W.cell? ⟨be, off + k * 7, none⟩ = some (.int .i64 kd) ∧ W.cell? ⟨be, off + k * 7 + 1, none⟩ = some (.int .i64 ud) ∧ W.cell? ⟨be, off + k * 7 + 2, none⟩ = some (.int .i64 st) ∧ W.cell? ⟨be, off + k * 7 + 3, none⟩ = some (.int .i64 cr) ∧ W.cell? ⟨be, off + k * 7 + 4, none⟩ = some (.int .i64 tm) ∧ W.cell? ⟨be, off + k * 7 + 5, none⟩ = some (.slice Af f.length cf) ∧ W.cell? ⟨be, off + k * 7 + 6, none⟩ = some (.slice Ab bd.length cb)) (fun j => j == 12) (by kernel_rfl) ?_
        change anyD _ _ _ _ _ _ _ _ _ (wr.drewN 1)
        have hbc := below_drewN' wr.heap.size wr 1
        generalize wr.drewN 1 = V0 at hS hbc ⊢
        (refine anyD_light (i := 0) (v := ?_) rfl (by kernel_rfl) (by kernel_rfl) (by kernel_rfl) (by kernel_rfl) (by kernel_rfl) (fun _ _ _ h => h) (.inl ⟨by kernel_rfl, fun W9 hW9 => ?_⟩) hS ?_; rotate_left; · (obtain ⟨hw0, hw1, hw2, hw3, hw4, hw5, hw6, hw7, hw8, hw9, hw10, hw11⟩ := hW9; go_simp; rfl))
        (refine anyD_light (i := 1) (v := ?_) rfl (by kernel_rfl) (by kernel_rfl) (by kernel_rfl) (by kernel_rfl) (by kernel_rfl) (fun _ _ _ h => h) (.inl ⟨by kernel_rfl, fun W9 hW9 => ?_⟩) hS ?_; rotate_left; · (obtain ⟨hw0, hw1, hw2, hw3, hw4, hw5, hw6, hw7, hw8, hw9, hw10, hw11⟩ := hW9; go_simp; rfl))
        (refine anyD_light (i := 2) (v := ?_) rfl (by kernel_rfl) (by kernel_rfl) (by kernel_rfl) (by kernel_rfl) (by kernel_rfl) (fun _ _ _ h => h) (.inl ⟨by kernel_rfl, fun W9 hW9 => ?_⟩) hS ?_; rotate_left; · (obtain ⟨hw0, hw1, hw2, hw3, hw4, hw5, hw6, hw7, hw8, hw9, hw10, hw11⟩ := hW9; go_simp; rfl))
        (refine anyD_light (i := 3) (v := ?_) rfl (by kernel_rfl) (by kernel_rfl) (by kernel_rfl) (by kernel_rfl) (by kernel_rfl) (fun _ _ _ h => h) (.inl ⟨by kernel_rfl, fun W9 hW9 => ?_⟩) hS ?_; rotate_left; · (obtain ⟨hw0, hw1, hw2, hw3, hw4, hw5, hw6, hw7, hw8, hw9, hw10, hw11⟩ := hW9; go_simp; rfl))
        go_simp
        (refine anyD_light (i := 4) (v := ?_) rfl (by kernel_rfl) (by kernel_rfl) (by kernel_rfl) (by kernel_rfl) (by kernel_rfl) (fun _ _ _ h => h) (.inl ⟨by kernel_rfl, fun W9 hW9 => ?_⟩) hS ?_; rotate_left; · (obtain ⟨hw0, hw1, hw2, hw3, hw4, hw5, hw6, hw7, hw8, hw9, hw10, hw11⟩ := hW9; go_simp; rfl))
        go_simp
        refine anyD_pick [5, 9, 10] (by kernel_rfl) (by decide) ?_
        intro j hj
        simp only [List.mem_cons, List.not_mem_nil, or_false] at hj
        rcases hj with rfl | rfl | rfl
        · refine ⟨_, rfl, rfl, fun K hK => ?_⟩
          have HK := Lib.hid hK
          clear hK
          unfold Oper.wp
          go_simp
          have hMc : ∀ x, OwnB Mx (.slice A made.length c) x ∨ (wr.heap.size ≤ x ∧ x < V0.heap.size) → x < V0.heap.size := fun x hx => by have h9 := hbc.size; exact hx.elim (fun h => Nat.lt_of_lt_of_le (HMlt.out x h) h9) fun h => h.2
          have hap2 := Hap.out V0 (fun x => OwnB Mx (.slice A made.length c) x ∨ (wr.heap.size ≤ x ∧ x < V0.heap.size)) hMc hbc (fun x hx h => h.elim id fun h => absurd h.1 (by omega))
          refine hap2.mono ?_
          rintro e V1 ⟨es9, gs9, rfl, oE9, oG9, hb9⟩
          clear hap2
          obtain ⟨A6, c6, rfl, _, _⟩ := oE9.shape
          obtain ⟨A7, c7, rfl, _, _⟩ := oG9.shape
          obtain ⟨rE, rG⟩ := rows_of hMc oE9 oG9
          clear oE9 oG9 hMc
          have Hn : Hid (V0.heap.size ≤ V1.heap.size ∧ wr.heap.size ≤ V0.heap.size) := Lib.hid ⟨hb9.size, hbc.size⟩
          replace hbc := hbc.trans (hb9.mono hbc.size)
          clear hb9
          clear hS
          have hS := HS.out _ hbc
          refine HK.out _ _ (fun _ => hS) ?_
          clear HK
          (refine anyD_light (i := 6) (v := ?_) rfl (by kernel_rfl) (by kernel_rfl) (by kernel_rfl) (by kernel_rfl) (by kernel_rfl) (fun _ _ _ h => h) (.inl ⟨by kernel_rfl, fun W9 hW9 => ?_⟩) hS ?_; rotate_left; · (obtain ⟨hw0, hw1, hw2, hw3, hw4, hw5, hw6, hw7, hw8, hw9, hw10, hw11⟩ := hW9; go_simp; rfl))
          (refine anyD_light (i := 7) (v := ?_) rfl (by kernel_rfl) (by kernel_rfl) (by kernel_rfl) (by kernel_rfl) (by kernel_rfl) (fun _ _ _ h => h) (.inl ⟨by kernel_rfl, fun W9 hW9 => ?_⟩) hS ?_; rotate_left; · (obtain ⟨hw0, hw1, hw2, hw3, hw4, hw5, hw6, hw7, hw8, hw9, hw10, hw11⟩ := hW9; go_simp; rfl))
          (refine anyD_light (i := 8) (v := ?_) rfl (by kernel_rfl) (by kernel_rfl) (by kernel_rfl) (by kernel_rfl) (by kernel_rfl) (fun _ _ _ h => h) (.inl ⟨by kernel_rfl, fun W9 hW9 => ?_⟩) hS ?_; rotate_left; · (obtain ⟨hw0, hw1, hw2, hw3, hw4, hw5, hw6, hw7, hw8, hw9, hw10, hw11⟩ := hW9; go_simp; rfl))
          go_simp
          refine anyD_pick [9, 10] (by kernel_rfl) (by decide) ?_
          intro j hj
          simp only [List.mem_cons, List.not_mem_nil, or_false] at hj
          rcases hj with rfl | rfl
          · refine ⟨_, rfl, rfl, fun K hK => ?_⟩
            have HK := Lib.hid hK
            clear hK
            unfold Oper.wp
            go_simp
            obtain ⟨V2, g21, hV, hgg21, hss21, k21, hal⟩ := box1 V1 #[.int .i64 0, .int .i64 0, .int .i64 0, .slice none 0 0, .slice none 0 0] 26
            rw [hV, hgg21]
            have Hg21 : Hid (V1.heap.size = g21 ∧ V2.heap.size = g21 + 1 ∧ wr.heap.size ≤ g21) := Lib.hid ⟨hgg21, hss21, by have := hbc.size; omega⟩
            clear hV hgg21 hss21
            replace rE := rE.ext hal
            replace rG := rG.ext hal
            replace hbc := hbc.trans (hal.mono hbc.size)
            clear hal
            clear hS
            have hS := HS.out _ hbc
            refine HK.out _ _ (fun _ => hS) ?_
            clear HK
            go_simp
            refine anyD_one (i := 10) (by kernel_rfl) rfl rfl (fun K hK => ?_)
            have HK := Lib.hid hK
            clear hK
            unfold Oper.wp
            go_simp
            obtain ⟨V3, g22, hV, hgg22, hss22, k22, hal⟩ := box1 V2 #[.int .i64 0, .int .i64 0] 31
            rw [hV, hgg22]
            have Hg22 : Hid (V2.heap.size = g22 ∧ V3.heap.size = g22 + 1 ∧ wr.heap.size ≤ g22) := Lib.hid ⟨hgg22, hss22, by have := hbc.size; omega⟩
            clear hV hgg22 hss22
            replace k21 := k21.ext hal
            replace rE := rE.ext hal
            replace rG := rG.ext hal
            replace hbc := hbc.trans (hal.mono hbc.size)
            clear hal
            clear hS
            have hS := HS.out _ hbc
            refine HK.out _ _ (fun _ => hS) ?_
            clear HK
            go_simp
            have hne : g21 ≠ g22 := by have := Hg21.out; have := Hg22.out; have := Hn.out; omega
            have Hfin := Lib.hid (fun W hW => RnAt.make (Mx := OwnB Mx (.slice A made.length c)) (wo := wr) (rb := rbb) (r1 := r1) (r2 := r2) (W := W) (n1 := V0.heap.size) (n2 := V1.heap.size) hbc k21 k22 hne Hg21.out.2.2 Hg22.out.2.2 (by have := Hg21.out; have := Hg22.out; have := Hn.out; omega) (by have := Hg21.out; have := Hg22.out; have := Hn.out; omega) rE rG hW)
            have m0 := k21.cell 0; have m1 := k21.cell 1; have m2 := k21.cell 2; have m3 := k21.cell 3; have m4 := k21.cell 4; have x0 := k21.frozen 0; have x1 := k21.frozen 1; have x2 := k21.frozen 2; have x3 := k21.frozen 3; have x4 := k21.frozen 4; have xl := k21.lt
            have hTq := put5_turned V3 g21 (.int .i64 rbb.nu) (.int .i64 rbb.ns) (.int .i64 rbb.hz) (.slice A6 rbb.es.length c6) (.slice A7 rbb.gs.length c7)
            obtain ⟨n0c, n1c, u0, u1, ul⟩ := (k22.turned hTq hne.symm).two
            have hbx := hbc.trans (hTq.rest _ Hg21.out.2.2)
            unfold put5 at *
            go_simp
            refine anyD_one (i := 11) (by kernel_rfl) rfl rfl (fun K hK => ?_)
            have HK := Lib.hid hK
            clear hK
            unfold Oper.wp
            go_simp
            refine HK.out _ _ (fun _ => HS.out _ hbx) ?_
            clear HK
            go_simp
            refine anyD_one (i := 12) (by kernel_rfl) rfl rfl (fun K hK => ?_)
            have HK := Lib.hid hK
            clear hK
            unfold Oper.wp
            go_simp
            refine HK.out _ _ (fun h => by cases h) ?_
            clear HK hbx
            go_simp
            refine anyD_done (by kernel_rfl) ?_ _
            clear m0 m1 m2 m3 m4 x0 x1 x2 x3 x4 xl hTq n0c n1c u0 u1 ul k21 k22 rE rG hbc
            go_wp2
            go_meet
            exact ⟨g21, g22, _, _, rfl, rfl, Lib.hid (Hfin.out _ rfl)⟩
          · refine ⟨_, rfl, rfl, fun K hK => ?_⟩
            have HK := Lib.hid hK
            clear hK
            unfold Oper.wp
            go_simp
            obtain ⟨V2, g22, hV, hgg22, hss22, k22, hal⟩ := box1 V1 #[.int .i64 0, .int .i64 0] 31
            rw [hV, hgg22]
            have Hg22 : Hid (V1.heap.size = g22 ∧ V2.heap.size = g22 + 1 ∧ wr.heap.size ≤ g22) := Lib.hid ⟨hgg22, hss22, by have := hbc.size; omega⟩
            clear hV hgg22 hss22
            replace rE := rE.ext hal
            replace rG := rG.ext hal
            replace hbc := hbc.trans (hal.mono hbc.size)
            clear hal
            clear hS
            have hS := HS.out _ hbc
            refine HK.out _ _ (fun _ => hS) ?_
            clear HK
            go_simp
            refine anyD_one (i := 9) (by kernel_rfl) rfl rfl (fun K hK => ?_)
            have HK := Lib.hid hK
            clear hK
            unfold Oper.wp
            go_simp
            obtain ⟨V3, g21, hV, hgg21, hss21, k21, hal⟩ := box1 V2 #[.int .i64 0, .int .i64 0, .int .i64 0, .slice none 0 0, .slice none 0 0] 26
            rw [hV, hgg21]
            have Hg21 : Hid (V2.heap.size = g21 ∧ V3.heap.size = g21 + 1 ∧ wr.heap.size ≤ g21) := Lib.hid ⟨hgg21, hss21, by have := hbc.size; omega⟩
            clear hV hgg21 hss21
            replace k22 := k22.ext hal
            replace rE := rE.ext hal
            replace rG := rG.ext hal
            replace hbc := hbc.trans (hal.mono hbc.size)
            clear hal
            clear hS
            have hS := HS.out _ hbc
            refine HK.out _ _ (fun _ => hS) ?_
            clear HK
            go_simp
            have hne : g21 ≠ g22 := by have := Hg21.out; have := Hg22.out; have := Hn.out; omega
            have Hfin := Lib.hid (fun W hW => RnAt.make (Mx := OwnB Mx (.slice A made.length c)) (wo := wr) (rb := rbb) (r1 := r1) (r2 := r2) (W := W) (n1 := V0.heap.size) (n2 := V1.heap.size) hbc k21 k22 hne Hg21.out.2.2 Hg22.out.2.2 (by have := Hg21.out; have := Hg22.out; have := Hn.out; omega) (by have := Hg21.out; have := Hg22.out; have := Hn.out; omega) rE rG hW)
            have m0 := k21.cell 0; have m1 := k21.cell 1; have m2 := k21.cell 2; have m3 := k21.cell 3; have m4 := k21.cell 4; have x0 := k21.frozen 0; have x1 := k21.frozen 1; have x2 := k21.frozen 2; have x3 := k21.frozen 3; have x4 := k21.frozen 4; have xl := k21.lt
            have hTq := put5_turned V3 g21 (.int .i64 rbb.nu) (.int .i64 rbb.ns) (.int .i64 rbb.hz) (.slice A6 rbb.es.length c6) (.slice A7 rbb.gs.length c7)
            obtain ⟨n0c, n1c, u0, u1, ul⟩ := (k22.turned hTq hne.symm).two
            have hbx := hbc.trans (hTq.rest _ Hg21.out.2.2)
            unfold put5 at *
            go_simp
            refine anyD_one (i := 11) (by kernel_rfl) rfl rfl (fun K hK => ?_)
            have HK := Lib.hid hK
            clear hK
            unfold Oper.wp
            go_simp
            refine HK.out _ _ (fun _ => HS.out _ hbx) ?_
            clear HK
            go_simp
            refine anyD_one (i := 12) (by kernel_rfl) rfl rfl (fun K hK => ?_)
            have HK := Lib.hid hK
            clear hK
            unfold Oper.wp
            go_simp
            refine HK.out _ _ (fun h => by cases h) ?_
            clear HK hbx
            go_simp
            refine anyD_done (by kernel_rfl) ?_ _
            clear m0 m1 m2 m3 m4 x0 x1 x2 x3 x4 xl hTq n0c n1c u0 u1 ul k21 k22 rE rG hbc
            go_wp2
            go_meet
            exact ⟨g21, g22, _, _, rfl, rfl, Lib.hid (Hfin.out _ rfl)⟩
        · refine ⟨_, rfl, rfl, fun K hK => ?_⟩
          have HK := Lib.hid hK
          clear hK
          unfold Oper.wp
          go_simp
          obtain ⟨V1, g21, hV, hgg21, hss21, k21, hal⟩ := box1 V0 #[.int .i64 0, .int .i64 0, .int .i64 0, .slice none 0 0, .slice none 0 0] 26
          rw [hV, hgg21]
          have Hg21 : Hid (V0.heap.size = g21 ∧ V1.heap.size = g21 + 1 ∧ wr.heap.size ≤ g21) := Lib.hid ⟨hgg21, hss21, by have := hbc.size; omega⟩
          clear hV hgg21 hss21
          replace hbc := hbc.trans (hal.mono hbc.size)
          clear hal
          clear hS
          have hS := HS.out _ hbc
          refine HK.out _ _ (fun _ => hS) ?_
          clear HK
          go_simp
          refine anyD_pick [5, 10] (by kernel_rfl) (by decide) ?_
          intro j hj
          simp only [List.mem_cons, List.not_mem_nil, or_false] at hj
          rcases hj with rfl | rfl
          · refine ⟨_, rfl, rfl, fun K hK => ?_⟩
            have HK := Lib.hid hK
            clear hK
            unfold Oper.wp
            go_simp
            have hMc : ∀ x, OwnB Mx (.slice A made.length c) x ∨ (wr.heap.size ≤ x ∧ x < V1.heap.size) → x < V1.heap.size := fun x hx => by have h9 := hbc.size; exact hx.elim (fun h => Nat.lt_of_lt_of_le (HMlt.out x h) h9) fun h => h.2
            have hap2 := Hap.out V1 (fun x => OwnB Mx (.slice A made.length c) x ∨ (wr.heap.size ≤ x ∧ x < V1.heap.size)) hMc hbc (fun x hx h => h.elim id fun h => absurd h.1 (by omega))
            refine hap2.mono ?_
            rintro e V2 ⟨es9, gs9, rfl, oE9, oG9, hb9⟩
            clear hap2
            obtain ⟨A6, c6, rfl, _, _⟩ := oE9.shape
            obtain ⟨A7, c7, rfl, _, _⟩ := oG9.shape
            obtain ⟨rE, rG⟩ := rows_of hMc oE9 oG9
            clear oE9 oG9 hMc
            replace k21 := k21.ext hb9
            have Hn : Hid (V1.heap.size ≤ V2.heap.size ∧ wr.heap.size ≤ V1.heap.size) := Lib.hid ⟨hb9.size, hbc.size⟩
            replace hbc := hbc.trans (hb9.mono hbc.size)
            clear hb9
            clear hS
            have hS := HS.out _ hbc
            refine HK.out _ _ (fun _ => hS) ?_
            clear HK
            (refine anyD_light (i := 6) (v := ?_) rfl (by kernel_rfl) (by kernel_rfl) (by kernel_rfl) (by kernel_rfl) (by kernel_rfl) (fun _ _ _ h => h) (.inl ⟨by kernel_rfl, fun W9 hW9 => ?_⟩) hS ?_; rotate_left; · (obtain ⟨hw0, hw1, hw2, hw3, hw4, hw5, hw6, hw7, hw8, hw9, hw10, hw11⟩ := hW9; go_simp; rfl))
            (refine anyD_light (i := 7) (v := ?_) rfl (by kernel_rfl) (by kernel_rfl) (by kernel_rfl) (by kernel_rfl) (by kernel_rfl) (fun _ _ _ h => h) (.inl ⟨by kernel_rfl, fun W9 hW9 => ?_⟩) hS ?_; rotate_left; · (obtain ⟨hw0, hw1, hw2, hw3, hw4, hw5, hw6, hw7, hw8, hw9, hw10, hw11⟩ := hW9; go_simp; rfl))
            (refine anyD_light (i := 8) (v := ?_) rfl (by kernel_rfl) (by kernel_rfl) (by kernel_rfl) (by kernel_rfl) (by kernel_rfl) (fun _ _ _ h => h) (.inl ⟨by kernel_rfl, fun W9 hW9 => ?_⟩) hS ?_; rotate_left; · (obtain ⟨hw0, hw1, hw2, hw3, hw4, hw5, hw6, hw7, hw8, hw9, hw10, hw11⟩ := hW9; go_simp; rfl))
            go_simp
            refine anyD_one (i := 10) (by kernel_rfl) rfl rfl (fun K hK => ?_)
            have HK := Lib.hid hK
            clear hK
            unfold Oper.wp
            go_simp
            obtain ⟨V3, g22, hV, hgg22, hss22, k22, hal⟩ := box1 V2 #[.int .i64 0, .int .i64 0] 31
            rw [hV, hgg22]
            have Hg22 : Hid (V2.heap.size = g22 ∧ V3.heap.size = g22 + 1 ∧ wr.heap.size ≤ g22) := Lib.hid ⟨hgg22, hss22, by have := hbc.size; omega⟩
            clear hV hgg22 hss22
            replace k21 := k21.ext hal
            replace rE := rE.ext hal
            replace rG := rG.ext hal
            replace hbc := hbc.trans (hal.mono hbc.size)
            clear hal
            clear hS
            have hS := HS.out _ hbc
            refine HK.out _ _ (fun _ => hS) ?_
            clear HK
            go_simp
            have hne : g21 ≠ g22 := by have := Hg21.out; have := Hg22.out; have := Hn.out; omega
            have Hfin := Lib.hid (fun W hW => RnAt.make (Mx := OwnB Mx (.slice A made.length c)) (wo := wr) (rb := rbb) (r1 := r1) (r2 := r2) (W := W) (n1 := V1.heap.size) (n2 := V2.heap.size) hbc k21 k22 hne Hg21.out.2.2 Hg22.out.2.2 (by have := Hg21.out; have := Hg22.out; have := Hn.out; omega) (by have := Hg21.out; have := Hg22.out; have := Hn.out; omega) rE rG hW)
            have m0 := k21.cell 0; have m1 := k21.cell 1; have m2 := k21.cell 2; have m3 := k21.cell 3; have m4 := k21.cell 4; have x0 := k21.frozen 0; have x1 := k21.frozen 1; have x2 := k21.frozen 2; have x3 := k21.frozen 3; have x4 := k21.frozen 4; have xl := k21.lt
            have hTq := put5_turned V3 g21 (.int .i64 rbb.nu) (.int .i64 rbb.ns) (.int .i64 rbb.hz) (.slice A6 rbb.es.length c6) (.slice A7 rbb.gs.length c7)
            obtain ⟨n0c, n1c, u0, u1, ul⟩ := (k22.turned hTq hne.symm).two
            have hbx := hbc.trans (hTq.rest _ Hg21.out.2.2)
            unfold put5 at *
            go_simp
            refine anyD_one (i := 11) (by kernel_rfl) rfl rfl (fun K hK => ?_)
            have HK := Lib.hid hK
            clear hK
            unfold Oper.wp
            go_simp
            refine HK.out _ _ (fun _ => HS.out _ hbx) ?_
            clear HK
            go_simp
            refine anyD_one (i := 12) (by kernel_rfl) rfl rfl (fun K hK => ?_)
            have HK := Lib.hid hK
            clear hK
            unfold Oper.wp
            go_simp
            refine HK.out _ _ (fun h => by cases h) ?_
            clear HK hbx
            go_simp
            refine anyD_done (by kernel_rfl) ?_ _
            clear m0 m1 m2 m3 m4 x0 x1 x2 x3 x4 xl hTq n0c n1c u0 u1 ul k21 k22 rE rG hbc
            go_wp2
            go_meet
            exact ⟨g21, g22, _, _, rfl, rfl, Lib.hid (Hfin.out _ rfl)⟩
          · refine ⟨_, rfl, rfl, fun K hK => ?_⟩
            have HK := Lib.hid hK
            clear hK
            unfold Oper.wp
            go_simp
            obtain ⟨V2, g22, hV, hgg22, hss22, k22, hal⟩ := box1 V1 #[.int .i64 0, .int .i64 0] 31
            rw [hV, hgg22]
            have Hg22 : Hid (V1.heap.size = g22 ∧ V2.heap.size = g22 + 1 ∧ wr.heap.size ≤ g22) := Lib.hid ⟨hgg22, hss22, by have := hbc.size; omega⟩
            clear hV hgg22 hss22
            replace k21 := k21.ext hal
            replace hbc := hbc.trans (hal.mono hbc.size)
            clear hal
            clear hS
            have hS := HS.out _ hbc
            refine HK.out _ _ (fun _ => hS) ?_
            clear HK
            go_simp
            refine anyD_one (i := 5) (by kernel_rfl) rfl rfl (fun K hK => ?_)
            have HK := Lib.hid hK
            clear hK
            unfold Oper.wp
            go_simp
            have hMc : ∀ x, OwnB Mx (.slice A made.length c) x ∨ (wr.heap.size ≤ x ∧ x < V2.heap.size) → x < V2.heap.size := fun x hx => by have h9 := hbc.size; exact hx.elim (fun h => Nat.lt_of_lt_of_le (HMlt.out x h) h9) fun h => h.2
            have hap2 := Hap.out V2 (fun x => OwnB Mx (.slice A made.length c) x ∨ (wr.heap.size ≤ x ∧ x < V2.heap.size)) hMc hbc (fun x hx h => h.elim id fun h => absurd h.1 (by omega))
            refine hap2.mono ?_
            rintro e V3 ⟨es9, gs9, rfl, oE9, oG9, hb9⟩
            clear hap2
            obtain ⟨A6, c6, rfl, _, _⟩ := oE9.shape
            obtain ⟨A7, c7, rfl, _, _⟩ := oG9.shape
            obtain ⟨rE, rG⟩ := rows_of hMc oE9 oG9
            clear oE9 oG9 hMc
            replace k21 := k21.ext hb9
            replace k22 := k22.ext hb9
            have Hn : Hid (V2.heap.size ≤ V3.heap.size ∧ wr.heap.size ≤ V2.heap.size) := Lib.hid ⟨hb9.size, hbc.size⟩
            replace hbc := hbc.trans (hb9.mono hbc.size)
            clear hb9
            clear hS
            have hS := HS.out _ hbc
            refine HK.out _ _ (fun _ => hS) ?_
            clear HK
            (refine anyD_light (i := 6) (v := ?_) rfl (by kernel_rfl) (by kernel_rfl) (by kernel_rfl) (by kernel_rfl) (by kernel_rfl) (fun _ _ _ h => h) (.inl ⟨by kernel_rfl, fun W9 hW9 => ?_⟩) hS ?_; rotate_left; · (obtain ⟨hw0, hw1, hw2, hw3, hw4, hw5, hw6, hw7, hw8, hw9, hw10, hw11⟩ := hW9; go_simp; rfl))
            (refine anyD_light (i := 7) (v := ?_) rfl (by kernel_rfl) (by kernel_rfl) (by kernel_rfl) (by kernel_rfl) (by kernel_rfl) (fun _ _ _ h => h) (.inl ⟨by kernel_rfl, fun W9 hW9 => ?_⟩) hS ?_; rotate_left; · (obtain ⟨hw0, hw1, hw2, hw3, hw4, hw5, hw6, hw7, hw8, hw9, hw10, hw11⟩ := hW9; go_simp; rfl))
            (refine anyD_light (i := 8) (v := ?_) rfl (by kernel_rfl) (by kernel_rfl) (by kernel_rfl) (by kernel_rfl) (by kernel_rfl) (fun _ _ _ h => h) (.inl ⟨by kernel_rfl, fun W9 hW9 => ?_⟩) hS ?_; rotate_left; · (obtain ⟨hw0, hw1, hw2, hw3, hw4, hw5, hw6, hw7, hw8, hw9, hw10, hw11⟩ := hW9; go_simp; rfl))
            go_simp
            have hne : g21 ≠ g22 := by have := Hg21.out; have := Hg22.out; have := Hn.out; omega
            have Hfin := Lib.hid (fun W hW => RnAt.make (Mx := OwnB Mx (.slice A made.length c)) (wo := wr) (rb := rbb) (r1 := r1) (r2 := r2) (W := W) (n1 := V2.heap.size) (n2 := V3.heap.size) hbc k21 k22 hne Hg21.out.2.2 Hg22.out.2.2 (by have := Hg21.out; have := Hg22.out; have := Hn.out; omega) (by have := Hg21.out; have := Hg22.out; have := Hn.out; omega) rE rG hW)
            have m0 := k21.cell 0; have m1 := k21.cell 1; have m2 := k21.cell 2; have m3 := k21.cell 3; have m4 := k21.cell 4; have x0 := k21.frozen 0; have x1 := k21.frozen 1; have x2 := k21.frozen 2; have x3 := k21.frozen 3; have x4 := k21.frozen 4; have xl := k21.lt
            have hTq := put5_turned V3 g21 (.int .i64 rbb.nu) (.int .i64 rbb.ns) (.int .i64 rbb.hz) (.slice A6 rbb.es.length c6) (.slice A7 rbb.gs.length c7)
            obtain ⟨n0c, n1c, u0, u1, ul⟩ := (k22.turned hTq hne.symm).two
            have hbx := hbc.trans (hTq.rest _ Hg21.out.2.2)
            unfold put5 at *
            go_simp
            refine anyD_one (i := 11) (by kernel_rfl) rfl rfl (fun K hK => ?_)
            have HK := Lib.hid hK
            clear hK
            unfold Oper.wp
            go_simp
            refine HK.out _ _ (fun _ => HS.out _ hbx) ?_
            clear HK
            go_simp
            refine anyD_one (i := 12) (by kernel_rfl) rfl rfl (fun K hK => ?_)
            have HK := Lib.hid hK
            clear hK
            unfold Oper.wp
            go_simp
            refine HK.out _ _ (fun h => by cases h) ?_
            clear HK hbx
            go_simp
            refine anyD_done (by kernel_rfl) ?_ _
            clear m0 m1 m2 m3 m4 x0 x1 x2 x3 x4 xl hTq n0c n1c u0 u1 ul k21 k22 rE rG hbc
            go_wp2
            go_meet
            exact ⟨g21, g22, _, _, rfl, rfl, Lib.hid (Hfin.out _ rfl)⟩
        · refine ⟨_, rfl, rfl, fun K hK => ?_⟩
          have HK := Lib.hid hK
          clear hK
          unfold Oper.wp
          go_simp
          obtain ⟨V1, g22, hV, hgg22, hss22, k22, hal⟩ := box1 V0 #[.int .i64 0, .int .i64 0] 31
          rw [hV, hgg22]
          have Hg22 : Hid (V0.heap.size = g22 ∧ V1.heap.size = g22 + 1 ∧ wr.heap.size ≤ g22) := Lib.hid ⟨hgg22, hss22, by have := hbc.size; omega⟩
          clear hV hgg22 hss22
          replace hbc := hbc.trans (hal.mono hbc.size)
          clear hal
          clear hS
          have hS := HS.out _ hbc
          refine HK.out _ _ (fun _ => hS) ?_
          clear HK
          go_simp
          refine anyD_pick [5, 9] (by kernel_rfl) (by decide) ?_
          intro j hj
          simp only [List.mem_cons, List.not_mem_nil, or_false] at hj
          rcases hj with rfl | rfl
          · refine ⟨_, rfl, rfl, fun K hK => ?_⟩
            have HK := Lib.hid hK
            clear hK
            unfold Oper.wp
            go_simp
            have hMc : ∀ x, OwnB Mx (.slice A made.length c) x ∨ (wr.heap.size ≤ x ∧ x < V1.heap.size) → x < V1.heap.size := fun x hx => by have h9 := hbc.size; exact hx.elim (fun h => Nat.lt_of_lt_of_le (HMlt.out x h) h9) fun h => h.2
            have hap2 := Hap.out V1 (fun x => OwnB Mx (.slice A made.length c) x ∨ (wr.heap.size ≤ x ∧ x < V1.heap.size)) hMc hbc (fun x hx h => h.elim id fun h => absurd h.1 (by omega))
            refine hap2.mono ?_
            rintro e V2 ⟨es9, gs9, rfl, oE9, oG9, hb9⟩
            clear hap2
            obtain ⟨A6, c6, rfl, _, _⟩ := oE9.shape
            obtain ⟨A7, c7, rfl, _, _⟩ := oG9.shape
            obtain ⟨rE, rG⟩ := rows_of hMc oE9 oG9
            clear oE9 oG9 hMc
            replace k22 := k22.ext hb9
            have Hn : Hid (V1.heap.size ≤ V2.heap.size ∧ wr.heap.size ≤ V1.heap.size) := Lib.hid ⟨hb9.size, hbc.size⟩
            replace hbc := hbc.trans (hb9.mono hbc.size)
            clear hb9
            clear hS
            have hS := HS.out _ hbc
            refine HK.out _ _ (fun _ => hS) ?_
            clear HK
            (refine anyD_light (i := 6) (v := ?_) rfl (by kernel_rfl) (by kernel_rfl) (by kernel_rfl) (by kernel_rfl) (by kernel_rfl) (fun _ _ _ h => h) (.inl ⟨by kernel_rfl, fun W9 hW9 => ?_⟩) hS ?_; rotate_left; · (obtain ⟨hw0, hw1, hw2, hw3, hw4, hw5, hw6, hw7, hw8, hw9, hw10, hw11⟩ := hW9; go_simp; rfl))
            (refine anyD_light (i := 7) (v := ?_) rfl (by kernel_rfl) (by kernel_rfl) (by kernel_rfl) (by kernel_rfl) (by kernel_rfl) (fun _ _ _ h => h) (.inl ⟨by kernel_rfl, fun W9 hW9 => ?_⟩) hS ?_; rotate_left; · (obtain ⟨hw0, hw1, hw2, hw3, hw4, hw5, hw6, hw7, hw8, hw9, hw10, hw11⟩ := hW9; go_simp; rfl))
            (refine anyD_light (i := 8) (v := ?_) rfl (by kernel_rfl) (by kernel_rfl) (by kernel_rfl) (by kernel_rfl) (by kernel_rfl) (fun _ _ _ h => h) (.inl ⟨by kernel_rfl, fun W9 hW9 => ?_⟩) hS ?_; rotate_left; · (obtain ⟨hw0, hw1, hw2, hw3, hw4, hw5, hw6, hw7, hw8, hw9, hw10, hw11⟩ := hW9; go_simp; rfl))
            go_simp
            refine anyD_one (i := 9) (by kernel_rfl) rfl rfl (fun K hK => ?_)
            have HK := Lib.hid hK
            clear hK
            unfold Oper.wp
            go_simp
            obtain ⟨V3, g21, hV, hgg21, hss21, k21, hal⟩ := box1 V2 #[.int .i64 0, .int .i64 0, .int .i64 0, .slice none 0 0, .slice none 0 0] 26
            rw [hV, hgg21]
            have Hg21 : Hid (V2.heap.size = g21 ∧ V3.heap.size = g21 + 1 ∧ wr.heap.size ≤ g21) := Lib.hid ⟨hgg21, hss21, by have := hbc.size; omega⟩
            clear hV hgg21 hss21
            replace k22 := k22.ext hal
            replace rE := rE.ext hal
            replace rG := rG.ext hal
            replace hbc := hbc.trans (hal.mono hbc.size)
            clear hal
            clear hS
            have hS := HS.out _ hbc
            refine HK.out _ _ (fun _ => hS) ?_
            clear HK
            go_simp
            have hne : g21 ≠ g22 := by have := Hg21.out; have := Hg22.out; have := Hn.out; omega
            have Hfin := Lib.hid (fun W hW => RnAt.make (Mx := OwnB Mx (.slice A made.length c)) (wo := wr) (rb := rbb) (r1 := r1) (r2 := r2) (W := W) (n1 := V1.heap.size) (n2 := V2.heap.size) hbc k21 k22 hne Hg21.out.2.2 Hg22.out.2.2 (by have := Hg21.out; have := Hg22.out; have := Hn.out; omega) (by have := Hg21.out; have := Hg22.out; have := Hn.out; omega) rE rG hW)
            have m0 := k21.cell 0; have m1 := k21.cell 1; have m2 := k21.cell 2; have m3 := k21.cell 3; have m4 := k21.cell 4; have x0 := k21.frozen 0; have x1 := k21.frozen 1; have x2 := k21.frozen 2; have x3 := k21.frozen 3; have x4 := k21.frozen 4; have xl := k21.lt
            have hTq := put5_turned V3 g21 (.int .i64 rbb.nu) (.int .i64 rbb.ns) (.int .i64 rbb.hz) (.slice A6 rbb.es.length c6) (.slice A7 rbb.gs.length c7)
            obtain ⟨n0c, n1c, u0, u1, ul⟩ := (k22.turned hTq hne.symm).two
            have hbx := hbc.trans (hTq.rest _ Hg21.out.2.2)
            unfold put5 at *
            go_simp
            refine anyD_one (i := 11) (by kernel_rfl) rfl rfl (fun K hK => ?_)
            have HK := Lib.hid hK
            clear hK
            unfold Oper.wp
            go_simp
            refine HK.out _ _ (fun _ => HS.out _ hbx) ?_
            clear HK
            go_simp
            refine anyD_one (i := 12) (by kernel_rfl) rfl rfl (fun K hK => ?_)
            have HK := Lib.hid hK
            clear hK
            unfold Oper.wp
            go_simp
            refine HK.out _ _ (fun h => by cases h) ?_
            clear HK hbx
            go_simp
            refine anyD_done (by kernel_rfl) ?_ _
            clear m0 m1 m2 m3 m4 x0 x1 x2 x3 x4 xl hTq n0c n1c u0 u1 ul k21 k22 rE rG hbc
            go_wp2
            go_meet
            exact ⟨g21, g22, _, _, rfl, rfl, Lib.hid (Hfin.out _ rfl)⟩
          · refine ⟨_, rfl, rfl, fun K hK => ?_⟩
            have HK := Lib.hid hK
            clear hK
            unfold Oper.wp
            go_simp
            obtain ⟨V2, g21, hV, hgg21, hss21, k21, hal⟩ := box1 V1 #[.int .i64 0, .int .i64 0, .int .i64 0, .slice none 0 0, .slice none 0 0] 26
            rw [hV, hgg21]
            have Hg21 : Hid (V1.heap.size = g21 ∧ V2.heap.size = g21 + 1 ∧ wr.heap.size ≤ g21) := Lib.hid ⟨hgg21, hss21, by have := hbc.size; omega⟩
            clear hV hgg21 hss21
            replace k22 := k22.ext hal
            replace hbc := hbc.trans (hal.mono hbc.size)
            clear hal
            clear hS
            have hS := HS.out _ hbc
            refine HK.out _ _ (fun _ => hS) ?_
            clear HK
            go_simp
            refine anyD_one (i := 5) (by kernel_rfl) rfl rfl (fun K hK => ?_)
            have HK := Lib.hid hK
            clear hK
            unfold Oper.wp
            go_simp
            have hMc : ∀ x, OwnB Mx (.slice A made.length c) x ∨ (wr.heap.size ≤ x ∧ x < V2.heap.size) → x < V2.heap.size := fun x hx => by have h9 := hbc.size; exact hx.elim (fun h => Nat.lt_of_lt_of_le (HMlt.out x h) h9) fun h => h.2
            have hap2 := Hap.out V2 (fun x => OwnB Mx (.slice A made.length c) x ∨ (wr.heap.size ≤ x ∧ x < V2.heap.size)) hMc hbc (fun x hx h => h.elim id fun h => absurd h.1 (by omega))
            refine hap2.mono ?_
            rintro e V3 ⟨es9, gs9, rfl, oE9, oG9, hb9⟩
            clear hap2
            obtain ⟨A6, c6, rfl, _, _⟩ := oE9.shape
            obtain ⟨A7, c7, rfl, _, _⟩ := oG9.shape
            obtain ⟨rE, rG⟩ := rows_of hMc oE9 oG9
            clear oE9 oG9 hMc
            replace k21 := k21.ext hb9
            replace k22 := k22.ext hb9
            have Hn : Hid (V2.heap.size ≤ V3.heap.size ∧ wr.heap.size ≤ V2.heap.size) := Lib.hid ⟨hb9.size, hbc.size⟩
            replace hbc := hbc.trans (hb9.mono hbc.size)
            clear hb9
            clear hS
            have hS := HS.out _ hbc
            refine HK.out _ _ (fun _ => hS) ?_
            clear HK
            (refine anyD_light (i := 6) (v := ?_) rfl (by kernel_rfl) (by kernel_rfl) (by kernel_rfl) (by kernel_rfl) (by kernel_rfl) (fun _ _ _ h => h) (.inl ⟨by kernel_rfl, fun W9 hW9 => ?_⟩) hS ?_; rotate_left; · (obtain ⟨hw0, hw1, hw2, hw3, hw4, hw5, hw6, hw7, hw8, hw9, hw10, hw11⟩ := hW9; go_simp; rfl))
            (refine anyD_light (i := 7) (v := ?_) rfl (by kernel_rfl) (by kernel_rfl) (by kernel_rfl) (by kernel_rfl) (by kernel_rfl) (fun _ _ _ h => h) (.inl ⟨by kernel_rfl, fun W9 hW9 => ?_⟩) hS ?_; rotate_left; · (obtain ⟨hw0, hw1, hw2, hw3, hw4, hw5, hw6, hw7, hw8, hw9, hw10, hw11⟩ := hW9; go_simp; rfl))
            (refine anyD_light (i := 8) (v := ?_) rfl (by kernel_rfl) (by kernel_rfl) (by kernel_rfl) (by kernel_rfl) (by kernel_rfl) (fun _ _ _ h => h) (.inl ⟨by kernel_rfl, fun W9 hW9 => ?_⟩) hS ?_; rotate_left; · (obtain ⟨hw0, hw1, hw2, hw3, hw4, hw5, hw6, hw7, hw8, hw9, hw10, hw11⟩ := hW9; go_simp; rfl))
            go_simp
            have hne : g21 ≠ g22 := by have := Hg21.out; have := Hg22.out; have := Hn.out; omega
            have Hfin := Lib.hid (fun W hW => RnAt.make (Mx := OwnB Mx (.slice A made.length c)) (wo := wr) (rb := rbb) (r1 := r1) (r2 := r2) (W := W) (n1 := V2.heap.size) (n2 := V3.heap.size) hbc k21 k22 hne Hg21.out.2.2 Hg22.out.2.2 (by have := Hg21.out; have := Hg22.out; have := Hn.out; omega) (by have := Hg21.out; have := Hg22.out; have := Hn.out; omega) rE rG hW)
            have m0 := k21.cell 0; have m1 := k21.cell 1; have m2 := k21.cell 2; have m3 := k21.cell 3; have m4 := k21.cell 4; have x0 := k21.frozen 0; have x1 := k21.frozen 1; have x2 := k21.frozen 2; have x3 := k21.frozen 3; have x4 := k21.frozen 4; have xl := k21.lt
            have hTq := put5_turned V3 g21 (.int .i64 rbb.nu) (.int .i64 rbb.ns) (.int .i64 rbb.hz) (.slice A6 rbb.es.length c6) (.slice A7 rbb.gs.length c7)
            obtain ⟨n0c, n1c, u0, u1, ul⟩ := (k22.turned hTq hne.symm).two
            have hbx := hbc.trans (hTq.rest _ Hg21.out.2.2)
            unfold put5 at *
            go_simp
            refine anyD_one (i := 11) (by kernel_rfl) rfl rfl (fun K hK => ?_)
            have HK := Lib.hid hK
            clear hK
            unfold Oper.wp
            go_simp
            refine HK.out _ _ (fun _ => HS.out _ hbx) ?_
            clear HK
            go_simp
            refine anyD_one (i := 12) (by kernel_rfl) rfl rfl (fun K hK => ?_)
            have HK := Lib.hid hK
            clear hK
            unfold Oper.wp
            go_simp
            refine HK.out _ _ (fun h => by cases h) ?_
            clear HK hbx
            go_simp
            refine anyD_done (by kernel_rfl) ?_ _
            clear m0 m1 m2 m3 m4 x0 x1 x2 x3 x4 xl hTq n0c n1c u0 u1 ul k21 k22 rE rG hbc
            go_wp2
            go_meet
            exact ⟨g21, g22, _, _, rfl, rfl, Lib.hid (Hfin.out _ rfl)⟩
      case rest =>
        obtain ⟨g21, g22, es', gs', rfl, rfl, hX⟩ := hcut
        clear hS
        obtain ⟨A6, c6, rfl, _, _⟩ := hX.out.rE.form
        obtain ⟨A7, c7, rfl, _, _⟩ := hX.out.rG.form
        have hbW := hX.out.bel
        have hzc := hbW.size
        have h21 := hX.out.h21
        have q22 := hX.out.k22.cell 0
        have k9c := k9r.ext hbW
        have k17c := k17r.ext hbW
        have hw9 := k9r.lt
        have hw17 := k17r.lt
        by_cases h0 : r1 = 0
        · have hz : (r1 != 0) = false := by rw [h0]; rfl
          have happ : Mb.appF b (kd, ud, st, cr, tm, f, bd) = Mb.applF b (kd, ud, st, cr, tm, f, bd) := Mb.app_good HGb.out
          have hr0 : (Mb.applF b (kd, ud, st, cr, tm, f, bd)).2.1 = 0 := by rw [← happ, ← Hrb.out]; exact h0
          have hrb1 : rbb = (Mb.applF b (kd, ud, st, cr, tm, f, bd)).1 := by rw [← happ, ← Hrb.out]
          have hruns2 := Mb.runs_snoc hruns.out.1 hr0
          rw [← hrb1] at hruns2
          have hG2 : Mb.Good rbb := by rw [hrb1]; exact Mb.appl_good HGb.out (by have h9 := (Mb.runs_good made Mb.newB b hruns.out.1 Mb.good_new (by show 0 + made.length ≤ 400; omega)).2.2; have h0 : Mb.newB.gs.length = 0 := rfl; omega) hr0
          have Hg2 := Lib.hid (And.intro hruns2 hG2)
          have Hk21 := Lib.hid hX.out.k21
          obtain ⟨w12, hw12, ⟨m0, m1, m2, m3, m4⟩, ⟨x0, x1, x2, x3, x4, xl⟩, k912, hT12⟩ := land5 k9c (.int .i64 rbb.nu) (.int .i64 rbb.ns) (.int .i64 rbb.hz) (.slice A6 rbb.es.length c6) (.slice A7 rbb.gs.length c7)
          have hM9 : Mx g9 := by rw [HMx.out]; exact .inl rfl
          have hM17 : Mx g17 := by rw [HMx.out]; exact .inr rfl
          have h917 : g17 ≠ g9 := by omega
          have hgw9 : w.heap.size ≤ g9 := by omega
          have k1712 := k17c.turned hT12 h917
          have own12 := (own.ext hbW).turned hT12 hM9 (fun x hx e => by have := own.base x hx; omega)
          have rE12 := hX.out.rE.turned hT12 (.inl hM9)
          have rG12 := hX.out.rG.turned hT12 (.inl hM9)
          have rV12 := (hrd.out.2.2.ext hbW).turned hT12 (.inl hM9)
          have hbx12 : Below w.heap.size wr w12 := (hbW.mono hbr.out.size).trans (hT12.rest _ hgw9)
          have hbr12 : Below w.heap.size w w12 := hbr.out.trans hbx12
          have hz11 : w11.heap.size ≤ w12.heap.size := by have := hT12.size; omega
          have f12 := Hfb.out.1.belowB hbx12
          have b12 := Hfb.out.2.belowB hbx12
          have hbeL : be < w.heap.size := Nat.lt_of_not_le hMb
          obtain ⟨_, _, _, _, _, t0, t1, t2, t3, t4, t5, t6⟩ := HS.out wr (Below.refl _ _)
          have y0 := (hbx12.cell (p := ⟨be, off + k * 7, none⟩) hbeL).trans t0
          have y1 := (hbx12.cell (p := ⟨be, off + k * 7 + 1, none⟩) hbeL).trans t1
          have y2 := (hbx12.cell (p := ⟨be, off + k * 7 + 2, none⟩) hbeL).trans t2
          have y3 := (hbx12.cell (p := ⟨be, off + k * 7 + 3, none⟩) hbeL).trans t3
          have y4 := (hbx12.cell (p := ⟨be, off + k * 7 + 4, none⟩) hbeL).trans t4
          have y5 := (hbx12.cell (p := ⟨be, off + k * 7 + 5, none⟩) hbeL).trans t5
          have y6 := (hbx12.cell (p := ⟨be, off + k * 7 + 6, none⟩) hbeL).trans t6
          have hsubO : ∀ x, x < w12.heap.size → (Mx x ∨ (Value.slice A made.length c).ownBlock = some x) → w.heap.size ≤ x := fun x _ hx => by
            rcases hx with hx | hx
            · rw [HMx.out] at hx
              rcases hx with hx | hx <;> omega
            · have h8 := own.base x hx
              have h9 := hbr.out.size
              omega
          have hrd2 : chgC.rd (fun x => Mx x ∨ (Value.slice A made.length c).ownBlock = some x) w12 [.int .i64 kd, .int .i64 ud, .int .i64 st, .int .i64 cr, .int .i64 tm, .slice Af f.length cf, .slice Ab bd.length cb] (kd, ud, st, cr, tm, f, bd) :=
            ⟨[.int .i64 kd], [.int .i64 ud, .int .i64 st, .int .i64 cr, .int .i64 tm, .slice Af f.length cf, .slice Ab bd.length cb], rfl, ⟨rfl, Hrg.out kd (by simp)⟩, [.int .i64 ud], [.int .i64 st, .int .i64 cr, .int .i64 tm, .slice Af f.length cf, .slice Ab bd.length cb], rfl, ⟨rfl, Hrg.out ud (by simp)⟩, [.int .i64 st], [.int .i64 cr, .int .i64 tm, .slice Af f.length cf, .slice Ab bd.length cb], rfl, ⟨rfl, Hrg.out st (by simp)⟩, [.int .i64 cr], [.int .i64 tm, .slice Af f.length cf, .slice Ab bd.length cb], rfl, ⟨rfl, Hrg.out cr (by simp)⟩, [.int .i64 tm], [.slice Af f.length cf, .slice Ab bd.length cb], rfl, ⟨rfl, Hrg.out tm (by simp)⟩, [.slice Af f.length cf], [.slice Ab bd.length cb], rfl, ⟨_, rfl, f12.sub hsubO⟩, ⟨_, rfl, b12.sub hsubO⟩⟩
          have n0c := hX.out.k21.cell 0; have n1c := hX.out.k21.cell 1; have n2c := hX.out.k21.cell 2; have n3c := hX.out.k21.cell 3; have n4c := hX.out.k21.cell 4
          have Hb12 := Lib.hid hbr12
          have HM12 : Hid (∀ x, Mx x → x < w12.heap.size) := Lib.hid fun x hx => by have h9 := hT12.size; rw [HMx.out] at hx; rcases hx with hx | hx <;> omega
          have Hrows := Lib.hid (And.intro rE12 (And.intro rG12 rV12))
          have Hk12 := Lib.hid (And.intro k912 k1712)
          have Hrd2 := Lib.hid hrd2
          have Hmm := Lib.hid (And.intro hM9 hM17)
          clear happ hr0 hrb1 hruns2 hG2 k1712 k912 rE12 rG12 rV12 hbx12 hbr12 f12 b12 t0 t1 t2 t3 t4 t5 t6 hsubO hrd2 k9c k17c hM9 hM17 hT12 hX h0
          go_wp2_with (at_builtin; refine wpList_push_Own chgC (M := Mx) (B := w11.heap.size) TChgs rfl (.tmp 95) (.tmp 100) rfl rfl own12 rfl (cs := [.int .i64 kd, .int .i64 ud, .int .i64 st, .int .i64 cr, .int .i64 tm, .slice Af f.length cf, .slice Ab bd.length cb]) (y := (kd, ud, st, cr, tm, f, bd)) Hrd2.out HM12.out ?a1 ?b1 hz11 ?_)
          case a1 => unfold maxLen; omega
          case b1 => omega
          intro A8 c8 L8 w13 hL8 own8 hb8 hgr8 hor8
          have hL8l : L8.length = made.length + 1 := by rw [hL8.out]; simp
          have HL8l := Lib.hid hL8l
          have k913 := Hk12.out.1.keep (hb8.block g9 hgl9)
          have k1713 := Hk12.out.2.keep (hb8.block g17 hgl17)
          have rE13 := Hrows.out.1.pushed hgr8 hor8
          have rG13 := Hrows.out.2.1.pushed hgr8 hor8
          have rV13 := Hrows.out.2.2.pushed hgr8 hor8
          have hb13 : Below w.heap.size w w13 := Hb12.out.trans (hb8.mono hw11s)
          have hz13 : w11.heap.size ≤ w13.heap.size := Nat.le_trans hz11 hgr8.size
          have HrL : Hid (Mb.Runs Mb.newB L8 rbb ∧ L8.length ≤ k + 1 ∧ ∀ c ∈ L8, c ∈ l) := Lib.hid ⟨by rw [hL8.out]; exact Hg2.out.1, by omega, fun c hc => by
            rw [hL8.out] at hc
            rcases List.mem_append.1 hc with h | h
            · exact hruns.out.2.2 c h
            · rw [List.mem_singleton.1 h]; exact hmem⟩
          have hzg13 := hgr8.size
          have hMlt13 : ∀ x, OwnB Mx (.slice A8 L8.length c8) x → x < w13.heap.size := fun x hx => by
            rcases hx with hx | hx
            · rw [HMx.out] at hx
              rcases hx with hx | hx <;> omega
            · exact own8.lt x hx
          have q0 := k913.cell 0; have q1 := k913.cell 1; have q2 := k913.cell 2; have q3 := k913.cell 3; have q4 := k913.cell 4
          have Hb13 := Lib.hid hb13
          clear hL8 hb8 hgr8 hor8 own12 Hk12 Hrows hb13 m0 m1 m2 m3 m4 x0 x1 x2 x3 x4 xl y0 y1 y2 y3 y4 y5 y6 n0c n1c n2c n3c n4c hw12 hL8l
          by_cases hkn : (L8.length : Int) = kn
          · have hkb : ((L8.length : Int) == kn) = true := by simp [hkn]
            have hvo2 := viewOf_ok (OwnB Mx (.slice A8 L8.length c8)) rbb (.slice A6 rbb.es.length c6) (.slice A7 rbb.gs.length c7) w13 hMlt13 rE13.zero Hg2.out.2
            unfold boxV at hvo2
            have Hvo2 := Lib.hid hvo2
            clear hvo2 hkn hMlt13
            go_wp2_with fail
            refine Hvo2.out.mono ?_
            rintro e w14 ⟨vs2, rfl, hvs2, hb14⟩
            obtain ⟨Av2, cv2, rfl, _, _⟩ := hvs2.form
            obtain ⟨w15, hw15, ⟨y0, y1⟩, ⟨u0, u1, ul⟩, k1715, hT15⟩ := land2 (k1713.ext hb14) (.int .i64 rbb.ns) (.slice Av2 (Mb.allV rbb).length cv2)
            have hgw17 : w.heap.size ≤ g17 := by omega
            have k915 := (k913.ext hb14).turned hT15 (show g9 ≠ g17 by omega)
            have own15 := (own8.ext hb14).turned hT15 Hmm.out.2 (fun x hx e => by have := own8.base x hx; omega)
            have rE15 := (rE13.ext hb14).turned hT15 (.inl Hmm.out.2)
            have rG15 := (rG13.ext hb14).turned hT15 (.inl Hmm.out.2)
            have rV15 := hvs2.turned hT15 (.inl Hmm.out.2)
            have Hb15 := Lib.hid ((Hb13.out.trans (hb14.mono Hb13.out.size)).trans (hT15.rest _ hgw17))
            have Hr15 := Lib.hid (And.intro rE15 (And.intro rG15 rV15))
            have hz15 : w11.heap.size ≤ w15.heap.size := by have h1 := hT15.size; have h2 := hb14.size; omega
            have Hvv : Hid (Mb.VGood (rbb.ns, Mb.allV rbb) ∧ (Mb.allV rbb).length ≤ 400) := Lib.hid ⟨Mb.view_of Hg2.out.2, by unfold Mb.allV; rw [List.length_map]; have := Hg2.out.2.le; omega⟩
            clear hvs2 hb14 hT15 rE15 rG15 rV15 rE13 rG13 rV13 k913 k1713 own8 Hvo2 q0 q1 q2 q3 q4
            go_wp2_with fail
            go_roundw
            case rel => exact ⟨k + 1, rbb, L8, A8, c8, A6, c6, A7, c7, rbb.ns, Mb.allV rbb, Av2, cv2, by omega, by go_num, rfl, HrL, Hvv, k915, k1715, Hr15, own15, Hb15, hz15⟩
            case measure => simp [intOf]; omega
          · have hkb : ((L8.length : Int) == kn) = false := by simpa using hkn
            have Hr13 := Lib.hid (And.intro rE13 (And.intro rG13 rV13))
            clear hkn hMlt13 q0 q1 q2 q3 q4 rE13 rG13 rV13
            go_wp2_with fail
            go_roundw
            case rel => exact ⟨k + 1, rbb, L8, A8, c8, A6, c6, A7, c7, vq, vl, Av', cv', by omega, by go_num, rfl, HrL, hvg, k913, k1713, Hr13, own8, Hb13, hz13⟩
            case measure => simp [intOf]; omega
        · have hz : (r1 != 0) = true := by simpa using h0
          have Hf := Lib.hid (And.intro (hrd.out.1.ext hbW) (And.intro (hrd.out.2.1.ext hbW) (hrd.out.2.2.ext hbW)))
          have Hb9 := Lib.hid (hbr.out.trans (hbW.mono hbr.out.size))
          have owc := own.ext hbW
          clear h0 hX
          go_wp2
          go_roundw
          case rel => exact ⟨k + 1, b, made, A, c, Ae', ce', Ag', cg', vq, vl, Av', cv', by omega, by go_num, rfl, Lib.hid ⟨hruns.out.1, by omega, hruns.out.2.2⟩, hvg, k9c, k17c, Hf, owc, Hb9, by omega⟩
          case measure => simp [intOf]; omega
    · obtain ⟨wo, rfl⟩ : ∃ W0, W0 = wr := ⟨_, rfl⟩
      obtain rfl : k = l.length := by omega
      obtain ⟨hrn, hmk, hmem⟩ := hruns.out
      have hm12 : made.length ≤ 12 := by omega
      have hrd0 := (own.readB fun x hx => by rw [HMx.out] at hx; rcases hx with hx | hx <;> omega).zero
      obtain ⟨ml, hml⟩ : ∃ n, n = made.length := ⟨_, rfl⟩
      obtain ⟨bh, hbh, hbl⟩ : ∃ bh : Nat, (ml : Int) - max 0 (min lo (ml : Int)) = (bh : Int) ∧ bh ≤ ml := ⟨((ml : Int) - max 0 (min lo (ml : Int))).toNat, by omega, by omega⟩
      have hwq : IntKind.i64.wrap ((ml : Int) - max 0 (min lo (ml : Int))) = (bh : Int) := by rw [hbh]; exact IntWalk.i64_in _ (by omega)
      have hzo : w.heap.size ≤ wo.heap.size := hbr.out.size
      have hEo := hE.ext hbr.out hn
      have hno : n0 ≤ wo.heap.size := by omega
      rw [← hml] at hm12 hrd0 ⊢
      have Hml := Lib.hid hml
      have Hrn := Lib.hid (And.intro hrn hrd0); have HEo := Lib.hid hEo; have Hl := Lib.hid hl
      have Hvd := Lib.hid hrd.out.2.2
      clear hruns hmem hrn hrd hl hml hrd0 hEo hE own hE2 hl2 he2 hg2 hlB hmk k9r
      go_wp2_with fail
      go_loopw [15, 16, 23] (fun p s i wr => ∃ (j : Nat) (bj : Mb.Box) (S1 S2 : List Mb.Rc) (A1 : Option Addr) (c1 : Nat) (A2 : Option Addr) (c2 : Nat), j ≤ bh ∧ i = .int .i64 (j : Int) ∧ p = .slice A1 (Mb.logB S1).length c1 ∧ s = .slice A2 (Mb.logB S2).length c2 ∧ Hid (Mb.Runs Mb.newB (made.take j) bj ∧ Mb.Lead S1 bj j ∧ Mb.Lead S2 bj j) ∧ Hid (SlR byteC M0 wr (.slice A1 (Mb.logB S1).length c1) (Mb.logB S1) ∧ SlR byteC M0 wr (.slice A2 (Mb.logB S2).length c2) (Mb.logB S2)) ∧ Below wo.heap.size wo wr) (fun _ _ i _ => bh - (intOf i).toNat)
      case atStart => exact ⟨0, Mb.newB, [], [], none, 0, none, 0, Nat.zero_le _, rfl, rfl, rfl, Lib.hid ⟨rfl, Mb.lead_nil Mb.good_new, Mb.lead_nil Mb.good_new⟩, Lib.hid ⟨SlR.nil _ _ _, SlR.nil _ _ _⟩, Below.refl _ _⟩
      case round =>
        obtain ⟨j, bj, S1, S2, A1, c1, A2, c2, hj, rfl, rfl, rfl, hld, hrd2, hb2⟩ := hrel
        have hzr2 := hb2.size
        by_cases hlt2 : j < bh
        · have hjm : j < made.length := by rw [← Hml.out]; omega
          obtain ⟨hrj, hl1, hl2'⟩ := hld.out
          obtain ⟨bi, h1, h2, h3⟩ := Mb.runs_at Hrn.out.1 hjm
          obtain rfl := Mb.runs_one _ _ _ _ h1 hrj
          have hmr := (Hrn.out.2.ext hb2)
          obtain ⟨be, off, Af, cf, Ab, cb, rfl, _, hbe, ⟨t0, t1, t2, t3, t4, t5, t6⟩, hf, hbd, _⟩ := hmr.chgAt hjm
          have hj12 : j ≤ 12 := by omega
          have hrc := Mb.applied_in hl1.good h2
          have hc0 : (Mb.chgF made[j]).1 = 0 := Classical.byContradiction fun h => by
            unfold Mb.applF at h2
            rw [if_pos h] at h2
            exact h h2
          have hap1 := hl1.append hj12 h2
          have hap2 := hl2'.append hj12 h2
          have hlc1 := Mb.lead_chg hl1 (by omega) h2
          have hlc2 := Mb.lead_chg hl2' (by omega) h2
          have hrs := Mb.runs_snoc hrj h2
          have htk : made.take (j + 1) = made.take j ++ [made[j]] := List.take_succ_eq_append_getElem hjm
          rw [← htk] at hrs
          obtain ⟨cc, hx⟩ : ∃ x, x = made[j] := ⟨_, rfl⟩
          rw [← hx] at t0 t1 t2 t3 t4 t5 t6 hf hbd hrc hc0 hap1 hap2 hlc1 hlc2 hrs h2
          obtain ⟨bj2, hbj2⟩ : ∃ x, x = (Mb.applF bi cc).1 := ⟨_, rfl⟩
          rw [← hbj2] at hlc1 hlc2 hrs
          have hmg := fun W (S : List Mb.Rc) A c (hW : Below wr.heap.size wr W) (hS : SlR byteC M0 wr (.slice A (Mb.logB S).length c) (Mb.logB S)) => mlog_ok n0 W (.slice A (Mb.logB S).length c) (Mb.logB S) cc (.slice Af cc.2.2.2.2.2.1.length cf) (.slice Ab cc.2.2.2.2.2.2.length cb) (HEo.out.ext (below2 hb2 hW) hno) (Nat.le_trans hno (below2 hb2 hW).size) (hS.ext hW) (hf.ext hW) (hbd.ext hW) hrc hc0
          have hmg1 := fun W (hW : Below wr.heap.size wr W) => hmg W S1 A1 c1 hW hrd2.out.1
          have hmg2 := fun W (hW : Below wr.heap.size wr W) => hmg W S2 A2 c2 hW hrd2.out.2
          rw [hap1] at hmg1
          rw [hap2] at hmg2
          obtain ⟨zq, hzq⟩ : ∃ z : Int, z = 0 := ⟨_, rfl⟩
          have hzz2 : (zq != 0) = false := by rw [hzq]; rfl
          rw [← hzq] at hmg1 hmg2
          obtain ⟨kd, ud, st, cr, tm, f, bd⟩ := cc
          unfold chgV at hmg1 hmg2
          dsimp only at hmg1 hmg2 t0 t1 t2 t3 t4 t5 t6
          obtain ⟨T1, hT1⟩ : ∃ x, x = S1 ++ [Mb.Rc.chg (kd, ud, st, cr, tm, f, bd)] := ⟨_, rfl⟩
          obtain ⟨T2, hT2⟩ : ∃ x, x = S2 ++ [Mb.Rc.chg (kd, ud, st, cr, tm, f, bd)] := ⟨_, rfl⟩
          rw [← hT1] at hmg1 hlc1
          rw [← hT2] at hmg2 hlc2
          have Hmg1 := Lib.hid hmg1; have Hmg2 := Lib.hid hmg2; have Hlc := Lib.hid (And.intro hrs (And.intro hlc1 hlc2)); have Hzq := Lib.hid hzq
          have Ht := Lib.hid (show ∀ W, Below wr.heap.size wr W → W.cell? ⟨be, off + j * 7, none⟩ = some (.int .i64 kd) ∧ W.cell? ⟨be, off + j * 7 + 1, none⟩ = some (.int .i64 ud) ∧ W.cell? ⟨be, off + j * 7 + 2, none⟩ = some (.int .i64 st) ∧ W.cell? ⟨be, off + j * 7 + 3, none⟩ = some (.int .i64 cr) ∧ W.cell? ⟨be, off + j * 7 + 4, none⟩ = some (.int .i64 tm) ∧ W.cell? ⟨be, off + j * 7 + 5, none⟩ = some (.slice Af f.length cf) ∧ W.cell? ⟨be, off + j * 7 + 6, none⟩ = some (.slice Ab bd.length cb) from fun W hW => ⟨(hW.cell (p := ⟨be, off + j * 7, none⟩) hbe).trans t0, (hW.cell (p := ⟨be, off + j * 7 + 1, none⟩) hbe).trans t1, (hW.cell (p := ⟨be, off + j * 7 + 2, none⟩) hbe).trans t2, (hW.cell (p := ⟨be, off + j * 7 + 3, none⟩) hbe).trans t3, (hW.cell (p := ⟨be, off + j * 7 + 4, none⟩) hbe).trans t4, (hW.cell (p := ⟨be, off + j * 7 + 5, none⟩) hbe).trans t5, (hW.cell (p := ⟨be, off + j * 7 + 6, none⟩) hbe).trans t6⟩)
          have hi0 : (0 : Int) ≤ (j : Int) := by omega
          have hi1 : (j : Int) < (ml : Int) := by omega
          have hi2 : (j : Int) < (bh : Int) := by omega
          have hq1 : IntKind.i64.wrap (j : Int) = (j : Int) := IntWalk.i64_in _ (by omega)
          clear hmg hmg1 hmg2 hap1 hap2 hlc1 hlc2 hrs htk hrc hc0 hx hbj2 hT1 hT2 hf hbd h1 h2 h3 hrj hl1 hl2' hmr hzq
          go_wp2_with fail
          refine (Hmg1.out wr (Below.refl _ _)).mono ?_
          rintro e w31 ⟨u1, rfl, own31, hb31⟩
          obtain ⟨A31, c31, rfl, _, _⟩ := own31.shape
          obtain ⟨wd, g25, hwd, hg25, hszd, k25a, hbd1⟩ := box1 w31 #[.int .i64 0, .int .i64 0] 31
          obtain ⟨w32, hw32, ⟨y0, y1⟩, ⟨u0, u1, ul⟩, k25, hT25⟩ := land2 k25a (.int .i64 zq) (.int .i64 zq)
          have hb3132 : Below w31.heap.size w31 w32 := hbd1.trans (hT25.rest _ (by omega))
          have hb32 := below2 hb31 hb3132
          have hg25r : wr.heap.size ≤ g25 := hg25 ▸ hb31.size
          have s1 := ((own_freeM (M' := fun x => g25 ≤ x) free_byte own31).read fun x hx h => by have := own31.lt x hx; omega).ext hb3132
          clear t0 t1 t2 t3 t4 t5 t6
          obtain ⟨t0, t1, t2, t3, t4, t5, t6⟩ := Ht.out w32 hb32
          have Hmg3 := Lib.hid (Hmg2.out w32 hb32)
          have K25 := Lib.hid k25; have Hs1 := Lib.hid s1
          clear own31 hszd k25a hbd1 hT25 k25 s1 Hmg1 Hmg2 hb31 hb3132
          go_wp2_with fail
          refine Hmg3.out.mono ?_
          rintro e w33 ⟨u2, rfl, own33, hb33⟩
          obtain ⟨A33, c33, rfl, _, _⟩ := own33.shape
          obtain ⟨we, g27, hwe, hg27, hsze, k27a, hbe1⟩ := box1 w33 #[.int .i64 0, .int .i64 0] 31
          obtain ⟨w34, hw34, ⟨y2, y3⟩, ⟨u2, u3, ul2⟩, k27, hT27⟩ := land2 k27a (.int .i64 zq) (.int .i64 zq)
          have hb3334 : Below w33.heap.size w33 w34 := hbe1.trans (hT27.rest _ (by omega))
          have hb3234 := below2 hb33 hb3334
          have hb34 := below2 hb32 hb3234
          have k2534 := K25.out.ext hb3234
          have i25 := k2534.cell 0; have i27 := k27.cell 0
          have Hrow := Lib.hid (And.intro (Hs1.out.ext hb3234) (own33.read0.ext hb3334))
          have Hb34 := Lib.hid hb34
          have hw1 : IntKind.i64.wrap ((j : Int) + 1) = (j : Int) + 1 := IntWalk.i64_in _ (by omega)
          clear t0 t1 t2 t3 t4 t5 t6 own33 hsze k27a hbe1 hT27 Hmg3 hb33 hb3334 hb3234 Hs1 K25 Ht
          by_cases hjw : (j : Int) = wh
          · have hjb : ((j : Int) == wh) = true := by simp [hjw]
            have hlead := Mb.lead_box Hlc.out.2.2 (by omega)
            have hag := cagain_ok n0 w34 (.slice A33 (Mb.logB T2).length c33) (Mb.logB T2) T2 bj2 (HEo.out.ext (below2 hb2 hb34) hno) (Nat.le_trans hno (below2 hb2 hb34).size) Hrow.out.2 (Hlc.out.2.2.read (by omega)).1 (Hlc.out.2.2.read (by omega)).2 Hlc.out.2.2.inn (Hlc.out.2.2.plays (by omega)) Hlc.out.2.2.good (by have := hlead.fit (by omega); omega)
            rw [← Hzq.out] at hag
            have Hag := Lib.hid hag; have Hlead := Lib.hid hlead
            clear hag hlead hjw
            go_wp2_with fail
            refine Hag.out.mono ?_
            rintro e w35 ⟨u5, rfl, own35, hb35⟩
            obtain ⟨A35, c35, rfl, _, _⟩ := own35.shape
            have k2535 := k2534.ext hb35
            obtain ⟨w36, hw36, ⟨y4, y5⟩, ⟨u4, u5, ul4⟩, k2536, hT36⟩ := land2 k2535 (.int .i64 zq) (.int .i64 zq)
            have j25 := k2536.cell 0
            have Hb36 := Lib.hid ((below2 Hb34.out hb35).trans (hT36.rest _ hg25r))
            have Hr36 := Lib.hid (And.intro ((Hrow.out.1.ext hb35).turned hT36 (Nat.le_refl _)).zero (own35.turnF free_byte hT36 (fun x hx e => by have h8 := own35.base x hx; have h9 := k2534.lt; omega)).read0)
            clear i25 i27 y0 y1 y2 y3 u0 u1 ul u2 u3 ul2 hwd hw32 hwe hw34 own35 k2535 hT36 hb35 k2534 k27 k2536
            go_wp2_with fail
            go_roundw
            case rel => exact ⟨j + 1, bj2, T1, Mb.boxC bj2, _, _, A35, c35, by omega, by go_num, rfl, rfl, Lib.hid ⟨Hlc.out.1, Hlc.out.2.1, Hlead.out⟩, Hr36, hb2.trans (Hb36.out.mono hzr2)⟩
            case measure => simp [intOf]; omega
          · have hjb : ((j : Int) == wh) = false := by simpa using hjw
            clear hjw
            go_wp2_with fail
            go_roundw
            case rel => exact ⟨j + 1, bj2, T1, T2, _, _, A33, c33, by omega, by go_num, rfl, rfl, Hlc, Lib.hid ⟨Hrow.out.1.zero, Hrow.out.2⟩, hb2.trans (Hb34.out.mono hzr2)⟩
            case measure => simp [intOf]; omega
        · obtain ⟨wq, rfl⟩ : ∃ W0, W0 = wr := ⟨_, rfl⟩
          obtain rfl : j = bh := by omega
          obtain ⟨hrj, hl1, hl2'⟩ := hld.out
          have hj12 : j ≤ 12 := by omega
          have hlen1 : (Mb.logB S1).length ≤ 390000 := by rw [Mb.logB_len]; exact hl1.fit (by omega)
          have hlen2 : (Mb.logB S2).length ≤ 390000 := by rw [Mb.logB_len]; exact hl2'.fit (by omega)
          have hnil : ∀ x, M0 x ∨ (Value.slice none 0 0).ownBlock = some x → M0 x := fun x hx => hx.elim id fun h => by simp [Value.ownBlock] at h
          have hr1 := hrd2.out.1.sub (M' := fun b => M0 b ∨ (Value.slice none 0 0).ownBlock = some b) (fun x _ hx => hnil x hx)
          obtain ⟨zr, hzr9⟩ : ∃ z : Int, z = 0 := ⟨_, rfl⟩
          have hzz3 : (zr != 0) = false := by rw [hzr9]; rfl
          have hzz4 : (zr == 0) = true := by rw [hzr9]; rfl
          have Hzr := Lib.hid hzr9
          have hwq2 : n0 ≤ wq.heap.size := by omega
          have hEq := HEo.out.ext hb2 hno
          have k17q := k17r.ext hb2
          have HEq := Lib.hid hEq; have K17 := Lib.hid k17q; have Hrs := Lib.hid hrd2.out.2; have HL1 := Lib.hid hl1; have HL2 := Lib.hid hl2'
          have Hvq := Lib.hid (Hvd.out.zero.ext hb2); have Hbq := Lib.hid (hbr.out.trans (hb2.mono hbr.out.size))
          clear hrj hl1 hl2' hld hrd2 hzr9 hEq k17q hnil
          go_wp2_with (at_builtin; refine wpList_append_Own byteC (M := M0) (B := wq.heap.size) (l := []) (l' := Mb.logB S1) TBytes rfl (.const (.slice none 0 0)) (.tmp 161) rfl rfl (Own.nil byteC M0 wq wq.heap.size 5) rfl hr1 ?a1 ?b1 (Nat.le_refl _) ?_)
          case a1 => simp only [List.length_nil]; unfold maxLen; omega
          case b1 => simp only [List.length_nil]; omega
          intro A40 c40 L40 w40 hL40 own40 hb40 hg40 hor40
          have hL40l : L40.length = (Mb.logB S1).length := by rw [hL40.out]
          have HL40 := Lib.hid hL40l
          obtain ⟨w41, g41, hw41, hg41, hr41, hb41⟩ := row09 w40
          have own41 := own40.ext hb41
          have hr41' : SlR byteC (fun b => M0 b ∨ (Value.slice A40 L40.length c40).ownBlock = some b) w41 (.slice (some ⟨g41, 0, none⟩) 2 2) [0, 9] := hr41.sub fun x _ hx => hx.elim (fun h => h.elim) fun h => by have := own40.lt x h; omega
          have hz41 : wq.heap.size ≤ w41.heap.size := Nat.le_trans hb40.size hb41.size
          clear hr1 own40 hr41 hL40l hg40 hor40
          go_wp2_with (at_builtin; refine wpList_append_Own byteC (M := M0) (B := wq.heap.size) (l := L40) (l' := [0, 9]) TBytes rfl (.tmp 162) (.tmp 163) rfl rfl own41 rfl hr41' ?a2 ?b2 hz41 ?_)
          case a2 => have := HL40.out; simp only [List.length_cons, List.length_nil]; unfold maxLen; omega
          case b2 => have := HL40.out; simp only [List.length_cons, List.length_nil]; omega
          intro A42 c42 L42 w42 hL42 own42 hb42 hg42 hor42
          have ht := HL1.out.torn (by omega) [0, 9] (.inl rfl)
          rw [show Mb.logB S1 ++ [0, 9] = L42 by rw [hL42.out, hL40.out]] at ht
          have hb4q := (hb40.trans (hb41.mono hb40.size)).trans hb42
          have hrep := replay_ok M0 n0 w42 (.slice A42 L42.length c42) L42 S1 bj (HEq.out.ext hb4q hwq2) (Nat.le_trans hwq2 hb4q.size) (fun x hx => hx.elim) own42.read0 ht.1 ht.2 HL1.out.inn (HL1.out.plays (by omega))
          unfold boxV at hrep
          rw [← Hzr.out] at hrep
          have Hrep := Lib.hid hrep
          clear own41 hr41' ht hrep own42 hL42 hL40 hg42 hor42 hw41 hb40 hb41 hb42
          go_wp2_with fail
          refine Hrep.out.mono ?_
          rintro e w43 ⟨es43, gs43, rfl, he43, hg43, hb43⟩
          obtain ⟨Ae43, ce43, rfl, _, _⟩ := he43.form
          obtain ⟨Ag43, cg43, rfl, _, _⟩ := hg43.form
          obtain ⟨wb4, g28, g29, hwb4, hg28, hg29, hszb4, k28a, k29a, hbb4⟩ := box2 w43 #[.int .i64 0, .int .i64 0, .int .i64 0, .slice none 0 0, .slice none 0 0] 26 #[.int .i64 0, .int .i64 0] 31
          obtain ⟨wv4, w44, hwv4, hw44, ⟨m0, m1, m2, m3, m4⟩, ⟨x0, x1, x2, x3, x4, xl⟩, ⟨n0', n1', u0, u1, ul⟩, k28, k29, hbz4, _⟩ := land52 k28a k29a (by omega) (.int .i64 bj.nu) (.int .i64 bj.ns) (.int .i64 bj.hz) (.slice Ae43 bj.es.length ce43) (.slice Ag43 bj.gs.length cg43) (.int .i64 zr) (.int .i64 zr)
          have hb4344 : Below w43.heap.size w43 w44 := hbb4.trans (hbz4 _ (by omega) (by omega))
          have hb44 := (hb4q.trans (hb43.mono hb4q.size)).trans (hb4344.mono (Nat.le_trans hb4q.size hb43.size))
          have K28 := Lib.hid k28; have K29 := Lib.hid k29; have He44 := Lib.hid (And.intro (he43.ext hb4344) (hg43.ext hb4344))
          have hnil2 : ∀ x, M0 x ∨ (Value.slice none 0 0).ownBlock = some x → M0 x := fun x hx => hx.elim id fun h => by simp [Value.ownBlock] at h
          have hr2 := (Hrs.out.ext hb44).sub (M' := fun b => M0 b ∨ (Value.slice none 0 0).ownBlock = some b) (fun x _ hx => hnil2 x hx)
          clear he43 hg43 hszb4 k28a k29a hbb4 hbz4 k28 k29 Hrep hnil2 hb4q hb43 hb4344
          go_wp2_with (at_builtin; refine wpList_append_Own byteC (M := M0) (B := w44.heap.size) (l := []) (l' := Mb.logB S2) TBytes rfl (.const (.slice none 0 0)) (.tmp 169) rfl rfl (Own.nil byteC M0 w44 w44.heap.size 5) rfl hr2 ?a3 ?b3 (Nat.le_refl _) ?_)
          case a3 => simp only [List.length_nil]; unfold maxLen; omega
          case b3 => simp only [List.length_nil]; omega
          intro A45 c45 L45 w45 hL45 own45 hb45 hg45 hor45
          have hL45l : L45.length = (Mb.logB S2).length := by rw [hL45.out]
          have HL45 := Lib.hid hL45l
          obtain ⟨w46, g46, hw46, hg46, hr46, hb46⟩ := row07 w45
          have own46 := own45.ext hb46
          have hr46' : SlR byteC (fun b => M0 b ∨ (Value.slice A45 L45.length c45).ownBlock = some b) w46 (.slice (some ⟨g46, 0, none⟩) 3 3) [0, 7, 67] := hr46.sub fun x _ hx => hx.elim (fun h => h.elim) fun h => by have := own45.lt x h; omega
          have hz46 : w44.heap.size ≤ w46.heap.size := Nat.le_trans hb45.size hb46.size
          clear hr2 own45 hr46 hL45l hg45 hor45 m0 m1 m2 m3 m4 x0 x1 x2 x3 x4 xl n0' n1' u0 u1 ul hwv4 hw44 hwb4
          go_wp2_with (at_builtin; refine wpList_append_Own byteC (M := M0) (B := w44.heap.size) (l := L45) (l' := [0, 7, 67]) TBytes rfl (.tmp 170) (.tmp 171) rfl rfl own46 rfl hr46' ?a4 ?b4 hz46 ?_)
          case a4 => have := HL45.out; simp only [List.length_cons, List.length_nil]; unfold maxLen; omega
          case b4 => have := HL45.out; simp only [List.length_cons, List.length_nil]; omega
          intro A47 c47 L47 w47 hL47 own47 hb47 hg47 hor47
          have ht := HL2.out.torn (by omega) [0, 7, 67] (.inr rfl)
          rw [show Mb.logB S2 ++ [0, 7, 67] = L47 by rw [hL47.out, hL45.out]] at ht
          have hb47q := (hb45.trans (hb46.mono hb45.size)).trans hb47
          have hb47r := below2 hb44 hb47q
          have hrep := replay_ok M0 n0 w47 (.slice A47 L47.length c47) L47 S2 bj (HEq.out.ext hb47r hwq2) (Nat.le_trans hwq2 hb47r.size) (fun x hx => hx.elim) own47.read0 ht.1 ht.2 HL2.out.inn (HL2.out.plays (by omega))
          unfold boxV at hrep
          rw [← Hzr.out] at hrep
          have Hrep := Lib.hid hrep
          clear own46 hr46' ht hrep own47 hL47 hL45 hg47 hor47 hw46 hb45 hb46 hb47
          go_wp2_with fail
          refine Hrep.out.mono ?_
          rintro e w48 ⟨es48, gs48, rfl, he48, hg48, hb48⟩
          obtain ⟨Ae48, ce48, rfl, _, _⟩ := he48.form
          obtain ⟨Ag48, cg48, rfl, _, _⟩ := hg48.form
          obtain ⟨wb5, g30, g31, hwb5, hg30, hg31, hszb5, k30a, k31a, hbb5⟩ := box2 w48 #[.int .i64 0, .int .i64 0, .int .i64 0, .slice none 0 0, .slice none 0 0] 26 #[.int .i64 0, .int .i64 0] 31
          obtain ⟨wv5, w49, hwv5, hw49, ⟨m0, m1, m2, m3, m4⟩, ⟨x0, x1, x2, x3, x4, xl⟩, ⟨n0', n1', u0, u1, ul⟩, k30, k31, hbz5, _⟩ := land52 k30a k31a (by omega) (.int .i64 bj.nu) (.int .i64 bj.ns) (.int .i64 bj.hz) (.slice Ae48 bj.es.length ce48) (.slice Ag48 bj.gs.length cg48) (.int .i64 zr) (.int .i64 zr)
          have hb4849 : Below w48.heap.size w48 w49 := hbb5.trans (hbz5 _ (by omega) (by omega))
          have hb4449 := (hb47q.trans (hb48.mono hb47q.size)).trans (hb4849.mono (Nat.le_trans hb47q.size hb48.size))
          have k2849 := K28.out.ext hb4449
          have i29 := (K29.out.ext hb4449).cell 0; have i31 := k31.cell 0
          have q0 := k2849.cell 0; have q1 := k2849.cell 1; have q2 := k2849.cell 2; have q3 := k2849.cell 3; have q4 := k2849.cell 4
          have r0 := k30.cell 0; have r1 := k30.cell 1; have r2 := k30.cell 2; have r3 := k30.cell 3; have r4 := k30.cell 4
          have hex := He44.out.1.ext hb4449; have hgx := He44.out.2.ext hb4449
          have hey := he48.ext hb4849; have hgy := hg48.ext hb4849
          have hsame := sameBox_ok bj _ _ _ _ w49 hex hgx hey hgy
          unfold boxV at hsame
          have Hsame := Lib.hid hsame
          have K30 := Lib.hid k30; have K28' := Lib.hid k2849
          have Hxy := Lib.hid (And.intro (And.intro hex hgx) (And.intro hey hgy))
          have hbq49 := below2 hb44 hb4449
          have K17' := Lib.hid (K17.out.ext hbq49); have Hv49 := Lib.hid (Hvq.out.ext hbq49)
          have Hb49 := Lib.hid (Hbq.out.trans (hbq49.mono Hbq.out.size))
          clear he48 hg48 hszb5 k30a k31a hbb5 hbz5 k30 k31 Hrep hb47q hb47r hb48 hb4849 hsame hex hgx hey hgy K28 K29 He44 K17 Hvq hb44 hbq49 hb4449 k2849
          go_wp2_with fail
          refine Hsame.out.mono ?_
          rintro e w50 ⟨rfl, hb50⟩
          have k17' := K17'.out.ext hb50; have k28' := K28'.out.ext hb50
          have p0 := k17'.cell 0; have p1 := k17'.cell 1
          clear q0 q1 q2 q3 q4 r0 r1 r2 r3 r4 i29 i31 m0 m1 m2 m3 m4 x0 x1 x2 x3 x4 xl n0' n1' u0 u1 ul hwv5 hw49 hwb5 Hsame
          have q0 := k28'.cell 0; have q1 := k28'.cell 1; have q2 := k28'.cell 2; have q3 := k28'.cell 3; have q4 := k28'.cell 4
          have Hb50 := Lib.hid (Hb49.out.trans (hb50.mono Hb49.out.size))
          by_cases hvx : bj.ns < vq
          · clear k17' k28'
            go_wp2_with fail
            go_ret
            exact ⟨rfl, Hb50.out⟩
          · have hGj := HL1.out.good
            have hct := fun W es gs (h1 : SlR entC M0 W es bj.es) (h2 : SlR gnC M0 W gs bj.gs) (h3 : SlR gnC M0 W (.slice Av' vl.length cv') vl) => catch_ok M0 bj vq vl es gs (.slice Av' vl.length cv') W (fun x hx => hx.elim) h1 h2 h3 hGj hvg.out.1 hvg.out.2 (by omega)
            obtain ⟨⟨⟨f1, f2⟩, fb⟩, hC⟩ : ∃ C, C = Mb.catchF bj (vq, vl) := ⟨_, rfl⟩
            rw [← hC, ← Hzr.out] at hct
            dsimp only at hct
            unfold boxV at hct
            have Hct := Lib.hid hct
            have Hc1 := Lib.hid (Hct.out w50 _ _ (Hxy.out.1.1.ext hb50) (Hxy.out.1.2.ext hb50) (Hv49.out.ext hb50))
            have HK := Lib.hid (And.intro k17' hb50)
            clear hct hC hGj k17' k28'
            go_wp2_with fail
            refine Hc1.out.mono ?_
            rintro e w51 ⟨v51, rfl, hr51, hb51⟩
            obtain ⟨A51, c51, rfl, _, _⟩ := hr51.form
            obtain ⟨wb6, g32, g34, hwb6, hg32, hg34, hszb6, k32a, k34a, hbb6⟩ := box2 w51 #[.int .i64 0, .slice none 0 0] 40 #[.int .i64 0, .int .i64 0] 31
            obtain ⟨wv6, w52, hwv6, hw52, ⟨y0, y1⟩, ⟨s0, s1, sl⟩, ⟨t0, t1, t2, t3, tl⟩, k32, k34, hbz6, _⟩ := land22 k32a k34a (by omega) (.int .i64 f1) (.slice A51 f2.length c51) (.int .i64 zr) (.int .i64 zr)
            have hb5152 : Below w51.heap.size w51 w52 := hbb6.trans (hbz6 _ (by omega) (by omega))
            have hb5052 := below2 hb51 hb5152
            have hb4952 := below2 HK.out.2 hb5052
            have k1752 := HK.out.1.ext hb5052
            have k3052 := K30.out.ext hb4952
            have Hc2 := Lib.hid (Hct.out w52 _ _ (Hxy.out.2.1.ext hb4952) (Hxy.out.2.2.ext hb4952) (Hv49.out.ext hb4952))
            have Hr51 := Lib.hid (hr51.ext hb5152)
            have K32 := Lib.hid k32; have K34 := Lib.hid k34
            clear p0 p1 q0 q1 q2 q3 q4
            have p0 := k1752.cell 0; have p1 := k1752.cell 1
            have q0 := k3052.cell 0; have q1 := k3052.cell 1; have q2 := k3052.cell 2; have q3 := k3052.cell 3; have q4 := k3052.cell 4
            have Hb52 := Lib.hid (Hb50.out.trans (hb5052.mono Hb50.out.size))
            clear hszb6 k32a k34a hbb6 hbz6 k32 k34 hr51 Hc1 hb51 hb5152 hb5052 hb4952 k1752 k3052 Hct
            go_wp2_with fail
            refine Hc2.out.mono ?_
            rintro e w53 ⟨v53, rfl, hr53, hb53⟩
            obtain ⟨A53, c53, rfl, _, _⟩ := hr53.form
            obtain ⟨wb7, g35, g37, hwb7, hg35, hg37, hszb7, k35a, k37a, hbb7⟩ := box2 w53 #[.int .i64 0, .slice none 0 0] 40 #[.int .i64 0, .int .i64 0] 31
            obtain ⟨wv7, w54, hwv7, hw54, ⟨y2, y3⟩, ⟨s2, s3, sl2⟩, ⟨t4, t5, t6, t7, tl2⟩, k35, k37, hbz7, _⟩ := land22 k35a k37a (by omega) (.int .i64 f1) (.slice A53 f2.length c53) (.int .i64 zr) (.int .i64 zr)
            have hb5354 : Below w53.heap.size w53 w54 := hbb7.trans (hbz7 _ (by omega) (by omega))
            have hb5254 := below2 hb53 hb5354
            have k3254 := K32.out.ext hb5254
            have i34 := (K34.out.ext hb5254).cell 0; have i37 := k37.cell 0
            have a0 := k3254.cell 0; have a1 := k3254.cell 1; have b0 := k35.cell 0; have b1 := k35.cell 1
            have hsv := sameView_ok f1 f2 (.slice A51 f2.length c51) (.slice A53 f2.length c53) w54 (Hr51.out.ext hb5254) (hr53.ext hb5354)
            have Hsv := Lib.hid hsv
            have Hb54 := Lib.hid (Hb52.out.trans (hb5254.mono Hb52.out.size))
            have hfb : (fb == fb) = true := by cases fb <;> rfl
            clear hszb7 k35a k37a hbb7 hbz7 k35 k37 hr53 Hc2 hb53 hb5354 hb5254 k3254 K32 K34 hsv y0 y1 s0 s1 sl t0 t1 t2 t3 tl p0 p1 q0 q1 q2 q3 q4 hwv6 hw52 hwb6
            go_wp2_with fail
            refine Hsv.out.mono ?_
            rintro e w55 ⟨rfl, hb55⟩
            have Hb55 := Lib.hid (Hb54.out.trans (hb55.mono Hb54.out.size))
            clear y2 y3 s2 s3 sl2 t4 t5 t6 t7 tl2 i34 i37 a0 a1 b0 b1 hwv7 hw54 hwb7
            go_wp2_with fail
            go_ret
            exact ⟨rfl, Hb55.out⟩
end Go.Proofs.YtjamjkjmlckgeaaGreatDoor

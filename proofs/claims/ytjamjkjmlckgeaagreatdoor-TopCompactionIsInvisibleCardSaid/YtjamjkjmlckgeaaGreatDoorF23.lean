/-
  Contracts and plain facts, one after another: compact.Again; views.Validate, of views in order; views.all, Of.
-/
import Derived.Test.YtjamjkjmlckgeaaGreatDoorF21
import Derived.Test.YtjamjkjmlckgeaaGreatDoorF12
namespace Go.Proofs.YtjamjkjmlckgeaaGreatDoor
open Go.RowKit
set_option linter.unusedVariables false

set_option maxRecDepth 100000 in
set_option maxHeartbeats 8000000 in
theorem cagain_ok (n0 : Nat) (w : World) (v : Value) (t : List UInt8) (l : List Mb.Rc) (b : Mb.Box) (hE : Env n0 w) (hn : n0 ≤ w.heap.size) (hv : SlR byteC M0 w v t) (ht1 : (readF t).1 = l.map Mb.rcB) (ht2 : (readF t).2.2 = (0, 0)) (hin : ∀ r ∈ l, Mb.RcIn r) (hpl : Mb.Plays Mb.newB false true l b) (hG : Mb.Good b) (hfit : Mb.logLen (Mb.boxC b) ≤ 400000) :
    Calls Tryz.prog 13 #[v] w fun e w' => ∃ u, e = .returned (.tuple #[u, .agg #[.int .i64 0, .int .i64 0]]) ∧ Own byteC M0 w' w.heap.size 5 u (Mb.logB (Mb.boxC b)) ∧ Below w.heap.size w w' := by
  have hrep := fun W h0 h1 h2 => replay_ok M0 n0 W v t l b h0 h1 (fun x hx => hx.elim) h2 ht1 ht2 hin hpl
  have hlog := fun W es gs h0 h1 h2 h3 => clog_ok n0 W b es gs h0 h1 h2 h3 (fun e he => by have h9 := (Mb.msg_ok (hG.es e he).2.2.2.2).2.2; omega)
  obtain ⟨A, c, rfl, hlc, hlm⟩ := hv.form
  obtain ⟨w0, g3, hw0, hg3, hsz0, k3, hb0⟩ := box1 w #[.int .i64 0, .int .i64 0] 31
  have hgl3 : w.heap.size ≤ g3 := by omega
  have hg3u : g3 < w0.heap.size := by omega
  have hE0 := hE.ext hb0 hn
  have hz0 := hb0.size
  have Hrep := Lib.hid (hrep w0 hE0 (by omega) (hv.ext hb0))
  have Hlog := Lib.hid hlog
  have HG := Lib.hid hG; have Hfit := Lib.hid hfit
  unfold boxV at Hrep Hlog
  clear hrep hlog hG hfit hsz0 hpl hin ht1 ht2
  go_enter Tryz.func13, Tryz.ntmps13
  go_wp2_with fail
  refine Hrep.out.mono ?_
  rintro e w1 ⟨es, gs, he, hes, hgs, hb1⟩
  obtain ⟨Ae, ce, rfl, _, _⟩ := hes.form
  obtain ⟨Ag, cg, rfl, _, _⟩ := hgs.form
  obtain ⟨z, hz9⟩ : ∃ z : Int, z = 0 := ⟨_, rfl⟩
  rw [← hz9] at he
  have hzz : (z != 0) = false := by rw [hz9]; rfl
  subst he
  refine Hid.out ?_
  refine Lib.hid ?_
  obtain ⟨wa, g4, g5, hwa, hg4, hg5, hsza, k4, k5, hba⟩ := box2 w1 #[.int .i64 0, .int .i64 0, .int .i64 0, .slice none 0 0, .slice none 0 0] 26 #[.int .i64 0, .int .i64 0] 31
  obtain ⟨wv, w2, hwv, hw2, ⟨m0, m1, m2, m3, m4⟩, ⟨x0, x1, x2, x3, x4, xl⟩, ⟨n0', n1', u0, u1, ul⟩, k4z, k5z, hbz, _⟩ := land52 k4 k5 (by omega) (.int .i64 b.nu) (.int .i64 b.ns) (.int .i64 b.hz) (.slice Ae b.es.length ce) (.slice Ag b.gs.length cg) (.int .i64 z) (.int .i64 z)
  have hb2 : Below w1.heap.size w1 w2 := hba.trans (hbz _ (by omega) (by omega))
  have hb02 := below2 hb1 hb2
  obtain ⟨p0, p1, _, _, _⟩ := k5z.two
  have K4 := Lib.hid k4z
  clear k4 k5 k4z k5z hbz hsza hz9 Hrep
  go_wp2_with fail
  refine (failed_ok z z w2).mono ?_
  rintro e w3 ⟨rfl, hb3⟩
  have hb03 := below2 hb02 hb3
  have k43 := K4.out.ext hb3
  have c0 := k43.cell 0; have c1' := k43.cell 1; have c2 := k43.cell 2; have c3 := k43.cell 3; have c4 := k43.cell 4
  have Hl := Lib.hid (Hlog.out w3 _ _ (hE0.ext hb03 (by omega)) (by have := hb03.size; omega) ((hes.ext hb2).ext hb3) ((hgs.ext hb2).ext hb3))
  clear p0 p1 hw2 hwv hwa m0 m1 m2 m3 m4 x0 x1 x2 x3 x4 xl n0' n1' u0 u1 ul Hlog
  refine Hid.out ?_
  refine Lib.hid ?_
  go_wp2_with fail
  refine Hl.out.mono ?_
  rintro e w4 ⟨v4, d1, d2, rfl, hb4, hor⟩
  obtain ⟨hd1, hd2, own4⟩ : d1 = 0 ∧ d2 = 0 ∧ Own byteC M0 w4 w3.heap.size 5 v4 (Mb.logB (Mb.boxC b)) := by
    rcases hor with ⟨h1, h2, _, _, h5⟩ | ⟨_, _, h⟩
    · exact ⟨h1, h2, h5⟩
    · exact absurd ⟨HG.out, Hfit.out⟩ h
  obtain ⟨A4, c4', rfl, _, _⟩ := own4.shape
  have hb04 := below2 hb03 hb4
  have k34 := k3.ext hb04
  obtain ⟨e0, e1, z0, z1, s1⟩ := k34.two
  have Hown := Lib.hid own4
  have Hd := Lib.hid (And.intro hd1 hd2)
  clear hor own4 hd1 hd2 Hl c0 c1' c2 c3 c4
  refine Hid.out ?_
  refine Lib.hid ?_
  go_wp2_with fail
  obtain ⟨e0, e1⟩ := k34.put2 (.int .i64 d1) (.int .i64 d2)
  refine Hid.out ?_
  refine bodyPost_ret (v := .tuple #[.slice A4 (Mb.logB (Mb.boxC b)).length c4', .agg #[.int .i64 d1, .int .i64 d2]]) (by simp [results, Tryz.results13, go_sem, e0, e1]) rfl ⟨_, by rw [Hd.out.1, Hd.out.2], ?_, ?_⟩
  · exact (((own_freeM (M' := One g3) free_byte (own_lower Hown.out (by have := hb03.size; omega))).turned (((Turned.refl g3 _).set 0 _).set 1 _) rfl (fun x hx => by obtain ⟨xs, ho, _⟩ := Hown.out; have h9 := (ho.lt x hx).1; have := hb03.size; omega))).weak (Nat.le_refl _) (fun x hx => hx.elim)
  · exact below_set2 (below2 hb0 hb04) hgl3 _ _
end Go.Proofs.YtjamjkjmlckgeaaGreatDoor
namespace Go.Proofs.YtjamjkjmlckgeaaGreatDoor
open Go.RowKit
set_option linter.unusedVariables false

set_option maxRecDepth 100000 in
set_option maxHeartbeats 8000000 in
theorem vvalidate_ok (q : Int) (l : List Mb.Seen) (s : Value) (w : World) (hs : SlR gnC M0 w s l) (hv : Mb.VGood (q, l)) :
    Calls Tryz.prog 32 #[.agg #[.int .i64 q, s]] w fun e w' => e = .returned (.agg #[.int .i64 0, .int .i64 0]) ∧ Below w.heap.size w w' := by
  obtain ⟨A, c, rfl, hlc, hlm⟩ := hs.form
  obtain ⟨hl, ⟨hq0, hq1⟩, hkn, hup⟩ := hv
  dsimp only at hl hq0 hq1 hkn hup
  obtain ⟨w0, g, g2, hw0, hg0, hg2, hsz0, k0, k2, hb0⟩ := box2 w #[.int .i64 q, .slice A l.length c] 40 #[.int .i64 0, .int .i64 0] 31
  have hgl : w.heap.size ≤ g2 := by omega
  have hgl0 : g2 < w0.heap.size := k2.lt
  have hs0 := hs.ext hb0
  have Hkn := Lib.hid hkn
  have Hup := Lib.hid (List.pairwise_iff_getElem.1 hup)
  have hli : ¬ (600 : Int) < (l.length : Int) := by omega
  have hq0' : decide (q < 0) = false := decide_eq_false (by omega)
  have hq1' : ¬ 1000000 < q := by omega
  have c0 := k0.cell 0; have c1 := k0.cell 1
  clear hsz0 hs hkn hup
  go_enter Tryz.func32, Tryz.ntmps32
  go_wp2_with fail
  go_loopw [22] (fun i wr => ∃ k : Nat, k ≤ l.length ∧ i = .int .i64 (k : Int) ∧ Below w0.heap.size w0 wr) (fun i _ => l.length - (intOf i).toNat)
  case atStart => exact ⟨0, Nat.zero_le _, rfl, Below.refl _ _⟩
  case round =>
    obtain ⟨k, hk, rfl, hb⟩ := hrel
    have hbw := hb0.trans (hb.mono hb0.size)
    have kr0 := k0.ext hb; have kr2 := k2.ext hb
    have c0 := kr0.cell 0; have c1 := kr0.cell 1
    by_cases hlt : k < l.length
    · obtain ⟨be, off, rfl, _, hbe, q0, q1⟩ := (hs0.ext hb).gnAt hlt
      have hkb := known_ok l[k]
      rw [(Mb.knownB_iff _).2 (Hkn.out _ (List.getElem_mem hlt))] at hkb
      have hrise : ∀ j, k = j + 1 → ∀ hj : j < l.length, ¬ l[k].1 ≤ l[j].1 := fun j e hj => by have := Hup.out j k hj hlt (by omega); omega
      obtain ⟨⟨x1, x2⟩, hx⟩ : ∃ x, x = l[k] := ⟨_, rfl⟩
      rw [← hx] at q0 q1 hkb hrise
      dsimp only at q0 q1 hkb hrise
      obtain ⟨wa, ga, hwa, hga, hsza, ka, hba⟩ := box1 wr #[.int .i64 x1, .int .i64 x2] 84
      have Hkb := Lib.hid hkb
      have a0 := ka.cell 0; have a1 := ka.cell 1
      clear hkb hx hsza
      go_wp2_with fail
      refine (Hkb.out _).mono ?_
      rintro e w1 ⟨rfl, hb1⟩
      have a0 := (ka.ext hb1).cell 0; have a1 := (ka.ext hb1).cell 1
      have kr1 := (kr0.ext hba).ext hb1
      have c0 := kr1.cell 0; have c1 := kr1.cell 1
      by_cases h0 : 0 < k
      · obtain ⟨j, rfl⟩ : ∃ j, k = j + 1 := ⟨k - 1, by omega⟩
        have hj : j < l.length := by omega
        obtain ⟨b3, off3, hA, _, _, y1, _⟩ := (((hs0.ext hb).ext hba).ext hb1).gnAt hj
        cases hA
        have hno := hrise j rfl hj
        have hd0 : decide ((0 : Int) < ((j + 1 : Nat) : Int)) = true := decide_eq_true (by omega)
        have hsub : (((j + 1 : Nat) : Int) - 1) = (j : Int) := by omega
        have hno' : decide (x1 ≤ l[j].1) = false := decide_eq_false (by omega)
        clear hrise h0 hno
        go_wp2_with fail
        go_quiet (fail)
        generalize hV : w1.drewN nq = V
        have hbV : Below w1.heap.size w1 V := by rw [← hV]; exact below_drewN' _ _ _
        clear hV
        go_wp2_with fail
        go_roundw
        case rel => exact ⟨j + 1 + 1, by omega, by go_num, hb.trans ((below2 hba (below2 hb1 hbV)).mono hb.size)⟩
        case measure => simp [intOf]; omega
      · have h0' : k = 0 := by omega
        subst h0'
        clear hrise h0
        go_wp2_with fail
        go_quiet (fail)
        generalize hV : w1.drewN nq = V
        have hbV : Below w1.heap.size w1 V := by rw [← hV]; exact below_drewN' _ _ _
        clear hV
        go_wp2_with fail
        go_roundw
        case rel => exact ⟨0 + 1, by omega, by go_num, hb.trans ((below2 hba (below2 hb1 hbV)).mono hb.size)⟩
        case measure => simp [intOf]; omega
    · go_wp2_with (go_at_call 24; refine (none_ok _).mono ?_; rintro e w9 ⟨rfl, hb9⟩; have k9 := kr2.ext hb9; obtain ⟨p0, p1, p2, p3, p4⟩ := k9.two; obtain ⟨e0, e1⟩ := k9.put2 (.int .i64 0) (.int .i64 0))
      refine bodyPost_ret (v := .agg #[.int .i64 0, .int .i64 0]) (by simp [results, Tryz.results32, go_sem, e0, e1]) rfl ⟨rfl, ?_⟩
      exact below_set2 (below2 hbw hb9) hgl _ _
end Go.Proofs.YtjamjkjmlckgeaaGreatDoor
namespace Go.Proofs.YtjamjkjmlckgeaaGreatDoor
open Go.RowKit
set_option linter.unusedVariables false

set_option maxRecDepth 100000 in
set_option maxHeartbeats 8000000 in
theorem vall_ok (b : Mb.Box) (es gs : Value) (w : World) (hes : SlR entC M0 w es b.es) (hG : Mb.Good b) :
    Calls Tryz.prog 72 #[boxV b es gs] w fun e w' => ∃ v, e = .returned v ∧ Own gnC M0 w' w.heap.size 84 v (Mb.allV b) ∧ Below w.heap.size w w' := by
  have hle := hG.le
  have hb9 : ∀ e ∈ b.es, (-9223372036854775808 ≤ e.1 ∧ e.1 ≤ 9223372036854775807) ∧ (-9223372036854775808 ≤ e.2.2.1 ∧ e.2.2.1 ≤ 9223372036854775807) := fun e he => by
    have h := hG.es e he
    have h1 := hG.nu
    exact ⟨⟨by have := h.1.1; omega, by have := h.1.2; omega⟩, ⟨by have := h.2.2.1.1; omega, by have := h.2.2.1.2; omega⟩⟩
  obtain ⟨Ae, ce, rfl, hec, hem⟩ := hes.form
  unfold boxV
  obtain ⟨w0, g, hw0, hg, hsz0, k0, hb0⟩ := box1 w #[.int .i64 b.nu, .int .i64 b.ns, .int .i64 b.hz, .slice Ae b.es.length ce, gs] 26
  have he0 := hes.ext hb0
  have c0 := k0.cell 0; have c1 := k0.cell 1; have c2 := k0.cell 2; have c3 := k0.cell 3; have c4 := k0.cell 4
  have Hb9 := Lib.hid hb9
  have hz0 := hb0.size
  clear hb9 hes hsz0
  go_enter Tryz.func72, Tryz.ntmps72
  go_wp2_with fail
  go_loopw [3, 9] (fun o i wr => ∃ (k : Nat) (A : Option Addr) (c : Nat) (L : List (Int × Int)), k ≤ b.es.length ∧ i = .int .i64 (k : Int) ∧ o = .slice A L.length c ∧ Hid (L = (b.es.take k).map fun e => (e.1, e.2.2.1)) ∧ Own gnC M0 wr w0.heap.size 84 (.slice A L.length c) L ∧ Below w0.heap.size w0 wr) (fun _ i _ => b.es.length - (intOf i).toNat)
  case atStart => exact ⟨0, none, 0, [], Nat.zero_le _, rfl, rfl, Lib.hid (by simp), Own.nil _ _ _ _ _, Below.refl _ _⟩
  case round =>
    obtain ⟨k, A, c, L, hk, rfl, rfl, hL, own, hbr⟩ := hrel
    clear c3
    have hzr := hbr.size
    by_cases hlt : k < b.es.length
    · obtain ⟨bb, off, Af, cf, Ab, cb, rfl, _, _, q0, q1, q2, q3, q4, q5, qf, qb⟩ := (he0.ext hbr).entAt hlt
      have hcat : b.es.take (k + 1) = b.es.take k ++ [b.es[k]] := List.take_succ_eq_append_getElem hlt
      have hLl : L.length = k := by rw [hL.out, List.length_map, List.length_take]; omega
      have hrg := Hb9.out _ (List.getElem_mem hlt)
      obtain ⟨x, hx⟩ : ∃ x, x = b.es[k] := ⟨_, rfl⟩
      rw [← hx] at q0 q1 q2 q3 q4 q5 qf qb hcat hrg
      obtain ⟨x1, x2, x3, x4, f, bd⟩ := x
      dsimp only at q0 q1 q2 q3 q4 q5 hrg
      obtain ⟨wx, gx, hwx, hgx, hszx, kx, hbx⟩ := box1 wr #[.int .i64 x1, .int .i64 x2, .int .i64 x3, .int .i64 x4, .slice Af f.length cf, .slice Ab bd.length cb] 65
      have y0 := kx.cell 0; have y2 := kx.cell 2
      have ownx := own.ext hbx
      have hbwx := hbr.trans (hbx.mono hzr)
      have hzx := hbwx.size
      have hrd : gnC.rd (fun x => M0 x ∨ (Value.slice A L.length c).ownBlock = some x) wx [.int .i64 x1, .int .i64 x3] (x1, x3) := ⟨_, _, rfl, ⟨rfl, hrg.1⟩, ⟨rfl, hrg.2⟩⟩
      have HLl := Lib.hid hLl; have Hcat := Lib.hid hcat
      clear own kx hszx hLl hcat hx qf qb hrg
      go_wp2_with (at_builtin; refine wpList_push_Own gnC (M := M0) (B := w0.heap.size) TSns rfl (.tmp 13) (.tmp 19) rfl rfl ownx rfl (cs := [.int .i64 x1, .int .i64 x3]) (y := (x1, x3)) hrd (fun _ h => h.elim) ?a1 ?b1 hzx ?_)
      case a1 => have := HLl.out; unfold maxLen; omega
      case b1 => have := HLl.out; omega
      intro A4 c4 L4 w4 hL4 own4 hb4 hg4 hor4
      have HL4 := Lib.hid (show L4 = (b.es.take (k + 1)).map fun e => (e.1, e.2.2.1) by rw [hL4.out, hL.out, Hcat.out, List.map_append]; rfl)
      have hbw4 := hbwx.trans hb4
      clear ownx hrd hL4 hg4 hor4 hb4
      go_wp2_with fail
      go_roundw
      case rel => exact ⟨k + 1, A4, c4, L4, by omega, by go_num, rfl, HL4, own4, hbw4⟩
      case measure => simp [intOf]; omega
    · have hL2 : L = Mb.allV b := by rw [hL.out, List.take_of_length_le (by omega)]; rfl
      have HL2 := Lib.hid hL2
      clear hL hL2
      go_wp2_with fail
      go_ret
      refine ⟨_, rfl, ?_, below2 hb0 hbr⟩
      rw [← HL2.out]
      exact own_lower own hb0.size
end Go.Proofs.YtjamjkjmlckgeaaGreatDoor

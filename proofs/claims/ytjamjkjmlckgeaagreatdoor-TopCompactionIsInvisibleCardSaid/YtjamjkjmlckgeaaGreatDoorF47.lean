/-
  mailbox.Replay.
-/
import Derived.Test.YtjamjkjmlckgeaaGreatDoorF46
namespace Go.Proofs.YtjamjkjmlckgeaaGreatDoor
open Go.RowKit
set_option linter.unusedVariables false

namespace Mb
/-- records that can be played, one after another -/
def Plays : Box → Bool → Bool → List Rc → Box → Prop
  | b, _, _, [], b' => b = b'
  | b, _, _, .chg c :: l, b' => Good b ∧ b.gs.length < 400 ∧ (applF b c).2.1 = 0 ∧ Plays (applF b c).1 false false l b'
  | b, _, f, .head nu ns hz gs :: l, b' => f = true ∧ Good ⟨nu, ns, hz, b.es, gs⟩ ∧ Plays ⟨nu, ns, hz, b.es, gs⟩ true false l b'
  | b, h, _, .ent e :: l, b' => h = true ∧ Good ⟨b.nu, b.ns, b.hz, b.es ++ [e], b.gs⟩ ∧ Plays ⟨b.nu, b.ns, b.hz, b.es ++ [e], b.gs⟩ true false l b'
theorem plays_runs : ∀ (l : List Chg) (b b' : Box) (h f : Bool), Runs b l b' → Good b → b.gs.length + l.length ≤ 400 → Plays b h f (l.map .chg) b'
  | [], b, b', h, f, hr, _, _ => hr
  | c :: l, b, b', h, f, hr, hg, hl => by
    rw [List.length_cons] at hl
    have h1 := appl_len hr.1
    exact ⟨hg, by omega, hr.1, plays_runs l _ b' false false hr.2 (appl_good hg (by omega) hr.1) (by omega)⟩
theorem plays_ents (b b' : Box) (h : Good b) (m : List Rc) (hm : Plays b true false m b') : ∀ (l : List Ent) (k : Nat), b.es.drop k = l → Plays ⟨b.nu, b.ns, b.hz, b.es.take k, b.gs⟩ true false (l.map .ent ++ m) b'
  | [], k, hk => by
    have h1 : b.es.take k = b.es := List.take_of_length_le (by have := congrArg List.length hk; rw [List.length_drop] at this; simp at this; omega)
    rw [h1]
    exact hm
  | e :: l, k, hk => by
    have hlt : k < b.es.length := by
      have := congrArg List.length hk
      rw [List.length_drop, List.length_cons] at this
      omega
    rw [List.drop_eq_getElem_cons hlt] at hk
    have h1 : b.es.take (k + 1) = b.es.take k ++ [e] := by
      rw [List.take_add_one, List.getElem?_eq_getElem hlt, (List.cons.inj hk).1]
      rfl
    have h3 := good_take h (k + 1)
    have h4 := plays_ents b b' h m hm l (k + 1) (List.cons.inj hk).2
    rw [h1] at h3 h4
    exact ⟨rfl, h3, h4⟩
theorem plays_box {b b' : Box} (h : Good b) (m : List Rc) (hm : Plays b true false m b') : Plays newB false true (boxC b ++ m) b' :=
  ⟨rfl, good_take h 0, plays_ents b b' h m hm b.es 0 rfl⟩
end Mb
set_option maxRecDepth 100000 in
set_option maxHeartbeats 8000000 in
theorem replay_ok (M : Nat → Prop) (n0 : Nat) (w : World) (v : Value) (t : List UInt8) (l : List Mb.Rc) (b : Mb.Box) (hE : Env n0 w) (hn : n0 ≤ w.heap.size) (hM : ∀ x, M x → x < w.heap.size) (hv : SlR byteC M0 w v t) (ht1 : (readF t).1 = l.map Mb.rcB) (ht2 : (readF t).2.2 = (0, 0)) (hin : ∀ r ∈ l, Mb.RcIn r) (hpl : Mb.Plays Mb.newB false true l b) :
    Calls Tryz.prog 7 #[v] w fun e w' => ∃ es gs, e = .returned (.tuple #[boxV b es gs, .agg #[.int .i64 0, .int .i64 0]]) ∧ SlR entC M w' es b.es ∧ SlR gnC M w' gs b.gs ∧ Below w.heap.size w w' := by
  have hrd := fun W (h : SlR byteC M0 W v t) => read_ok v t W h
  obtain ⟨A, c, rfl, hlc, hlm⟩ := hv.form
  obtain ⟨⟨ts, nr, f1, f2⟩, hrr⟩ : ∃ r, r = readF t := ⟨_, rfl⟩
  rw [← hrr] at hrd ht1 ht2
  dsimp only at hrd ht1 ht2
  have hf1 : (f1 != 0) = false := by rw [show f1 = 0 from congrArg Prod.fst ht2]; rfl
  subst ht1
  have Hrd := Lib.hid hrd
  clear hrd hrr ht2
  obtain ⟨w0, g2, g3, hw0, hg2, hg3, hsz0, k2, k3, hb0⟩ := box2 w #[.int .i64 0, .int .i64 0, .int .i64 0, .slice none 0 0, .slice none 0 0] 26 #[.int .i64 0, .int .i64 0] 31
  obtain ⟨M1, hM1⟩ : ∃ M1 : Nat → Prop, M1 = fun x => M x ∨ x = g2 ∨ x = g3 := ⟨_, rfl⟩
  have hMM : ∀ x, M x → M1 x := fun x hx => by rw [hM1]; exact .inl hx
  have hM12 : M1 g2 := by rw [hM1]; exact .inr (.inl rfl)
  have hM13 : M1 g3 := by rw [hM1]; exact .inr (.inr rfl)
  have hM1lt : ∀ x, M1 x → x < w0.heap.size := by
    intro x hx
    rw [hM1] at hx
    rcases hx with hx | hx | hx
    · have := hM x hx; omega
    · omega
    · omega
  have hne : g2 ≠ g3 := by omega
  have hgl2 : w.heap.size ≤ g2 := by omega
  have hgl3 : w.heap.size ≤ g3 := by omega
  have hE0 := hE.ext hb0 hn
  have hz0 := hb0.size
  clear hM1 hsz0 hE
  go_enter Tryz.func7, Tryz.ntmps7
  go_wp2_with fail
  refine (Hrd.out w0 (hv.ext hb0)).mono ?_
  rintro e w1 ⟨u, rfl, hu, hb1⟩
  obtain ⟨Au, cu, rfl, hulc, hulm⟩ := hu.form
  have hlen : (l.map Mb.rcB).length = l.length := List.length_map _
  rw [hlen] at hu hulc ⊢
  have hlm9 : l.length ≤ 9223372036854775807 := Nat.le_trans hulc hulm
  refine Hid.out ?_
  refine Lib.hid ?_
  obtain ⟨w2, g6, hw2, hg6, hsz2, k6, hb2⟩ := box1 w1 #[.int .i64 f1, .int .i64 f2] 31
  have hb2' := below2 hb1 hb2
  obtain ⟨p0, p1, _, _, _⟩ := k6.two
  clear k6 hsz2
  go_wp2_with fail
  refine (failed_ok f1 f2 w2).mono ?_
  rintro e w3 ⟨rfl, hb3⟩
  have hb3' := below2 hb2' hb3
  clear p0 p1 hw2
  refine Hid.out ?_
  refine Lib.hid ?_
  go_wp2_with fail
  refine (new_ok w3).mono ?_
  rintro e w4 ⟨he, hb4⟩
  obtain ⟨c0, c1, c2, c3, c4, hcc⟩ : ∃ c0 c1 c2 c3 c4 : Value, c0 = .int .i64 1 ∧ c1 = .int .i64 1 ∧ c2 = .int .i64 0 ∧ c3 = .slice none 0 0 ∧ c4 = .slice none 0 0 := ⟨_, _, _, _, _, rfl, rfl, rfl, rfl, rfl⟩
  have he : e = .returned (.agg #[c0, c1, c2, c3, c4]) := by rw [he, hcc.1, hcc.2.1, hcc.2.2.1, hcc.2.2.2.1, hcc.2.2.2.2]; rfl
  subst he
  have hb4' := below2 hb3' hb4
  obtain ⟨wp, p, hwp, hgp, hszp, kp, hbp⟩ := box1 w4 #[c0, c1, c2, c3, c4, .bool false] 77
  have hbp' := below2 hb4' hbp
  obtain ⟨B, hB⟩ : ∃ B, B = w4.heap.size := ⟨_, rfl⟩
  have hBp : B = p := by omega
  have hz4 := hb4'.size
  have hpw : w0.heap.size ≤ p := by omega
  obtain ⟨M2, hM2⟩ : ∃ M2 : Nat → Prop, M2 = fun x => M1 x ∨ x = p := ⟨_, rfl⟩
  have hM2p : M2 p := by rw [hM2]; exact .inr rfl
  have hM21 : ∀ x, M1 x → M2 x := fun x hx => by rw [hM2]; exact .inl hx
  have hM2lt : ∀ x, M2 x → x < wp.heap.size := fun x hx => by
    rw [hM2] at hx
    rcases hx with hx | hx
    · have := hM1lt x hx; omega
    · omega
  have hP0 : PlAt M2 wp B p Mb.newB false := by
    obtain ⟨rfl, rfl, rfl, rfl, rfl⟩ := hcc
    exact ⟨by omega, hM2p, _, _, kp, Own.nil _ _ _ _ _, Own.nil _ _ _ _ _, fun x hx => (by simp [Value.ownBlock] at hx), fun x hx => (by simp [Value.ownBlock] at hx)⟩
  have hux : SlR (sliceC byteC) (fun x => B ≤ x) wp (.slice Au l.length cu) (l.map Mb.rcB) := by
    have h1 := (hu.ext (below2 hb2 (below2 hb3 hb4))).fromB
    rw [← hB] at h1
    exact h1.ext hbp
  have hEp := Lib.hid (hE0.ext hbp' (by omega))
  have hBw : n0 ≤ B := by omega
  have hBwp : B ≤ wp.heap.size := by omega
  have HP0 := Lib.hid hP0
  have Hhin := Lib.hid hin
  have Hb04 := Lib.hid hb4'
  have hB4 := hB
  clear hcc hM2 hu hb1 hb2 hb2' hb3 hb3' hb4 hb4' hszp kp hP0 hin hE0 hw0
  refine Hid.out ?_
  refine Lib.hid ?_
  go_wp2_with fail
  go_loopw [26] (fun i wr => ∃ (k : Nat) (bk : Mb.Box) (hk : Bool), k ≤ l.length ∧ i = .int .i64 (k : Int) ∧ Hid (PlAt M2 wr B p bk hk) ∧ Hid (Mb.Plays bk hk (k == 0) (l.drop k) b) ∧ Hid (Below B wp wr)) (fun i _ => l.length - (intOf i).toNat)
  case atStart => exact ⟨0, Mb.newB, false, Nat.zero_le _, rfl, HP0, Lib.hid hpl, Lib.hid (Below.refl _ _)⟩
  case round =>
    obtain ⟨k, bk, hk, hkl, rfl, hPk, hplk, hBr⟩ := hrel
    clear hwp
    have hzr := hBr.out.size
    by_cases hlt : k < l.length
    · have hkm : k < (l.map Mb.rcB).length := by rw [hlen]; exact hlt
      obtain ⟨bb, off, A2, c2, rfl, _, _, q0, hst⟩ := (hux.belowB hBr.out).sliceAt hkm
      have hget : (l.map Mb.rcB)[k] = Mb.rcB l[k] := List.getElem_map _
      rw [hget] at q0 hst
      have hrin := Hhin.out _ (List.getElem_mem hlt)
      have hplk2 := hplk.out
      rw [List.drop_eq_getElem_cons hlt] at hplk2
      obtain ⟨fb, hfb⟩ : ∃ t, ((k : Int) == 0) = t := ⟨_, rfl⟩
      have hfb2 : (k == 0) = fb := by rw [← hfb, Bool.eq_iff_iff]; simp only [beq_iff_eq]; omega
      rw [hfb2] at hplk2
      obtain ⟨r, hr⟩ : ∃ r, r = l[k] := ⟨_, rfl⟩
      rw [← hr] at q0 hst hrin hplk2
      have hEr := hEp.out.on (hBr.out.mono hBw)
      have hM2r : ∀ x, M2 x → x < wr.heap.size := fun x hx => Nat.lt_of_lt_of_le (hM2lt x hx) hzr
      have hcall : Calls Tryz.prog 26 #[.pointer (some ⟨p, 0, none⟩), .slice A2 (Mb.rcB r).length c2, .bool fb] wr fun e w' => e = .returned (.bool true) ∧ (∃ b2 h2, PlAt M2 w' B p b2 h2 ∧ Mb.Plays b2 h2 false (l.drop (k + 1)) b) ∧ Below B wr w' := by
        cases r with
        | chg c =>
          refine (play_chg M2 n0 wr B p bk hk c _ fb hEr hBw hM2r hPk.out hst hrin hplk2.1 hplk2.2.1 hplk2.2.2.1).mono ?_
          rintro e w' ⟨h1, h2, h3⟩
          exact ⟨h1, ⟨_, _, h2, hplk2.2.2.2⟩, h3⟩
        | head nu ns hz gs =>
          obtain ⟨h0, h4, h5⟩ := hplk2
          subst h0
          refine (play_head M2 n0 wr B p bk hk nu ns hz gs _ hEr hBw hM2r hPk.out hst hrin h4).mono ?_
          rintro e w' ⟨h1, h2, h3⟩
          exact ⟨h1, ⟨_, _, h2, h5⟩, h3⟩
        | ent e9 =>
          obtain ⟨h0, h4, h5⟩ := hplk2
          subst h0
          refine (play_ent M2 n0 wr B p bk e9 _ fb hEr hBw hM2r hPk.out hst hrin h4).mono ?_
          rintro e w' ⟨h1, h2, h3⟩
          exact ⟨h1, ⟨_, _, h2, h5⟩, h3⟩
      have Hcall := Lib.hid hcall
      obtain ⟨nl, hnl⟩ : ∃ n, n = (Mb.rcB r).length := ⟨_, rfl⟩
      rw [← hnl] at q0 Hcall
      clear hcall hst hrin hplk2 hfb2 hEr hM2r hnl hget hr hkm hPk hplk
      go_wp2_with (go_at_call 26; refine Hcall.out.mono ?_; rintro e w5 ⟨rfl, ⟨b2, h2, hP2, hpl2⟩, hb5⟩)
      go_roundw
      case rel => exact ⟨k + 1, b2, h2, by omega, by go_num, Lib.hid hP2, Lib.hid (by rw [show (k + 1 == 0) = false from by simp]; exact hpl2), Lib.hid (hBr.out.trans hb5)⟩
      case measure => simp [intOf]; omega
    · have hbk := hplk.out
      rw [List.drop_eq_nil_of_le (by omega)] at hbk
      have hbk : bk = b := hbk
      subst hbk
      obtain ⟨_, _, es, gs, kpr, oE, oG, hesM, hgsM⟩ := hPk.out
      obtain ⟨Aes, ces, rfl, _, _⟩ := oE.shape
      obtain ⟨Ags, cgs, rfl, _, _⟩ := oG.shape
      have hb0r : Below w0.heap.size w0 wr := Hb04.out.trans (by rw [hB4] at hBr; exact (hbp.trans hBr.out).mono hz4)
      have heR : SlR entC M1 wr (.slice Aes bk.es.length ces) bk.es := (oE.read fun x hx h => h.elim (hesM x hx) fun h => own_apart oG oE (by decide) x hx h).sub fun x _ hx => .inl (hM21 x hx)
      have hgR : SlR gnC M1 wr (.slice Ags bk.gs.length cgs) bk.gs := (oG.read hgsM).sub fun x _ hx => hM21 x hx
      clear hPk hplk oE oG hesM hgsM
      have HS := Lib.hid (show ∀ W, Below wr.heap.size wr W → W.cell? ⟨p, 0, none⟩ = some (.int .i64 bk.nu) ∧ W.cell? ⟨p, 1, none⟩ = some (.int .i64 bk.ns) ∧ W.cell? ⟨p, 2, none⟩ = some (.int .i64 bk.hz) ∧ W.cell? ⟨p, 3, none⟩ = some (.slice Aes bk.es.length ces) ∧ W.cell? ⟨p, 4, none⟩ = some (.slice Ags bk.gs.length cgs) from fun W hW => ⟨(kpr.ext hW).cell 0, (kpr.ext hW).cell 1, (kpr.ext hW).cell 2, (kpr.ext hW).cell 3, (kpr.ext hW).cell 4⟩)
      go_wp2_with fail
      refine wp_region_D (fun W => W.cell? ⟨p, 0, none⟩ = some (.int .i64 bk.nu) ∧ W.cell? ⟨p, 1, none⟩ = some (.int .i64 bk.ns) ∧ W.cell? ⟨p, 2, none⟩ = some (.int .i64 bk.hz) ∧ W.cell? ⟨p, 3, none⟩ = some (.slice Aes bk.es.length ces) ∧ W.cell? ⟨p, 4, none⟩ = some (.slice Ags bk.gs.length cgs)) (fun j => j == 6 || j == 7) (by kernel_rfl) ?_
      change anyD _ _ _ _ _ _ _ _ _ (wr.drewN 1)
      have hbV := below_drewN' wr.heap.size wr 1
      generalize wr.drewN 1 = V0 at hbV ⊢
      have hS := HS.out V0 hbV
      (refine anyD_light (i := 0) (v := ?_) rfl (by kernel_rfl) (by kernel_rfl) (by kernel_rfl) (by kernel_rfl) (by kernel_rfl) (fun _ _ _ h => h) (.inl ⟨by kernel_rfl, fun W9 hW9 => ?_⟩) hS ?_; rotate_left; · (obtain ⟨hw0, hw1, hw2, hw3, hw4⟩ := hW9; go_simp; rfl))
      (refine anyD_light (i := 1) (v := ?_) rfl (by kernel_rfl) (by kernel_rfl) (by kernel_rfl) (by kernel_rfl) (by kernel_rfl) (fun _ _ _ h => h) (.inl ⟨by kernel_rfl, fun W9 hW9 => ?_⟩) hS ?_; rotate_left; · (obtain ⟨hw0, hw1, hw2, hw3, hw4⟩ := hW9; go_simp; rfl))
      (refine anyD_light (i := 2) (v := ?_) rfl (by kernel_rfl) (by kernel_rfl) (by kernel_rfl) (by kernel_rfl) (by kernel_rfl) (fun _ _ _ h => h) (.inl ⟨by kernel_rfl, fun W9 hW9 => ?_⟩) hS ?_; rotate_left; · (obtain ⟨hw0, hw1, hw2, hw3, hw4⟩ := hW9; go_simp; rfl))
      (refine anyD_light (i := 3) (v := ?_) rfl (by kernel_rfl) (by kernel_rfl) (by kernel_rfl) (by kernel_rfl) (by kernel_rfl) (fun _ _ _ h => h) (.inl ⟨by kernel_rfl, fun W9 hW9 => ?_⟩) hS ?_; rotate_left; · (obtain ⟨hw0, hw1, hw2, hw3, hw4⟩ := hW9; go_simp; rfl))
      (refine anyD_light (i := 4) (v := ?_) rfl (by kernel_rfl) (by kernel_rfl) (by kernel_rfl) (by kernel_rfl) (by kernel_rfl) (fun _ _ _ h => h) (.inl ⟨by kernel_rfl, fun W9 hW9 => ?_⟩) hS ?_; rotate_left; · (obtain ⟨hw0, hw1, hw2, hw3, hw4⟩ := hW9; go_simp; rfl))
      go_simp
      refine anyD_one (i := 5) (by kernel_rfl) rfl rfl (fun K hK => ?_)
      have HK := Lib.hid hK
      clear hK
      clear hS
      unfold Oper.wp
      go_simp
      refine (none_ok V0).mono ?_
      rintro e V1 ⟨rfl, hb1⟩
      have hb1' := below2 hbV hb1
      have hS := HS.out V1 hb1'
      refine HK.out _ _ (fun _ => hS) ?_
      clear HK
      go_simp
      refine anyD_one (i := 6) (by kernel_rfl) rfl rfl (fun K hK => ?_)
      have HK := Lib.hid hK
      clear hK
      have hbR := below2 hb0r hb1'
      have k4W := k2.ext hbR; have k5W := k3.ext hbR
      obtain ⟨z0, z1, z2, z3, z4, y0, y1, hbZ, hTz⟩ := res7 k4W k5W hne (.int .i64 bk.nu) (.int .i64 bk.ns) (.int .i64 bk.hz) (.slice Aes bk.es.length ces) (.slice Ags bk.gs.length cgs) (.int .i64 0) (.int .i64 0)
      have m0 := k4W.cell 0; have m1 := k4W.cell 1; have m2 := k4W.cell 2; have m3 := k4W.cell 3; have m4 := k4W.cell 4
      have x0 := k4W.frozen 0; have x1 := k4W.frozen 1; have x2 := k4W.frozen 2; have x3 := k4W.frozen 3; have x4 := k4W.frozen 4; have xl := k4W.lt
      have n0c := (k5W.turned (put5_turned V1 g2 (.int .i64 bk.nu) (.int .i64 bk.ns) (.int .i64 bk.hz) (.slice Aes bk.es.length ces) (.slice Ags bk.gs.length cgs)) hne.symm).cell 0; have n1c := (k5W.turned (put5_turned V1 g2 (.int .i64 bk.nu) (.int .i64 bk.ns) (.int .i64 bk.hz) (.slice Aes bk.es.length ces) (.slice Ags bk.gs.length cgs)) hne.symm).cell 1
      obtain ⟨_, _, u0, u1, ul⟩ := k5W.two
      have u0b := (put5_turned V1 g2 (.int .i64 bk.nu) (.int .i64 bk.ns) (.int .i64 bk.hz) (.slice Aes bk.es.length ces) (.slice Ags bk.gs.length cgs)).frozen0 k5W hne.symm; have u1b := (put5_turned V1 g2 (.int .i64 bk.nu) (.int .i64 bk.ns) (.int .i64 bk.hz) (.slice Aes bk.es.length ces) (.slice Ags bk.gs.length cgs)).frozen1 k5W hne.symm
      obtain ⟨Wz, hTz1, hTz2⟩ := hTz
      have hfe := (((heR.ext hb1').turned hTz1 hM12).turned hTz2 hM13)
      have hfg := (((hgR.ext hb1').turned hTz1 hM12).turned hTz2 hM13)
      unfold put5 at *
      unfold Oper.wp
      go_simp
      refine HK.out _ _ (fun h => by cases h) ?_
      clear HK
      go_simp
      refine anyD_one (i := 7) (by kernel_rfl) rfl rfl (fun K hK => ?_)
      have HK := Lib.hid hK
      clear hK
      unfold Oper.wp
      go_simp
      refine HK.out _ _ (fun h => by cases h) ?_
      clear HK
      go_simp
      refine anyD_done (by kernel_rfl) ?_ _
      go_wp2_with fail
      refine bodyPost_ret (v := .tuple #[.agg #[.int .i64 bk.nu, .int .i64 bk.ns, .int .i64 bk.hz, .slice Aes bk.es.length ces, .slice Ags bk.gs.length cgs], .agg #[.int .i64 0, .int .i64 0]]) (by simp [results, Tryz.results7, go_sem, z0, z1, z2, z3, z4, y0, y1]) rfl ⟨_, _, rfl, ?_, ?_, ?_⟩
      · exact hfe.sub fun x _ hx => hMM x hx
      · exact hfg.sub fun x _ hx => hMM x hx
      · exact (below2 hb0 hbR).trans (hbZ _ (by omega) (by omega))
end Go.Proofs.YtjamjkjmlckgeaaGreatDoor

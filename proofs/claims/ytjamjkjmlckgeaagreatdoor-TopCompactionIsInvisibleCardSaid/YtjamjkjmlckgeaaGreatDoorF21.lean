/-
  Contracts and plain facts, one after another: compact.Log; Two fresh blocks that a call's two results are stored into: a value of five cells and a fault, a value of two cells and a fault; n09Letter; the example's mailbox.
-/
import Derived.Test.YtjamjkjmlckgeaaGreatDoorF47
import Derived.Test.YtjamjkjmlckgeaaGreatDoorF16
namespace Go.Proofs.YtjamjkjmlckgeaaGreatDoor
open Go.RowKit
set_option linter.unusedVariables false

namespace Mb
theorem boxR_in {b : Box} (h : Good b) (k : Nat) : ∀ r ∈ (boxC b).take k, RcIn r := fun r hr => box_in h r (List.mem_of_mem_take hr)
theorem append_full {l : List Rc} {r : Rc} (h : ∀ x ∈ l, RcIn x) (hr : RcIn r) (hl : logLen l ≤ 400000) (hn : ¬ logLen (l ++ [r]) ≤ 400000) : appendF (logB l) (rcB r) = ([], 13, -1) := by
  have h1 := (logB_recs h).2
  have h2 := rc_len hr
  have h3 := logB_len l
  have h4 : logLen (l ++ [r]) = logLen l + ((rcB r).length + 10) := by
    rw [logLen_append]
    unfold logLen
    simp
  unfold appendF
  rw [if_neg (by omega), if_neg (by omega), if_neg (by omega), if_pos (by omega)]
theorem logLen_take (l : List Rc) (k : Nat) : logLen (l.take k) ≤ logLen l := by
  have h := logLen_append (l.take k) (l.drop k)
  rw [List.take_append_drop] at h
  omega
end Mb
set_option maxRecDepth 100000 in
set_option maxHeartbeats 8000000 in
theorem clog_ok (n0 : Nat) (w : World) (b : Mb.Box) (es gs : Value) (hE : Env n0 w) (hn : n0 ≤ w.heap.size) (hes : SlR entC M0 w es b.es) (hgs : SlR gnC M0 w gs b.gs) (hsz : ∀ e ∈ b.es, e.2.2.2.2.2.length ≤ 140737488355328) :
    Calls Tryz.prog 6 #[boxV b es gs] w fun e w' => ∃ v c d, e = .returned (.tuple #[v, .agg #[.int .i64 c, .int .i64 d]]) ∧ Below w.heap.size w w' ∧ ((c = 0 ∧ d = 0 ∧ Mb.Good b ∧ Mb.logLen (Mb.boxC b) ≤ 400000 ∧ Own byteC M0 w' w.heap.size 5 v (Mb.logB (Mb.boxC b))) ∨ (c ≠ 0 ∧ v = .slice none 0 0 ∧ ¬ (Mb.Good b ∧ Mb.logLen (Mb.boxC b) ≤ 400000))) := by
  have hval := fun W h1 h2 => validate_ok b es gs W h1 h2 hsz
  have hrec := fun W h0 h1 h2 h3 hG => mrecords_ok n0 W b es gs h0 h1 h2 h3 hG
  have hgood : (Mb.boxF b).1 = 0 → Mb.Good b := Mb.boxF_good.1
  have hgood' : Mb.Good b → (Mb.boxF b).1 = 0 := Mb.boxF_good.2
  obtain ⟨Ae, ce, rfl, hec, hem⟩ := hes.form
  obtain ⟨Ag, cg, rfl, hgc, hgm⟩ := hgs.form
  obtain ⟨⟨c1, d1⟩, hc⟩ : ∃ r, r = Mb.boxF b := ⟨_, rfl⟩
  rw [← hc] at hval hgood hgood'
  dsimp only at hval hgood hgood'
  unfold boxV at hval hrec ⊢
  obtain ⟨w0, g2, g3, hw0, hg2, hg3, hsz0, k2, k3, hb0⟩ := box2 w #[.int .i64 b.nu, .int .i64 b.ns, .int .i64 b.hz, .slice Ae b.es.length ce, .slice Ag b.gs.length cg] 26 #[.int .i64 0, .int .i64 0] 31
  have hgl3 : w.heap.size ≤ g3 := by omega
  have hg3u : g3 < w0.heap.size := by omega
  have hE0 := hE.ext hb0 hn
  have hz0 := hb0.size
  have Hval := Lib.hid (hval w0 (hes.ext hb0) (hgs.ext hb0))
  have Hrec := Lib.hid hrec; have Hgood := Lib.hid hgood; have Hgood' := Lib.hid hgood'
  have he0 := hes.ext hb0; have hg0 := hgs.ext hb0
  have c0 := k2.cell 0; have c1' := k2.cell 1; have c2 := k2.cell 2; have c3 := k2.cell 3; have c4 := k2.cell 4
  clear hval hrec hgood hgood' hc hes hgs hsz hsz0 hE
  go_enter Tryz.func6, Tryz.ntmps6
  go_wp2_with fail
  refine Hval.out.mono ?_
  rintro e w1 ⟨rfl, hb1⟩
  refine Hid.out ?_
  refine Lib.hid ?_
  obtain ⟨w2, g4, hw2, hg4, hsz2, k4, hb2⟩ := box1 w1 #[.int .i64 c1, .int .i64 d1] 31
  have hb02 := below2 hb1 hb2
  obtain ⟨p0, p1, _, _, _⟩ := k4.two
  have K4 := Lib.hid k4
  clear k4 hsz2 c0 c1' c2 c3 c4
  go_wp2_with fail
  refine (failed_ok c1 d1 w2).mono ?_
  rintro e w3 ⟨rfl, hb3⟩
  have hb03 := below2 hb02 hb3
  have k33 := k3.ext hb03
  clear p0 p1 hw2
  by_cases hc1 : c1 = 0
  · have hz : (c1 != 0) = false := by simpa using hc1
    have hG := Hgood.out hc1
    have HG := Lib.hid hG
    have Hc1 := Lib.hid hc1
    have Hr := Lib.hid (Hrec.out w3 (hE0.ext hb03 (by omega)) (by have := hb03.size; omega) (he0.ext hb03) (hg0.ext hb03) hG)
    have k23 := k2.ext hb03
    have c0 := k23.cell 0; have c1' := k23.cell 1; have c2 := k23.cell 2; have c3 := k23.cell 3; have c4 := k23.cell 4
    have hz3 := hb03.size
    clear hG hc1 Hgood Hgood' Hrec
    refine Hid.out ?_
    refine Lib.hid ?_
    go_wp2_with fail
    refine Hr.out.mono ?_
    rintro e w4 ⟨v4, rfl, own4, hb4⟩
    have hRl : Mb.boxR b = (Mb.boxC b).map Mb.rcB := Mb.boxR_rc b
    rw [hRl] at own4
    obtain ⟨rs, hrs⟩ : ∃ x, x = Mb.boxC b := ⟨_, rfl⟩
    rw [← hrs] at own4
    have Hrs := Lib.hid hrs
    have hrin : ∀ r ∈ rs, Mb.RcIn r := by rw [hrs]; exact Mb.box_in HG.out
    have hlen : (rs.map Mb.rcB).length = rs.length := List.length_map _
    have hr4 : SlR (sliceC byteC) M0 w4 v4 (rs.map Mb.rcB) := own4.read0
    obtain ⟨A4, c4', rfl, hl4, hm4⟩ := hr4.form
    rw [hlen] at hr4 hl4
    have hlm : rs.length ≤ 9223372036854775807 := Nat.le_trans hl4 hm4
    have hb04 := below2 hb03 hb4
    have hz4 := hb04.size
    have Hrin := Lib.hid hrin
    have hu0 : Own byteC M0 w4 w4.heap.size 5 (.slice none 0 0) (Mb.logB (rs.take 0)) := Own.nil _ _ _ _ _
    clear c0 c1' c2 c3 c4 own4 hRl Hr hrin hrs
    refine Hid.out ?_
    refine Lib.hid ?_
    have HL := Lib.hid hlen
    clear hlen
    go_wp2_with fail
    go_loopw [5, 18] (fun u i wr => ∃ (k : Nat) (A : Option Addr) (n c : Nat) , k ≤ rs.length ∧ i = .int .i64 (k : Int) ∧ u = .slice A n c ∧ Hid (Own byteC M0 wr w4.heap.size 5 (.slice A n c) (Mb.logB (rs.take k))) ∧ Hid (Mb.logLen (rs.take k) ≤ 400000) ∧ Hid (Below w4.heap.size w4 wr)) (fun _ i _ => rs.length - (intOf i).toNat)
    case atStart => exact ⟨0, none, 0, 0, Nat.zero_le _, rfl, rfl, Lib.hid hu0, Lib.hid (by simp [Mb.logLen]), Lib.hid (Below.refl _ _)⟩
    case round =>
      obtain ⟨k, A, n, c, hk, rfl, rfl, hu, hll, hBr⟩ := hrel
      have hzr := hBr.out.size
      by_cases hlt : k < rs.length
      · have hkm : k < (rs.map Mb.rcB).length := by rw [HL.out]; exact hlt
        obtain ⟨bb, off, A2, c2, rfl, _, _, q0, hst⟩ := (hr4.fromB.belowB hBr.out).sliceAt hkm
        have hget : (rs.map Mb.rcB)[k] = Mb.rcB rs[k] := List.getElem_map _
        rw [hget] at q0 hst
        have hap := append_ok _ _ (Mb.logB (rs.take k)) (Mb.rcB rs[k]) wr hu.out.read0 hst.zero
        have hsc : rs.take (k + 1) = rs.take k ++ [rs[k]] := List.take_succ_eq_append_getElem hlt
        have hrk := Hrin.out _ (List.getElem_mem hlt)
        have hrt : ∀ r ∈ rs.take k, Mb.RcIn r := fun r hr => Hrin.out r (List.mem_of_mem_take hr)
        obtain ⟨nl, hnl⟩ : ∃ n, n = (Mb.rcB rs[k]).length := ⟨_, rfl⟩
        rw [← hnl] at q0 hap
        by_cases hfit : Mb.logLen (rs.take (k + 1)) ≤ 400000
        · have hF : appendF (Mb.logB (rs.take k)) (Mb.rcB rs[k]) = (Mb.logB (rs.take (k + 1)), 0, 0) := by rw [hsc] at hfit ⊢; exact Mb.append_log hrt hrk hfit
          rw [hF] at hap
          dsimp only at hap
          have Hap := Lib.hid hap
          obtain ⟨z, hz9⟩ : ∃ z : Int, z = 0 := ⟨_, rfl⟩
          rw [← hz9] at Hap
          have hzz : (z != 0) = false := by rw [hz9]; rfl
          have Hfit := Lib.hid hfit
          clear hap hF hfit hst hget hsc hrk hrt hnl hz9 hkm
          go_wp2_with fail
          refine Hap.out.mono ?_
          rintro e w5 ⟨u5, rfl, own5, hb5⟩
          obtain ⟨A5, c5, rfl, _, _⟩ := own5.shape
          refine Hid.out ?_
          refine Lib.hid ?_
          obtain ⟨w6, g6, hw6, hg6, hsz6, k6, hb6⟩ := box1 w5 #[.int .i64 z, .int .i64 z] 31
          have hb06 := below2 hb5 hb6
          obtain ⟨p0, p1, _, _, _⟩ := k6.two
          have hr6 := Lib.hid ((own_lower own5 hzr).ext hb6)
          clear k6 hsz6 own5 Hap
          go_wp2_with (go_at_call 21; refine (failed_ok z z w6).mono ?_; rintro e w7 ⟨rfl, hb7⟩)
          go_roundw
          case rel => exact ⟨k + 1, A5, _, c5, by omega, by go_num, rfl, Lib.hid (hr6.out.ext hb7), Hfit, Lib.hid (hBr.out.trans ((below2 hb06 hb7).mono hzr))⟩
          case measure => simp [intOf]; omega
        · have hF : appendF (Mb.logB (rs.take k)) (Mb.rcB rs[k]) = ([], 13, -1) := by rw [hsc] at hfit; exact Mb.append_full hrt hrk hll.out hfit
          rw [hF] at hap
          dsimp only at hap
          have Hap := Lib.hid hap
          obtain ⟨z, hz9⟩ : ∃ z : Int, z = 13 := ⟨_, rfl⟩
          obtain ⟨z2, hz8⟩ : ∃ z : Int, z = -1 := ⟨_, rfl⟩
          rw [← hz9, ← hz8] at Hap
          have hzz : (z != 0) = true := by rw [hz9]; rfl
          have hz0' : z ≠ 0 := by omega
          have Hno := Lib.hid (show ¬ Mb.logLen rs ≤ 400000 from fun h => hfit (Nat.le_trans (Mb.logLen_take rs (k + 1)) h))
          clear hap hF hfit hst hget hsc hrk hrt hnl hz9 hz8 hkm
          go_wp2_with fail
          refine Hap.out.mono ?_
          rintro e w5 ⟨u5, rfl, own5, hb5⟩
          obtain ⟨A5, c5, rfl, _, _⟩ := own5.shape
          refine Hid.out ?_
          refine Lib.hid ?_
          obtain ⟨w6, g6, hw6, hg6, hsz6, k6, hb6⟩ := box1 w5 #[.int .i64 z, .int .i64 z2] 31
          have hb06 := below2 hb5 hb6
          obtain ⟨p0, p1, _, _, _⟩ := k6.two
          have K6 := Lib.hid k6
          clear k6 hsz6 own5 Hap
          go_wp2_with (go_at_call 21; refine (failed_ok z z2 w6).mono ?_; rintro e w7 ⟨rfl, hb7⟩; have k67 := K6.out.ext hb7; obtain ⟨d0, d1', y0, y1, s2⟩ := k67.two; have hb37 := below2 hb04 (hBr.out.trans ((below2 hb06 hb7).mono hzr)); have k37 := k3.ext hb37; obtain ⟨e0, e1, z0, z1, s1⟩ := k37.two)
          go_region
          all_goals go_wp2
          all_goals
            obtain ⟨e0, e1⟩ := k37.put2 (.int .i64 z) (.int .i64 z2)
            refine bodyPost_ret (v := .tuple #[.slice none 0 0, .agg #[.int .i64 z, .int .i64 z2]]) (by simp [results, Tryz.results6, go_sem, e0, e1]) rfl ⟨_, _, _, rfl, ?_, .inr ⟨hz0', rfl, fun h => Hno.out (by rw [Hrs.out]; exact h.2)⟩⟩
            first
              | exact below_set2 (below2 hb0 hb37) hgl3 _ _
              | exact below_drew (below_set2 (below2 hb0 hb37) hgl3 _ _)
      · have hkk : k = rs.length := by omega
        have hux := hu.out
        have hlx := hll.out
        rw [hkk, List.take_length] at hux hlx
        have Hux := Lib.hid hux
        have Hlx := Lib.hid hlx
        clear hkk hux hlx hu hll
        go_wp2_with fail
        refine (none_ok _).mono ?_
        rintro e w8 ⟨rfl, hb8⟩
        have hb38 := below2 hb04 (hBr.out.trans (hb8.mono hzr))
        have k38 := k3.ext hb38
        obtain ⟨e0, e1, z0, z1, s1⟩ := k38.two
        go_wp2_with fail
        obtain ⟨e0, e1⟩ := k38.put2 (.int .i64 0) (.int .i64 0)
        refine bodyPost_ret (v := .tuple #[.slice A n c, .agg #[.int .i64 0, .int .i64 0]]) (by simp [results, Tryz.results6, go_sem, e0, e1]) rfl ⟨_, _, _, rfl, ?_, .inl ⟨rfl, rfl, HG.out, by rw [← Hrs.out]; exact Hlx.out, ?_⟩⟩
        · exact below_set2 (below2 hb0 hb38) hgl3 _ _
        · rw [← Hrs.out]
          exact (((own_freeM (M' := One g3) free_byte (own_lower Hux.out (by omega))).ext hb8).turned (((Turned.refl g3 _).set 0 _).set 1 _) rfl (fun x hx => by obtain ⟨xs, ho, _⟩ := Hux.out; have h9 := (ho.lt x hx).1; omega)).weak (Nat.le_refl _) (fun x hx => hx.elim)
  · have hz : (c1 != 0) = true := by simpa using hc1
    have k43 := K4.out.ext hb3
    obtain ⟨d0, d1', y0, y1, s2⟩ := k43.two
    obtain ⟨e0, e1, z0, z1, s1⟩ := k33.two
    go_wp2_with fail
    go_region
    all_goals go_wp2
    all_goals
      obtain ⟨e0, e1⟩ := k33.put2 (.int .i64 c1) (.int .i64 d1)
      refine bodyPost_ret (v := .tuple #[.slice none 0 0, .agg #[.int .i64 c1, .int .i64 d1]]) (by simp [results, Tryz.results6, go_sem, e0, e1]) rfl ⟨_, _, _, rfl, ?_, .inr ⟨hc1, rfl, fun h => hc1 (Hgood'.out h.1)⟩⟩
      first
        | exact below_set2 (below2 hb0 hb03) hgl3 _ _
        | exact below_drew (below_set2 (below2 hb0 hb03) hgl3 _ _)
end Go.Proofs.YtjamjkjmlckgeaaGreatDoor
namespace Go.Proofs.YtjamjkjmlckgeaaGreatDoor
open Go.RowKit
set_option linter.unusedVariables false

theorem land52 {W : World} {g4 g5 : Nat} {t4 t5 : TypeId} {x0 x1 x2 x3 x4 y0 y1 : Value} (k4 : Blk W g4 t4 #[x0, x1, x2, x3, x4]) (k5 : Blk W g5 t5 #[y0, y1]) (hne : g4 ≠ g5) (a b c d e p q : Value) :
    ∃ V Z, (((((W.setCell ⟨g4, 0, none⟩ a).setCell ⟨g4, 1, none⟩ b).setCell ⟨g4, 2, none⟩ c).setCell ⟨g4, 3, none⟩ d).setCell ⟨g4, 4, none⟩ e) = V ∧ ((V.setCell ⟨g5, 0, none⟩ p).setCell ⟨g5, 1, none⟩ q) = Z ∧
      (W.cell? ⟨g4, 0, none⟩ = some x0 ∧ W.cell? ⟨g4, 1, none⟩ = some x1 ∧ W.cell? ⟨g4, 2, none⟩ = some x2 ∧ W.cell? ⟨g4, 3, none⟩ = some x3 ∧ W.cell? ⟨g4, 4, none⟩ = some x4) ∧
      (W.frozen? ⟨g4, 0, none⟩ = false ∧ W.frozen? ⟨g4, 1, none⟩ = false ∧ W.frozen? ⟨g4, 2, none⟩ = false ∧ W.frozen? ⟨g4, 3, none⟩ = false ∧ W.frozen? ⟨g4, 4, none⟩ = false ∧ g4 < W.heap.size) ∧
      (V.cell? ⟨g5, 0, none⟩ = some y0 ∧ V.cell? ⟨g5, 1, none⟩ = some y1 ∧ V.frozen? ⟨g5, 0, none⟩ = false ∧ V.frozen? ⟨g5, 1, none⟩ = false ∧ g5 < V.heap.size) ∧
      Blk Z g4 t4 #[a, b, c, d, e] ∧ Blk Z g5 t5 #[p, q] ∧ (∀ B, B ≤ g4 → B ≤ g5 → Below B W Z) ∧ (Turned g4 W V ∧ Turned g5 V Z) := by
  have hT1 := put5_turned W g4 a b c d e
  have hT2 : Turned g5 (put5 W g4 a b c d e) (((put5 W g4 a b c d e).setCell ⟨g5, 0, none⟩ p).setCell ⟨g5, 1, none⟩ q) := ((Turned.refl g5 _).set 0 p).set 1 q
  have k1 := (k4.of5 a b c d e).turned hT2 hne
  have k55 := k5.turned hT1 hne.symm
  have k2 : Blk (((put5 W g4 a b c d e).setCell ⟨g5, 0, none⟩ p).setCell ⟨g5, 1, none⟩ q) g5 t5 #[p, q] := by simpa using ((k5.turned hT1 hne.symm).set_ 0 p).set_ 1 q
  exact ⟨_, _, rfl, rfl, ⟨k4.cell 0, k4.cell 1, k4.cell 2, k4.cell 3, k4.cell 4⟩, ⟨k4.frozen 0, k4.frozen 1, k4.frozen 2, k4.frozen 3, k4.frozen 4, k4.lt⟩, ⟨k55.cell 0, k55.cell 1, k55.frozen 0, k55.frozen 1, k55.lt⟩, k1, k2, fun B h1 h2 => (hT1.rest B h1).trans (hT2.rest B h2), hT1, hT2⟩
theorem land22 {W : World} {g4 g5 : Nat} {t4 t5 : TypeId} {x0 x1 y0 y1 : Value} (k4 : Blk W g4 t4 #[x0, x1]) (k5 : Blk W g5 t5 #[y0, y1]) (hne : g4 ≠ g5) (a b p q : Value) :
    ∃ V Z, ((W.setCell ⟨g4, 0, none⟩ a).setCell ⟨g4, 1, none⟩ b) = V ∧ ((V.setCell ⟨g5, 0, none⟩ p).setCell ⟨g5, 1, none⟩ q) = Z ∧
      (W.cell? ⟨g4, 0, none⟩ = some x0 ∧ W.cell? ⟨g4, 1, none⟩ = some x1) ∧ (W.frozen? ⟨g4, 0, none⟩ = false ∧ W.frozen? ⟨g4, 1, none⟩ = false ∧ g4 < W.heap.size) ∧
      (V.cell? ⟨g5, 0, none⟩ = some y0 ∧ V.cell? ⟨g5, 1, none⟩ = some y1 ∧ V.frozen? ⟨g5, 0, none⟩ = false ∧ V.frozen? ⟨g5, 1, none⟩ = false ∧ g5 < V.heap.size) ∧
      Blk Z g4 t4 #[a, b] ∧ Blk Z g5 t5 #[p, q] ∧ (∀ B, B ≤ g4 → B ≤ g5 → Below B W Z) ∧ (Turned g4 W V ∧ Turned g5 V Z) := by
  have hT1 : Turned g4 W ((W.setCell ⟨g4, 0, none⟩ a).setCell ⟨g4, 1, none⟩ b) := ((Turned.refl g4 _).set 0 a).set 1 b
  have k1 : Blk ((W.setCell ⟨g4, 0, none⟩ a).setCell ⟨g4, 1, none⟩ b) g4 t4 #[a, b] := by simpa using (k4.set_ 0 a).set_ 1 b
  have k55 := k5.turned hT1 hne.symm
  have hT2 : Turned g5 ((W.setCell ⟨g4, 0, none⟩ a).setCell ⟨g4, 1, none⟩ b) ((((W.setCell ⟨g4, 0, none⟩ a).setCell ⟨g4, 1, none⟩ b).setCell ⟨g5, 0, none⟩ p).setCell ⟨g5, 1, none⟩ q) := ((Turned.refl g5 _).set 0 p).set 1 q
  have k2 : Blk ((((W.setCell ⟨g4, 0, none⟩ a).setCell ⟨g4, 1, none⟩ b).setCell ⟨g5, 0, none⟩ p).setCell ⟨g5, 1, none⟩ q) g5 t5 #[p, q] := by simpa using (k55.set_ 0 p).set_ 1 q
  exact ⟨_, _, rfl, rfl, ⟨k4.cell 0, k4.cell 1⟩, ⟨k4.frozen 0, k4.frozen 1, k4.lt⟩, ⟨k55.cell 0, k55.cell 1, k55.frozen 0, k55.frozen 1, k55.lt⟩, k1.turned hT2 hne, k2, fun B h1 h2 => (hT1.rest B h1).trans (hT2.rest B h2), hT1, hT2⟩
end Go.Proofs.YtjamjkjmlckgeaaGreatDoor
namespace Go.Proofs.YtjamjkjmlckgeaaGreatDoor
open Go.RowKit
set_option linter.unusedVariables false

namespace Mb
def subj : List UInt8 := [83, 117, 98, 106, 101, 99, 116]
def dog : List UInt8 := [97, 32, 100, 111, 103]
def dogF : List Fld := [(subj, dog)]
def xB : List UInt8 := [120, 13, 10]
def exB : Box := ⟨2, 2, 0, [(1, 1, 4, 0, dogF, xB)], []⟩
theorem ex_app : appF newB (1, 0, 4, 0, 0, dogF, xB) = (exB, 0, 0) := by kernel_rfl
end Mb
set_option maxRecDepth 100000 in
set_option maxHeartbeats 4000000 in
theorem n9letter_ok (s : List UInt8) (w : World) (hs : s.length ≤ maxLen) :
    Calls Tryz.prog 20 #[.string (bs s)] w fun e w' => ∃ f bd, e = .returned (.agg #[f, bd]) ∧ SlR fldC M0 w' f [(Mb.subj, s)] ∧ SlR byteC M0 w' bd Mb.xB ∧ Below w.heap.size w w' := by
  obtain ⟨w0, g, hw0, hg, hsz0, k0, hb0⟩ := box1 w #[.slice none 0 0, .slice none 0 0] 45
  obtain ⟨w1, g1, hw1, hg1, hsz1, k1, hb1⟩ := box1 w0 #[.string ⟨#[83, 117, 98, 106, 101, 99, 116]⟩, .string (bs s)] 108
  have kc := fun (w : World) (C : Array Value) (n c : Nat) => Lib.run_convert_bytes_const (P := Tryz.prog) w 29 5 C n c Tryz.underlying29 Tryz.underlying5
  obtain ⟨w2, q, hw2, hq2, hsz2, hc0, hc1, hc2, hb2⟩ : ∃ W q, w1.alloc (.cells #[.int .u8 120, .int .u8 13, .int .u8 10] 5 (3, 4)) = W ∧ w1.heap.size = q ∧ W.heap.size = q + 1 ∧ W.cell? ⟨q, 0, none⟩ = some (.int .u8 120) ∧ W.cell? ⟨q, 1, none⟩ = some (.int .u8 13) ∧ W.cell? ⟨q, 2, none⟩ = some (.int .u8 10) ∧ Below w1.heap.size w1 W := ⟨_, _, rfl, rfl, by simp, World.cell?_alloc_mark _ _ _ _ 0, World.cell?_alloc_mark _ _ _ _ 1, World.cell?_alloc_mark _ _ _ _ 2, (Below.refl _ _).alloc (Nat.le_refl _) _⟩
  have hcv : (convert 29 29 (.slice (some ⟨q, 0, none⟩) 3 3)).run Tryz.prog (w1.alloc (.cells #[.int .u8 120, .int .u8 13, .int .u8 10] 5)) = .ok (.slice (some ⟨q, 0, none⟩) 3 3) w2 := by rw [← hq2, ← hw2]; exact kc w1 _ 3 3
  have hgl : w.heap.size ≤ g := by omega
  have hb02 := below2 hb1 hb2
  have k02 := k0.ext hb02
  obtain ⟨c0, c1, z0, z1, zl⟩ := k02.two
  have hf : SlR fldC (One g) w2 (.slice (some ⟨g1, 0, none⟩) 1 1) [(Mb.subj, s)] := by
    have h9 : SlR fldC (One g) (w0.alloc (.cells #[.string ⟨#[83, 117, 98, 106, 101, 99, 116]⟩, .string (bs s)] 108)) (.slice (some ⟨w0.heap.size, 0, none⟩) 1 1) [(Mb.subj, s)] := SlR.built (C := fldC) (cs := [.string ⟨#[83, 117, 98, 106, 101, 99, 116]⟩, .string (bs s)]) 108 ⟨[.string ⟨#[83, 117, 98, 106, 101, 99, 116]⟩], [.string (bs s)], rfl, ⟨rfl, (show Mb.subj.length ≤ maxLen by decide)⟩, ⟨rfl, hs⟩⟩ fun x hx => by rw [hx]; omega
    rw [hw1, hg1] at h9
    exact h9.ext hb2
  have hbd : SlR byteC (One g) w2 (.slice (some ⟨q, 0, none⟩) 3 3) Mb.xB := by
    refine ⟨_, 3, 3, [.int .u8 120, .int .u8 13, .int .u8 10], rfl, rfl, Nat.le_refl _, by simp [maxLen], ?_, fun _ => ⟨q, 0, rfl, fun h => by have h : q = g := h; omega, by omega, fun j u hu => ?_⟩⟩
    · exact ((Els.single (C := byteC) (M := One g) (w := w2) (a := (120 : UInt8)) (cs := [.int .u8 120]) rfl).append (Els.single (C := byteC) (a := (13 : UInt8)) (cs := [.int .u8 13]) rfl)).append (Els.single (C := byteC) (a := (10 : UInt8)) (cs := [.int .u8 10]) rfl)
    · rw [Nat.zero_add]
      rcases j with _ | _ | _ | j
      · rw [hc0]; exact hu
      · rw [hc1]; exact hu
      · rw [hc2]; exact hu
      · simp at hu
  have Hf := Lib.hid hf; have Hbd := Lib.hid hbd
  clear hf hbd k1 kc hsz0 hsz1
  go_enter Tryz.func20, Tryz.ntmps20
  go_wp2_with fail
  obtain ⟨e0, e1⟩ := k02.put2 (.slice (some ⟨g1, 0, none⟩) 1 1) (.slice (some ⟨q, 0, none⟩) 3 3)
  refine bodyPost_ret (v := .agg #[.slice (some ⟨g1, 0, none⟩) 1 1, .slice (some ⟨q, 0, none⟩) 3 3]) (by simp [results, Tryz.results20, go_sem, e0, e1]) rfl ⟨_, _, rfl, ?_, ?_, below_set2 (below2 hb0 hb02) hgl _ _⟩
  · exact (Hf.out.turned (((Turned.refl g _).set 0 _).set 1 _) rfl).zero
  · exact (Hbd.out.turned (((Turned.refl g _).set 0 _).set 1 _) rfl).zero
end Go.Proofs.YtjamjkjmlckgeaaGreatDoor

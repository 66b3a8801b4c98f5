/-
  The reference IndexFault.
-/
import Derived.Test.YtnlhocbaighedaaGreatDoorIxRf
import Derived.Test.YtnlhocbaighedaaGreatDoorR5
import Derived.Test.YtnlhocbaighedaaGreatDoorR1
namespace Go.Proofs.YtnlhocbaighedaaGreatDoor
open Go.RowKit
set_option linter.unusedVariables false
theorem faultGo_at' (x : Ix.Idx) (i : Nat) (hi : i < x.2.length) : Ix.faultGo x (x.2.length - i) i = if Ix.termErr x.1 x.2 i = 0 then Ix.faultGo x (x.2.length - (i + 1)) (i + 1) else (Ix.termErr x.1 x.2 i, (i : Int)) := faultGo_at x i hi
set_option maxRecDepth 100000 in
set_option maxHeartbeats 8000000 in
theorem indexFault_ok (a b : Value) (ids : List Int) (ts : List Ix.Term) (w : World) (h0 : SlR intC M0 w a ids) (h1 : SlR termC M0 w b ts) (hsz : SzIx ts) :
  Calls Tryz.prog 27 #[.agg #[a, b]] w fun e w' => e = .returned (.agg #[.int .i64 (Ix.indexF (ids, ts)).1, .int .i64 (Ix.indexF (ids, ts)).2]) ∧ Below w.heap.size w w' := by
 obtain ⟨A0, c0, rfl, _, _⟩ := h0.form
 obtain ⟨A1, c1, rfl, _, _⟩ := h1.form
 obtain ⟨hlc, hcm⟩ := h1.lenM
 obtain ⟨hlc0, hcm0⟩ := h0.lenM
 obtain ⟨w1, gx, gf, hW, hgx, hgf, hs1, kx, kf, hal⟩ := box2 w #[.slice A0 ids.length c0, .slice A1 ts.length c1] 25 #[.int .i64 0, .int .i64 0] 30
 obtain ⟨⟨rx, ry⟩, hR⟩ : ∃ r, Ix.indexF (ids, ts) = r := ⟨_, rfl⟩
 rw [hR]
 dsimp only
 have hF : (rx, ry) = if 300 < ids.length then (2, -1) else if Ix.rising ids 1 = false then (19, -1) else if 1000000 < ts.length then (2, -2) else Ix.faultGo (ids, ts) ts.length 0 := by rw [← hR]; rfl
 have HF := Lib.hid hF; have H01 := Lib.hid (And.intro h0 (And.intro h1 hsz)); have HW := Lib.hid (And.intro hW (And.intro hgx (And.intro hgf hs1)))
 have Hkx := Lib.hid kx; have Hkf := Lib.hid kf; have Hal := Lib.hid hal
 have Hat := Lib.hid (fun (x y : Int) (W : World) => at_ok x y W)
 obtain ⟨q0, q1, _, _, _⟩ := kx.two
 rw [← hW, ← hgx] at q0 q1
 clear hF hR h0 h1 hW hgx hgf hs1 kx kf hal hsz
 have Hg : Hid (w.heap.size ≤ gf) := Lib.hid (by have := HW.out; omega)
 by_cases hc1 : 300 < ids.length
 ·have hd1 : (300 : Int) < (ids.length : Int) := by omega
  go_enter Tryz.func27, Tryz.ntmps27
  have Hbe0 := Lib.hid (Hal.out); have Hk0 := Lib.hid (Hkf.out)
  have Heq : Hid ((rx, ry) = ((2 : Int), ((-1) : Int))) := Lib.hid (by rw [HF.out, if_pos hc1])
  go_wp2_with fail
  rw [HW.out.1, HW.out.2.1, HW.out.2.2.1]
  refine (Hat.out 2 (-1) _).mono ?_
  rintro e w9 ⟨rfl, hb9⟩
  have hk9 := Hk0.out.ext hb9
  have hbe9 := Hbe0.out.trans (hb9.mono Hbe0.out.size)
  clear hb9
  obtain ⟨v0, v1, v2, v3, _⟩ := hk9.two
  have Hbe := Lib.hid hbe9; have Hk9 := Lib.hid hk9
  clear hbe9 hk9
  go_wp2
  obtain ⟨W9, hW9⟩ : ∃ W9, (w9.setCell ⟨gf, 0, none⟩ (.int .i64 2)).setCell ⟨gf, 1, none⟩ (.int .i64 (-1)) = W9 := ⟨_, rfl⟩
  have hbe := below_put2 (w := w) Hbe.out Hg.out _ _ hW9
  obtain ⟨p7, hp7⟩ := put2 Hk9.out _ _ hW9
  rw [hW9]
  obtain ⟨e2, e3, _⟩ := p7.two
  refine bodyPost_ret (v := .agg #[.int .i64 2, .int .i64 (-1)]) (by simp [results, Tryz.results27, go_sem, e2, e3]) rfl ?_
  have h9 := Heq.out
  injection h9 with h91 h92
  exact ⟨by rw [h91, h92], hbe⟩
 have hd1 : ¬ (300 : Int) < (ids.length : Int) := by omega
 have hF2 := HF.out
 rw [if_neg hc1] at hF2
 have HF2 := Lib.hid hF2
 clear hF2 HF
 obtain ⟨r, hr⟩ : ∃ r, Ix.rising ids 1 = r := ⟨_, rfl⟩
 have hri := refRising_ok M0 (.slice A0 ids.length c0) ids 1 w1 (H01.out.1.ext Hal.out)
 rw [hr] at hri
 have Hri := Lib.hid hri; have Hr := Lib.hid hr
 clear hri hr
 go_enter Tryz.func27, Tryz.ntmps27
 go_wp2_with fail
 rw [HW.out.1, HW.out.2.1, HW.out.2.2.1]
 refine Hri.out.mono ?_
 rintro e w2 ⟨rfl, hb2⟩
 have kx := Hkx.out.ext hb2; have kf := Hkf.out.ext hb2; have hbw := Hal.out.trans (hb2.mono Hal.out.size)
 clear q0 q1 hb2
 obtain ⟨q0, q1, _, _, _⟩ := kx.two
 cases r with
 | false =>
  have Hbe0 := Lib.hid (hbw); have Hk0 := Lib.hid (kf)
  have Heq : Hid ((rx, ry) = ((19 : Int), ((-1) : Int))) := Lib.hid (by rw [HF2.out, if_pos Hr.out])
  go_wp2_with fail
  refine (Hat.out 19 (-1) _).mono ?_
  rintro e w9 ⟨rfl, hb9⟩
  have hk9 := Hk0.out.ext hb9
  have hbe9 := Hbe0.out.trans (hb9.mono Hbe0.out.size)
  clear hb9
  obtain ⟨v0, v1, v2, v3, _⟩ := hk9.two
  have Hbe := Lib.hid hbe9; have Hk9 := Lib.hid hk9
  clear hbe9 hk9
  go_wp2
  obtain ⟨W9, hW9⟩ : ∃ W9, (w9.setCell ⟨gf, 0, none⟩ (.int .i64 19)).setCell ⟨gf, 1, none⟩ (.int .i64 (-1)) = W9 := ⟨_, rfl⟩
  have hbe := below_put2 (w := w) Hbe.out Hg.out _ _ hW9
  obtain ⟨p7, hp7⟩ := put2 Hk9.out _ _ hW9
  rw [hW9]
  obtain ⟨e2, e3, _⟩ := p7.two
  refine bodyPost_ret (v := .agg #[.int .i64 19, .int .i64 (-1)]) (by simp [results, Tryz.results27, go_sem, e2, e3]) rfl ?_
  have h9 := Heq.out
  injection h9 with h91 h92
  exact ⟨by rw [h91, h92], hbe⟩
 | true =>
  have hF3 := HF2.out
  rw [if_neg (by rw [Hr.out]; simp)] at hF3
  have HF3 := Lib.hid hF3
  clear hF3 HF2
  by_cases hc2 : 1000000 < ts.length
  ·have hd2 : (1000000 : Int) < (ts.length : Int) := by omega
   have Hbe0 := Lib.hid (hbw); have Hk0 := Lib.hid (kf)
   have Heq : Hid ((rx, ry) = ((2 : Int), ((-2) : Int))) := Lib.hid (by rw [HF3.out, if_pos hc2])
   go_wp2_with fail
   refine (Hat.out 2 (-2) _).mono ?_
   rintro e w9 ⟨rfl, hb9⟩
   have hk9 := Hk0.out.ext hb9
   have hbe9 := Hbe0.out.trans (hb9.mono Hbe0.out.size)
   clear hb9
   obtain ⟨v0, v1, v2, v3, _⟩ := hk9.two
   have Hbe := Lib.hid hbe9; have Hk9 := Lib.hid hk9
   clear hbe9 hk9
   go_wp2
   obtain ⟨W9, hW9⟩ : ∃ W9, (w9.setCell ⟨gf, 0, none⟩ (.int .i64 2)).setCell ⟨gf, 1, none⟩ (.int .i64 (-2)) = W9 := ⟨_, rfl⟩
   have hbe := below_put2 (w := w) Hbe.out Hg.out _ _ hW9
   obtain ⟨p7, hp7⟩ := put2 Hk9.out _ _ hW9
   rw [hW9]
   obtain ⟨e2, e3, _⟩ := p7.two
   refine bodyPost_ret (v := .agg #[.int .i64 2, .int .i64 (-2)]) (by simp [results, Tryz.results27, go_sem, e2, e3]) rfl ?_
   have h9 := Heq.out
   injection h9 with h91 h92
   exact ⟨by rw [h91, h92], hbe⟩
  have hd2 : ¬ (1000000 : Int) < (ts.length : Int) := by omega
  have hF4 := HF3.out
  rw [if_neg hc2] at hF4
  have HF4 := Lib.hid hF4
  have Hst := Lib.hid (And.intro kx (And.intro kf hbw))
  clear hF4 HF3 kx kf hbw Hkx Hkf Hri
  go_wp2
  go_loopw [3] (fun iv wr => ∃ i : Nat, i ≤ ts.length ∧ iv = .int .i64 (i : Int) ∧ Hid ((rx, ry) = Ix.faultGo (ids, ts) (ts.length - i) i) ∧ Hid (Blk wr gx 25 #[.slice A0 ids.length c0, .slice A1 ts.length c1] ∧ Blk wr gf 30 #[.int .i64 0, .int .i64 0] ∧ Below w.heap.size w wr)) (fun iv _ => ts.length - (intOf iv).toNat)
  case atStart => exact ⟨0, Nat.zero_le _, rfl, HF4, Hst⟩
  case round =>
   obtain ⟨wo, rfl⟩ : ∃ W0, W0 = wr := ⟨_, rfl⟩
   obtain ⟨i, hi, rfl, hgo, hS0⟩ := hrel
   clear Hst HF4 q0 q1
   obtain ⟨x0, x1, _, _, _⟩ := hS0.out.1.two
   by_cases hlt : i < ts.length
   ·skip
    obtain ⟨bt, offt, A2, c2, hA, _, hbt, p0, p1, hwl, hps⟩ := (H01.out.2.1.ext hS0.out.2.2).termAt hlt
    subst hA
    have hE : Ix.termErr ids ts i = if Ix.postErr ids ts[i].2 ≠ 0 then Ix.postErr ids ts[i].2 else if ts[i].1.length = 0 ∨ 8000 < ts[i].1.length then 10 else if ts[i].2.length = 0 ∨ Ix.rising (ts[i].2.map fun p => p.1) 1 = false ∨ Ix.wordBad ts i = true then 19 else 0 := by
     unfold Ix.termErr
     rw [Ix.getD_get hlt]
    have hwb : Ix.wordBad ts i = (decide (0 < i) && !ltS (ts.getD (i - 1) ([], [])).1 ts[i].1) := by unfold Ix.wordBad; rw [Ix.getD_get hlt]
    have hszp := H01.out.2.2 _ (List.getElem_mem hlt)
    have hstep := faultGo_at' (ids, ts) i hlt
    dsimp only at hstep
    rw [← hgo.out] at hstep
    have Hbad := Lib.hid (fun (e : Int) (h1 : Ix.termErr ids ts i = e) (h2 : e ≠ 0) => (show (rx, ry) = (e, (i : Int)) by rw [hstep, if_neg (by rw [h1]; exact h2), h1]))
    have Hgood := Lib.hid (fun (h1 : Ix.termErr ids ts i = 0) => (show (rx, ry) = Ix.faultGo (ids, ts) (ts.length - (i + 1)) (i + 1) by rw [hstep, if_pos h1]))
    obtain ⟨⟨wd, ps⟩, ht⟩ : ∃ t, ts[i] = t := ⟨_, rfl⟩
    rw [ht] at p0 p1 hwl hps hE hszp hwb
    dsimp only at p0 p1 hwl hps hE hszp hwb
    have HE := Lib.hid hE; have Hwb := Lib.hid hwb
    clear hE hwb ht hstep hgo
    obtain ⟨hp1, hp2⟩ := hps.lenM
    have hil : (i : Int) < (ts.length : Int) := by omega
    have hi0 : (0 : Int) ≤ (i : Int) := by omega
    have hiw : IntKind.i64.wrap (i : Int) = (i : Int) := IntWalk.i64_in _ (by omega)
    obtain ⟨W2, gt, hW2, hgt, hs2, kt, hal2⟩ := box1 wo #[.string (bs wd), .slice A2 ps.length c2] 62
    have HW2 := Lib.hid (And.intro hW2 (And.intro hgt hs2))
    have Hst := Lib.hid (And.intro (hS0.out.1.ext hal2) (And.intro (hS0.out.2.1.ext hal2) (And.intro (hS0.out.2.2.trans (hal2.mono hS0.out.2.2.size)) kt)))
    have Hps := Lib.hid (fun W' (hb : Below W2.heap.size W2 W') => (hps.ext hal2).ext hb)
    clear hW2 hgt hs2 kt hal2 hps
    go_wp2
    rw [HW2.out.1, HW2.out.2.1]
    clear x0 x1 p0 p1
    go_loopw [5, 6] (fun sv jv wr => ∃ (k : Nat) (A3 : Option Addr) (c3 : Nat) (L : List Int), k ≤ ps.length ∧ jv = .int .i64 (k : Int) ∧ sv = .slice A3 L.length c3 ∧ Hid (L = (ps.take k).map fun p => p.1) ∧ Hid (Ix.postErr ids ps = Ix.postErr ids (ps.drop k)) ∧ Hid (Own intC M0 wr W2.heap.size 3 sv L) ∧ Hid (Below W2.heap.size W2 wr)) (fun _ jv _ => ps.length - (intOf jv).toNat)
    case atStart => exact ⟨0, none, 0, [], Nat.zero_le _, rfl, rfl, Lib.hid rfl, Lib.hid rfl, Lib.hid (Own.nil _ _ _ _ _), Lib.hid (Below.refl _ _)⟩
    case round =>
     obtain ⟨wi, rfl⟩ : ∃ W0, W0 = wr := ⟨_, rfl⟩
     obtain ⟨k, A3, c3, L, hk, rfl, rfl, hL, hP, own, hbi⟩ := hrel
     have hLl : Hid (L.length = k) := Lib.hid (by rw [hL.out, List.length_map, List.length_take]; omega)
     have kx := Hst.out.1.ext hbi.out; have kf := Hst.out.2.1.ext hbi.out; have hbw := Hst.out.2.2.1.trans (hbi.out.mono Hst.out.2.2.1.size); have kt := Hst.out.2.2.2.ext hbi.out
     obtain ⟨x0, x1, _, _, _⟩ := kx.two
     obtain ⟨t0, t1, _, _, _⟩ := kt.two
     by_cases hkt : k < ps.length
     ·skip
      obtain ⟨bp, offp, A4, c4, hA4, _, _, y0, y1, xl1, xl2, hpl⟩ := (Hps.out _ hbi.out).postAt hkt
      subst hA4
      have hst := postErr_drop ids ps k hkt
      rw [← hP.out] at hst
      have hLs : Hid (L ++ [ps[k].1] = (ps.take (k + 1)).map fun p => p.1) := Lib.hid (by rw [hL.out, List.take_succ_eq_append_getElem hkt, List.map_append]; rfl)
      obtain ⟨⟨pid, pl⟩, hp⟩ : ∃ p, ps[k] = p := ⟨_, rfl⟩
      rw [hp] at y0 y1 xl1 xl2 hpl hst hLs
      dsimp only at y0 y1 xl1 xl2 hpl hst hLs
      obtain ⟨W3, gp, hW3, hgp, hs3, kp, hal3⟩ := box1 wi #[.int .i64 pid, .slice A4 pl.length c4] 64
      have hris := refRising_ok M0 (.slice A4 pl.length c4) pl 0 W3 (hpl.ext hal3)
      obtain ⟨r, hr⟩ : ∃ r, Ix.rising pl 0 = r := ⟨_, rfl⟩
      rw [hr] at hris hst
      have HW3 := Lib.hid (And.intro hW3 (And.intro hgp hs3)); have Hris := Lib.hid hris; have Hst3 := Lib.hid hst
      have H3 := Lib.hid (And.intro (kx.ext hal3) (And.intro (kf.ext hal3) (And.intro (hbw.trans (hal3.mono hbw.size)) (And.intro kp (And.intro (own.out.ext hal3) hal3)))))
      obtain ⟨z0, z1, _, _, _⟩ := kp.two
      rw [← hW3, ← hgp] at z0 z1
      have hki : (k : Int) < (ps.length : Int) := by omega
      have hk0 : (0 : Int) ≤ (k : Int) := by omega
      have hkw : IntKind.i64.wrap (k : Int) = (k : Int) := IntWalk.i64_in _ (by omega)
      obtain ⟨hpl1, hpl2⟩ := hpl.lenM
      clear hris hst hp hr hP hpl hW3 hgp hs3 kp hal3 kx kf hbw
      by_cases hl0 : pl.length = 0
      ·have hpe : Ix.postErr ids ps = 19 := by rw [Hst3.out, if_pos (.inl hl0)]
       have Hpe := Lib.hid hpe
       have hlb : ((pl.length : Int) == 0) = true := by simp [hl0]
       clear hpe Hst3 Hris hl0
       have Hbe0 := Lib.hid (H3.out.2.2.1); have Hk0 := Lib.hid (H3.out.2.1)
       have Heq : Hid ((rx, ry) = ((19 : Int), ((i : Int) : Int))) := Lib.hid (Hbad.out 19 (by rw [HE.out, Hpe.out]; rfl) (by decide))
       go_wp2_with fail
       rw [HW3.out.1, HW3.out.2.1]
       refine (Hat.out 19 (i : Int) _).mono ?_
       rintro e w9 ⟨rfl, hb9⟩
       have hk9 := Hk0.out.ext hb9
       have hbe9 := Hbe0.out.trans (hb9.mono Hbe0.out.size)
       clear hb9
       obtain ⟨v0, v1, v2, v3, _⟩ := hk9.two
       have Hbe := Lib.hid hbe9; have Hk9 := Lib.hid hk9
       clear hbe9 hk9
       go_wp2
       obtain ⟨W9, hW9⟩ : ∃ W9, (w9.setCell ⟨gf, 0, none⟩ (.int .i64 19)).setCell ⟨gf, 1, none⟩ (.int .i64 (i : Int)) = W9 := ⟨_, rfl⟩
       have hbe := below_put2 (w := w) Hbe.out Hg.out _ _ hW9
       obtain ⟨p7, hp7⟩ := put2 Hk9.out _ _ hW9
       rw [hW9]
       obtain ⟨e2, e3, _⟩ := p7.two
       refine bodyPost_ret (v := .agg #[.int .i64 19, .int .i64 (i : Int)]) (by simp [results, Tryz.results27, go_sem, e2, e3]) rfl ?_
       have h9 := Heq.out
       injection h9 with h91 h92
       exact ⟨by rw [h91, h92], hbe⟩
      have hlb : ((pl.length : Int) == 0) = false := by
       have h9 : ¬ (pl.length : Int) = 0 := by omega
       simpa using h9
      go_wp2_with fail
      rw [HW3.out.1, HW3.out.2.1]
      refine Hris.out.mono ?_
      rintro e w4 ⟨rfl, hb4⟩
      have kx := H3.out.1.ext hb4; have kf := H3.out.2.1.ext hb4; have hbw := H3.out.2.2.1.trans (hb4.mono H3.out.2.2.1.size); have kp := H3.out.2.2.2.1.ext hb4; have own4 := H3.out.2.2.2.2.1.ext hb4
      have hbi4 := hbi.out.trans ((H3.out.2.2.2.2.2.trans (hb4.mono H3.out.2.2.2.2.2.size)).mono hbi.out.size)
      clear z0 z1 x0 x1 hb4 t0 t1
      cases r with
      | false =>
       have hpe : Ix.postErr ids ps = 19 := by rw [Hst3.out, if_pos (.inr rfl)]
       have Hpe := Lib.hid hpe
       clear hpe Hst3 Hris
       have Hbe0 := Lib.hid (hbw); have Hk0 := Lib.hid (kf)
       have Heq : Hid ((rx, ry) = ((19 : Int), ((i : Int) : Int))) := Lib.hid (Hbad.out 19 (by rw [HE.out, Hpe.out]; rfl) (by decide))
       go_wp2_with fail
       refine (Hat.out 19 (i : Int) _).mono ?_
       rintro e w9 ⟨rfl, hb9⟩
       have hk9 := Hk0.out.ext hb9
       have hbe9 := Hbe0.out.trans (hb9.mono Hbe0.out.size)
       clear hb9
       obtain ⟨v0, v1, v2, v3, _⟩ := hk9.two
       have Hbe := Lib.hid hbe9; have Hk9 := Lib.hid hk9
       clear hbe9 hk9
       go_wp2
       obtain ⟨W9, hW9⟩ : ∃ W9, (w9.setCell ⟨gf, 0, none⟩ (.int .i64 19)).setCell ⟨gf, 1, none⟩ (.int .i64 (i : Int)) = W9 := ⟨_, rfl⟩
       have hbe := below_put2 (w := w) Hbe.out Hg.out _ _ hW9
       obtain ⟨p7, hp7⟩ := put2 Hk9.out _ _ hW9
       rw [hW9]
       obtain ⟨e2, e3, _⟩ := p7.two
       refine bodyPost_ret (v := .agg #[.int .i64 19, .int .i64 (i : Int)]) (by simp [results, Tryz.results27, go_sem, e2, e3]) rfl ?_
       have h9 := Heq.out
       injection h9 with h91 h92
       exact ⟨by rw [h91, h92], hbe⟩
      | true =>
       have hst := Hst3.out
       rw [if_neg (fun h => h.elim hl0 (fun h => by cases h))] at hst
       have hhas := refHas_ok M0 (.slice A0 ids.length c0) ids pid w4 (H01.out.1.ext hbw)
       obtain ⟨t, ht⟩ : ∃ t, ids.contains pid = t := ⟨_, rfl⟩
       rw [ht] at hst hhas
       have Hhas := Lib.hid hhas; have Hst4 := Lib.hid hst
       obtain ⟨z0, z1, _, _, _⟩ := kp.two
       obtain ⟨x0, x1, _, _, _⟩ := kx.two
       clear hst hhas ht Hris Hst3
       go_wp2_with fail
       refine Hhas.out.mono ?_
       rintro e w5 ⟨rfl, rfl⟩
       cases t with
       | false =>
        have hpe : Ix.postErr ids ps = 6 := by rw [Hst4.out, if_pos rfl]
        have Hpe := Lib.hid hpe
        clear hpe Hst4 Hhas
        have Hbe0 := Lib.hid (hbw); have Hk0 := Lib.hid (kf)
        have Heq : Hid ((rx, ry) = ((6 : Int), ((i : Int) : Int))) := Lib.hid (Hbad.out 6 (by rw [HE.out, Hpe.out]; rfl) (by decide))
        go_wp2_with fail
        refine (Hat.out 6 (i : Int) _).mono ?_
        rintro e w9 ⟨rfl, hb9⟩
        have hk9 := Hk0.out.ext hb9
        have hbe9 := Hbe0.out.trans (hb9.mono Hbe0.out.size)
        clear hb9
        obtain ⟨v0, v1, v2, v3, _⟩ := hk9.two
        have Hbe := Lib.hid hbe9; have Hk9 := Lib.hid hk9
        clear hbe9 hk9
        go_wp2
        obtain ⟨W9, hW9⟩ : ∃ W9, (w9.setCell ⟨gf, 0, none⟩ (.int .i64 6)).setCell ⟨gf, 1, none⟩ (.int .i64 (i : Int)) = W9 := ⟨_, rfl⟩
        have hbe := below_put2 (w := w) Hbe.out Hg.out _ _ hW9
        obtain ⟨p7, hp7⟩ := put2 Hk9.out _ _ hW9
        rw [hW9]
        obtain ⟨e2, e3, _⟩ := p7.two
        refine bodyPost_ret (v := .agg #[.int .i64 6, .int .i64 (i : Int)]) (by simp [results, Tryz.results27, go_sem, e2, e3]) rfl ?_
        have h9 := Heq.out
        injection h9 with h91 h92
        exact ⟨by rw [h91, h92], hbe⟩
       | true =>
        have hst := Hst4.out
        rw [if_neg (by simp)] at hst
        have hP : Hid (Ix.postErr ids ps = Ix.postErr ids (ps.drop (k + 1))) := Lib.hid hst
        have hbs : W2.heap.size ≤ w4.heap.size := hbi4.size
        have Hbi4 := Lib.hid hbi4
        clear Hst4 Hhas hst kx kf hbw kp hbi4
        go_wp2_with (at_builtin; refine wpList_push_Own intC (M := M0) (B := W2.heap.size) TInts rfl (.tmp 67) (.tmp 70) rfl rfl own4 rfl (cs := [.int .i64 pid]) (y := pid) ⟨rfl, xl1, xl2⟩ (fun _ h => h.elim) ?a1 ?b1 hbs ?_)
        case a1 => have := hLl.out; simp only [maxLen]; omega
        case b1 => have := hLl.out; omega
        intro A5 c5 L5 w5 hL5 own5 hb5 _ _
        have Hfin := Lib.hid (And.intro own5 (Hbi4.out.trans hb5))
        clear own5 hb5 own4 z0 z1 x0 x1
        go_wp2
        go_roundw
        case rel => exact ⟨k + 1, A5, c5, L5, by omega, by go_num, rfl, Lib.hid (by rw [hL5.out, hLs.out]), hP, Lib.hid Hfin.out.1, Lib.hid Hfin.out.2⟩
        case measure => simp [intOf]; omega
     ·obtain rfl : k = ps.length := by omega
      have hpz : Ix.postErr ids ps = 0 := by rw [hP.out, List.drop_length]; rfl
      have hLa : Hid (L = ps.map fun p => p.1) := Lib.hid (by rw [hL.out, List.take_length])
      have hE2 := HE.out
      rw [hpz, if_neg (by simp)] at hE2
      have HE2 := Lib.hid hE2
      obtain ⟨_, _⟩ := own.out.read0.lenM
      have hLl2 : Hid (L.length = ps.length) := hLl
      have Hc := Lib.hid (And.intro kx (And.intro kf hbw))
      clear hE2 hP hL hpz hk HE hLl kx kf hbw kt
      by_cases hw0 : wd.length = 0
      ·obtain rfl : wd = [] := List.eq_nil_of_length_eq_zero hw0
       have Hbe0 := Lib.hid (Hc.out.2.2); have Hk0 := Lib.hid (Hc.out.2.1)
       have Heq : Hid ((rx, ry) = ((10 : Int), ((i : Int) : Int))) := Lib.hid (Hbad.out 10 (by rw [HE2.out, if_pos (.inl rfl)]) (by decide))
       go_wp2_with fail
       refine (Hat.out 10 (i : Int) _).mono ?_
       rintro e w9 ⟨rfl, hb9⟩
       have hk9 := Hk0.out.ext hb9
       have hbe9 := Hbe0.out.trans (hb9.mono Hbe0.out.size)
       clear hb9
       obtain ⟨v0, v1, v2, v3, _⟩ := hk9.two
       have Hbe := Lib.hid hbe9; have Hk9 := Lib.hid hk9
       clear hbe9 hk9
       go_wp2
       obtain ⟨W9, hW9⟩ : ∃ W9, (w9.setCell ⟨gf, 0, none⟩ (.int .i64 10)).setCell ⟨gf, 1, none⟩ (.int .i64 (i : Int)) = W9 := ⟨_, rfl⟩
       have hbe := below_put2 (w := w) Hbe.out Hg.out _ _ hW9
       obtain ⟨p7, hp7⟩ := put2 Hk9.out _ _ hW9
       rw [hW9]
       obtain ⟨e2, e3, _⟩ := p7.two
       refine bodyPost_ret (v := .agg #[.int .i64 10, .int .i64 (i : Int)]) (by simp [results, Tryz.results27, go_sem, e2, e3]) rfl ?_
       have h9 := Heq.out
       injection h9 with h91 h92
       exact ⟨by rw [h91, h92], hbe⟩
      have hwe : ((wd.length : Int) == 0) = false := by
       have h9 : ¬ (wd.length : Int) = 0 := by omega
       simpa using h9
      by_cases hw8 : 8000 < wd.length
      ·have hd8 : (8000 : Int) < (wd.length : Int) := by omega
       have Hbe0 := Lib.hid (Hc.out.2.2); have Hk0 := Lib.hid (Hc.out.2.1)
       have Heq : Hid ((rx, ry) = ((10 : Int), ((i : Int) : Int))) := Lib.hid (Hbad.out 10 (by rw [HE2.out, if_pos (.inr hw8)]) (by decide))
       go_wp2_with fail
       refine (Hat.out 10 (i : Int) _).mono ?_
       rintro e w9 ⟨rfl, hb9⟩
       have hk9 := Hk0.out.ext hb9
       have hbe9 := Hbe0.out.trans (hb9.mono Hbe0.out.size)
       clear hb9
       obtain ⟨v0, v1, v2, v3, _⟩ := hk9.two
       have Hbe := Lib.hid hbe9; have Hk9 := Lib.hid hk9
       clear hbe9 hk9
       go_wp2
       obtain ⟨W9, hW9⟩ : ∃ W9, (w9.setCell ⟨gf, 0, none⟩ (.int .i64 10)).setCell ⟨gf, 1, none⟩ (.int .i64 (i : Int)) = W9 := ⟨_, rfl⟩
       have hbe := below_put2 (w := w) Hbe.out Hg.out _ _ hW9
       obtain ⟨p7, hp7⟩ := put2 Hk9.out _ _ hW9
       rw [hW9]
       obtain ⟨e2, e3, _⟩ := p7.two
       refine bodyPost_ret (v := .agg #[.int .i64 10, .int .i64 (i : Int)]) (by simp [results, Tryz.results27, go_sem, e2, e3]) rfl ?_
       have h9 := Heq.out
       injection h9 with h91 h92
       exact ⟨by rw [h91, h92], hbe⟩
      have hd8 : ¬ (8000 : Int) < (wd.length : Int) := by omega
      have hE3 := HE2.out
      rw [if_neg (fun h => h.elim hw0 hw8)] at hE3
      have HE3 := Lib.hid hE3
      clear hE3 HE2
      by_cases hL0 : L.length = 0
      ·have hlb : ((L.length : Int) == 0) = true := by simp [hL0]
       obtain rfl : L = [] := List.eq_nil_of_length_eq_zero hL0
       have hps0 : ps.length = 0 := by rw [← hLl2.out]; rfl
       have hres : Ix.termErr ids ts i = 19 := by rw [HE3.out, if_pos (.inl hps0)]
       have Hres := Lib.hid hres
       clear hres hps0 HE3
       go_wp2
       go_quiet (fail)
       have hbq := below_drewN' wi.heap.size wi nq
       generalize wi.drewN nq = wj at hbq ⊢
       have Hbe0 := Lib.hid (Hc.out.2.2.trans (hbq.mono Hc.out.2.2.size)); have Hk0 := Lib.hid (Hc.out.2.1.ext hbq)
       have Heq : Hid ((rx, ry) = ((19 : Int), ((i : Int) : Int))) := Lib.hid (Hbad.out 19 Hres.out (by decide))
       go_wp2_with fail
       refine (Hat.out 19 (i : Int) _).mono ?_
       rintro e w9 ⟨rfl, hb9⟩
       have hk9 := Hk0.out.ext hb9
       have hbe9 := Hbe0.out.trans (hb9.mono Hbe0.out.size)
       clear hb9
       obtain ⟨v0, v1, v2, v3, _⟩ := hk9.two
       have Hbe := Lib.hid hbe9; have Hk9 := Lib.hid hk9
       clear hbe9 hk9
       go_wp2
       obtain ⟨W9, hW9⟩ : ∃ W9, (w9.setCell ⟨gf, 0, none⟩ (.int .i64 19)).setCell ⟨gf, 1, none⟩ (.int .i64 (i : Int)) = W9 := ⟨_, rfl⟩
       have hbe := below_put2 (w := w) Hbe.out Hg.out _ _ hW9
       obtain ⟨p7, hp7⟩ := put2 Hk9.out _ _ hW9
       rw [hW9]
       obtain ⟨e2, e3, _⟩ := p7.two
       refine bodyPost_ret (v := .agg #[.int .i64 19, .int .i64 (i : Int)]) (by simp [results, Tryz.results27, go_sem, e2, e3]) rfl ?_
       have h9 := Heq.out
       injection h9 with h91 h92
       exact ⟨by rw [h91, h92], hbe⟩
      have hlb : ((L.length : Int) == 0) = false := by
       have h9 : ¬ (L.length : Int) = 0 := by omega
       simpa using h9
      have hps0 : ¬ ps.length = 0 := by rw [← hLl2.out]; exact hL0
      have hE4 := HE3.out
      rw [← hLa.out] at hE4
      have hrs2 := fun W (hb : Below wi.heap.size wi W) => refRising_ok M0 (.slice A3 L.length c3) L 1 W ((own.out.ext hb).read0)
      obtain ⟨r, hr⟩ : ∃ r, Ix.rising L 1 = r := ⟨_, rfl⟩
      rw [hr] at hrs2 hE4
      have HE4 := Lib.hid hE4; have Hrs := Lib.hid hrs2
      clear hE4 hrs2 hr HE3
      cases r with
      | false =>
       have hres : Ix.termErr ids ts i = 19 := by rw [HE4.out, if_pos (.inr (.inl rfl))]
       have Hres := Lib.hid hres
       clear hres HE4
       have hS : True := trivial
       go_wp2
       clear x0 x1 t0 t1
       refine wp_region_D (fun W => True) (fun _ => false) (by kernel_rfl) ?_
       change anyD _ _ _ _ _ _ _ _ _ (wi.drewN 1)
       have hbV := below_drewN' wi.heap.size wi 1
       generalize wi.drewN 1 = V0 at hS hbV ⊢
       (refine anyD_l5 (i := 0) (v := ?_) rfl (by kernel_rfl) (fun _ _ _ h => h) (.inl ⟨by kernel_rfl, fun W9 hW9 => ?_⟩) hS ?_; rotate_left; · (go_simp; rfl))
       (refine anyD_l5 (i := 1) (v := ?_) rfl (by kernel_rfl) (fun _ _ _ h => h) (.inl ⟨by kernel_rfl, fun W9 hW9 => ?_⟩) hS ?_; rotate_left; · (go_simp; rfl))
       (refine anyD_l5 (i := 2) (v := ?_) rfl (by kernel_rfl) (fun _ _ _ h => h) (.inl ⟨by kernel_rfl, fun W9 hW9 => ?_⟩) hS ?_; rotate_left; · (go_simp; rfl))
       (refine anyD_l5 (i := 3) (v := ?_) rfl (by kernel_rfl) (fun _ _ _ h => h) (.inl ⟨by kernel_rfl, fun W9 hW9 => ?_⟩) hS ?_; rotate_left; · (go_simp; rfl))
       (refine anyD_l5 (i := 4) (v := ?_) rfl (by kernel_rfl) (fun _ _ _ h => h) (.inl ⟨by kernel_rfl, fun W9 hW9 => ?_⟩) hS ?_; rotate_left; · (go_simp; rfl))
       go_simp
       refine anyD_oneG (i := 5) (by kernel_rfl) rfl rfl (fun K hK => ?_)
       have HK := Lib.hid hK
       clear hK
       unfold Oper.wp
       go_simp
       refine (Hrs.out V0 hbV).mono ?_
       rintro e w9 ⟨rfl, hb9⟩
       have hb19 := hbV.trans (hb9.mono hbV.size)
       have hS := trivial
       refine HK.out _ _ (fun _ => hS) ?_
       clear HK
       (refine anyD_l5 (i := 6) (v := ?_) rfl (by kernel_rfl) (fun _ _ _ h => h) (.inl ⟨by kernel_rfl, fun W9 hW9 => ?_⟩) hS ?_; rotate_left; · (go_simp; rfl))
       (refine anyD_l5 (i := 7) (v := ?_) rfl (by kernel_rfl) (fun _ _ _ h => h) (.inl ⟨by kernel_rfl, fun W9 hW9 => ?_⟩) hS ?_; rotate_left; · (go_simp; rfl))
       (refine anyD_l5 (i := 8) (v := ?_) rfl (by kernel_rfl) (fun _ _ _ h => h) (.inl ⟨by kernel_rfl, fun W9 hW9 => ?_⟩) hS ?_; rotate_left; · (go_simp; rfl))
       (refine anyD_l5 (i := 9) (v := undef) rfl (by kernel_rfl) (fun _ _ _ h => h) (.inr ⟨by kernel_rfl, rfl⟩) hS ?_)
       (refine anyD_l5 (i := 10) (v := undef) rfl (by kernel_rfl) (fun _ _ _ h => h) (.inr ⟨by kernel_rfl, rfl⟩) hS ?_)
       (refine anyD_l5 (i := 11) (v := undef) rfl (by kernel_rfl) (fun _ _ _ h => h) (.inr ⟨by kernel_rfl, rfl⟩) hS ?_)
       go_simp
       (refine anyD_l5 (i := 12) (v := undef) rfl (by kernel_rfl) (fun _ _ _ h => h) (.inr ⟨by kernel_rfl, rfl⟩) hS ?_)
       (refine anyD_l5 (i := 13) (v := undef) rfl (by kernel_rfl) (fun _ _ _ h => h) (.inr ⟨by kernel_rfl, rfl⟩) hS ?_)
       (refine anyD_l5 (i := 14) (v := undef) rfl (by kernel_rfl) (fun _ _ _ h => h) (.inr ⟨by kernel_rfl, rfl⟩) hS ?_)
       (refine anyD_l5 (i := 15) (v := undef) rfl (by kernel_rfl) (fun _ _ _ h => h) (.inr ⟨by kernel_rfl, rfl⟩) hS ?_)
       (refine anyD_l5 (i := 16) (v := undef) rfl (by kernel_rfl) (fun _ _ _ h => h) (.inr ⟨by kernel_rfl, rfl⟩) hS ?_)
       (refine anyD_l5 (i := 17) (v := undef) rfl (by kernel_rfl) (fun _ _ _ h => h) (.inr ⟨by kernel_rfl, rfl⟩) hS ?_)
       go_simp
       (refine anyD_l5 (i := 18) (v := undef) rfl (by kernel_rfl) (fun _ _ _ h => h) (.inr ⟨by kernel_rfl, rfl⟩) hS ?_)
       (refine anyD_l5 (i := 19) (v := undef) rfl (by kernel_rfl) (fun _ _ _ h => h) (.inr ⟨by kernel_rfl, rfl⟩) hS ?_)
       (refine anyD_l5 (i := 20) (v := undef) rfl (by kernel_rfl) (fun _ _ _ h => h) (.inr ⟨by kernel_rfl, rfl⟩) hS ?_)
       (refine anyD_l5 (i := 21) (v := undef) rfl (by kernel_rfl) (fun _ _ _ h => h) (.inr ⟨by kernel_rfl, rfl⟩) hS ?_)
       (refine anyD_l5 (i := 22) (v := undef) rfl (by kernel_rfl) (fun _ _ _ h => h) (.inr ⟨by kernel_rfl, rfl⟩) hS ?_)
       (refine anyD_l5 (i := 23) (v := ?_) rfl (by kernel_rfl) (fun _ _ _ h => h) (.inl ⟨by kernel_rfl, fun W9 hW9 => ?_⟩) hS ?_; rotate_left; · (go_simp; rfl))
       go_simp
       go_simp
       refine anyD_done (by kernel_rfl) ?_ _
       have Hcb := Lib.hid (And.intro (Hc.out.1.ext hb19) (And.intro (Hc.out.2.1.ext hb19) (And.intro (Hc.out.2.2.trans (hb19.mono Hc.out.2.2.size)) (hbi.out.trans (hb19.mono hbi.out.size)))))
       clear hb19
       have Hbe0 := Lib.hid (Hcb.out.2.2.1); have Hk0 := Lib.hid (Hcb.out.2.1)
       have Heq : Hid ((rx, ry) = ((19 : Int), ((i : Int) : Int))) := Lib.hid (Hbad.out 19 Hres.out (by decide))
       go_wp2_with fail
       refine (Hat.out 19 (i : Int) _).mono ?_
       rintro e w10 ⟨rfl, hb10⟩
       have hk9 := Hk0.out.ext hb10
       have hbe9 := Hbe0.out.trans (hb10.mono Hbe0.out.size)
       clear hb10
       obtain ⟨v0, v1, v2, v3, _⟩ := hk9.two
       have Hbe := Lib.hid hbe9; have Hk9 := Lib.hid hk9
       clear hbe9 hk9
       go_wp2
       obtain ⟨W9, hW9⟩ : ∃ W9, (w10.setCell ⟨gf, 0, none⟩ (.int .i64 19)).setCell ⟨gf, 1, none⟩ (.int .i64 (i : Int)) = W9 := ⟨_, rfl⟩
       have hbe := below_put2 (w := w) Hbe.out Hg.out _ _ hW9
       obtain ⟨p7, hp7⟩ := put2 Hk9.out _ _ hW9
       rw [hW9]
       obtain ⟨e2, e3, _⟩ := p7.two
       refine bodyPost_ret (v := .agg #[.int .i64 19, .int .i64 (i : Int)]) (by simp [results, Tryz.results27, go_sem, e2, e3]) rfl ?_
       have h9 := Heq.out
       injection h9 with h91 h92
       exact ⟨by rw [h91, h92], hbe⟩
      | true =>
       by_cases hi9 : i = 0
       ·subst hi9
        have hres : Ix.termErr ids ts 0 = 0 := by
         rw [HE4.out, if_neg]
         rintro (h | h | h)
         ·exact hps0 h
         ·cases h
         ·rw [Hwb.out] at h; simp at h
        have Hres := Lib.hid hres
        clear hres HE4
        have hS : True := trivial
        go_wp2
        clear x0 x1 t0 t1
        refine wp_region_D (fun W => True) (fun _ => false) (by kernel_rfl) ?_
        change anyD _ _ _ _ _ _ _ _ _ (wi.drewN 1)
        have hbV := below_drewN' wi.heap.size wi 1
        generalize wi.drewN 1 = V0 at hS hbV ⊢
        (refine anyD_l5 (i := 0) (v := ?_) rfl (by kernel_rfl) (fun _ _ _ h => h) (.inl ⟨by kernel_rfl, fun W9 hW9 => ?_⟩) hS ?_; rotate_left; · (go_simp; rfl))
        (refine anyD_l5 (i := 1) (v := ?_) rfl (by kernel_rfl) (fun _ _ _ h => h) (.inl ⟨by kernel_rfl, fun W9 hW9 => ?_⟩) hS ?_; rotate_left; · (go_simp; rfl))
        (refine anyD_l5 (i := 2) (v := ?_) rfl (by kernel_rfl) (fun _ _ _ h => h) (.inl ⟨by kernel_rfl, fun W9 hW9 => ?_⟩) hS ?_; rotate_left; · (go_simp; rfl))
        (refine anyD_l5 (i := 3) (v := ?_) rfl (by kernel_rfl) (fun _ _ _ h => h) (.inl ⟨by kernel_rfl, fun W9 hW9 => ?_⟩) hS ?_; rotate_left; · (go_simp; rfl))
        (refine anyD_l5 (i := 4) (v := ?_) rfl (by kernel_rfl) (fun _ _ _ h => h) (.inl ⟨by kernel_rfl, fun W9 hW9 => ?_⟩) hS ?_; rotate_left; · (go_simp; rfl))
        go_simp
        refine anyD_oneG (i := 5) (by kernel_rfl) rfl rfl (fun K hK => ?_)
        have HK := Lib.hid hK
        clear hK
        unfold Oper.wp
        go_simp
        refine (Hrs.out V0 hbV).mono ?_
        rintro e w9 ⟨rfl, hb9⟩
        have hb19 := hbV.trans (hb9.mono hbV.size)
        have hS := trivial
        refine HK.out _ _ (fun _ => hS) ?_
        clear HK
        (refine anyD_l5 (i := 6) (v := ?_) rfl (by kernel_rfl) (fun _ _ _ h => h) (.inl ⟨by kernel_rfl, fun W9 hW9 => ?_⟩) hS ?_; rotate_left; · (go_simp; rfl))
        (refine anyD_l5 (i := 7) (v := ?_) rfl (by kernel_rfl) (fun _ _ _ h => h) (.inl ⟨by kernel_rfl, fun W9 hW9 => ?_⟩) hS ?_; rotate_left; · (go_simp; rfl))
        (refine anyD_l5 (i := 8) (v := ?_) rfl (by kernel_rfl) (fun _ _ _ h => h) (.inl ⟨by kernel_rfl, fun W9 hW9 => ?_⟩) hS ?_; rotate_left; · (go_simp; rfl))
        (refine anyD_l5 (i := 9) (v := ?_) rfl (by kernel_rfl) (fun _ _ _ h => h) (.inl ⟨by kernel_rfl, fun W9 hW9 => ?_⟩) hS ?_; rotate_left; · (go_simp; rfl))
        (refine anyD_l5 (i := 10) (v := ?_) rfl (by kernel_rfl) (fun _ _ _ h => h) (.inl ⟨by kernel_rfl, fun W9 hW9 => ?_⟩) hS ?_; rotate_left; · (go_simp; rfl))
        (refine anyD_l5 (i := 11) (v := ?_) rfl (by kernel_rfl) (fun _ _ _ h => h) (.inl ⟨by kernel_rfl, fun W9 hW9 => ?_⟩) hS ?_; rotate_left; · (go_simp; rfl))
        go_simp
        (refine anyD_l5 (i := 12) (v := undef) rfl (by kernel_rfl) (fun _ _ _ h => h) (.inr ⟨by kernel_rfl, rfl⟩) hS ?_)
        (refine anyD_l5 (i := 13) (v := undef) rfl (by kernel_rfl) (fun _ _ _ h => h) (.inr ⟨by kernel_rfl, rfl⟩) hS ?_)
        (refine anyD_l5 (i := 14) (v := undef) rfl (by kernel_rfl) (fun _ _ _ h => h) (.inr ⟨by kernel_rfl, rfl⟩) hS ?_)
        (refine anyD_l5 (i := 15) (v := undef) rfl (by kernel_rfl) (fun _ _ _ h => h) (.inr ⟨by kernel_rfl, rfl⟩) hS ?_)
        (refine anyD_l5 (i := 16) (v := undef) rfl (by kernel_rfl) (fun _ _ _ h => h) (.inr ⟨by kernel_rfl, rfl⟩) hS ?_)
        (refine anyD_l5 (i := 17) (v := undef) rfl (by kernel_rfl) (fun _ _ _ h => h) (.inr ⟨by kernel_rfl, rfl⟩) hS ?_)
        go_simp
        (refine anyD_l5 (i := 18) (v := undef) rfl (by kernel_rfl) (fun _ _ _ h => h) (.inr ⟨by kernel_rfl, rfl⟩) hS ?_)
        (refine anyD_l5 (i := 19) (v := undef) rfl (by kernel_rfl) (fun _ _ _ h => h) (.inr ⟨by kernel_rfl, rfl⟩) hS ?_)
        (refine anyD_l5 (i := 20) (v := undef) rfl (by kernel_rfl) (fun _ _ _ h => h) (.inr ⟨by kernel_rfl, rfl⟩) hS ?_)
        (refine anyD_l5 (i := 21) (v := undef) rfl (by kernel_rfl) (fun _ _ _ h => h) (.inr ⟨by kernel_rfl, rfl⟩) hS ?_)
        (refine anyD_l5 (i := 22) (v := ?_) rfl (by kernel_rfl) (fun _ _ _ h => h) (.inl ⟨by kernel_rfl, fun W9 hW9 => ?_⟩) hS ?_; rotate_left; · (go_simp; rfl))
        (refine anyD_l5 (i := 23) (v := ?_) rfl (by kernel_rfl) (fun _ _ _ h => h) (.inl ⟨by kernel_rfl, fun W9 hW9 => ?_⟩) hS ?_; rotate_left; · (go_simp; rfl))
        go_simp
        go_simp
        refine anyD_done (by kernel_rfl) ?_ _
        have Hcb := Lib.hid (And.intro (Hc.out.1.ext hb19) (And.intro (Hc.out.2.1.ext hb19) (And.intro (Hc.out.2.2.trans (hb19.mono Hc.out.2.2.size)) (hbi.out.trans (hb19.mono hbi.out.size)))))
        clear hb19
        go_wp2
        go_roundw
        case rel => exact ⟨0 + 1, by omega, by go_num, Lib.hid (Hgood.out Hres.out), Lib.hid ⟨Hcb.out.1, Hcb.out.2.1, Hcb.out.2.2.1⟩⟩
        case measure => simp [intOf]; omega
       ·obtain ⟨j, rfl⟩ : ∃ j, i = j + 1 := ⟨i - 1, by omega⟩
        have hj : j < ts.length := by omega
        obtain ⟨bt2, offt2, A5, c5, hA, _, _, s0, _, _, _⟩ := (H01.out.2.1.ext Hc.out.2.2).termAt hj
        injection hA with hA
        injection hA with hA1 hA2
        subst hA1 hA2
        have hwb := Hwb.out
        rw [Nat.add_sub_cancel, Ix.getD_get hj, decide_eq_true (Nat.succ_pos j), Bool.true_and] at hwb
        obtain ⟨pw, hpw⟩ : ∃ pw, ts[j].1 = pw := ⟨_, rfl⟩
        rw [hpw] at s0 hwb
        have hle := le_total_S wd pw
        obtain ⟨bad, hbad⟩ : ∃ t, (!ltS pw wd) = t := ⟨_, rfl⟩
        rw [hbad] at hle hwb
        have hE5 := HE4.out
        rw [hwb] at hE5
        have HE5 := Lib.hid hE5
        have hj1 : ((j + 1 : Nat) : Int) - 1 = (j : Int) := by omega
        have hj2 : (0 : Int) < ((j + 1 : Nat) : Int) := by omega
        have hjw : IntKind.i64.wrap (j : Int) = (j : Int) := IntWalk.i64_in _ (by omega)
        have hjl : (j : Int) < (ts.length : Int) := by omega
        have hj0 : (0 : Int) ≤ (j : Int) := by omega
        have hSS : ∀ W, Below wi.heap.size wi W → W.cell? ⟨gt, 0, none⟩ = some (.string (bs wd)) ∧ W.cell? ⟨gx, 1, none⟩ = some (.slice (some ⟨bt, offt, none⟩) ts.length c1) ∧ W.cell? ⟨bt, offt + j * 2, none⟩ = some (.string (bs pw)) := fun W hW => ⟨cell_ext hW t0, cell_ext hW x1, cell_ext hW s0⟩
        have HS := Lib.hid hSS
        have hS := HS.out _ (below_drewN' wi.heap.size wi 1)
        clear hSS hE5 HE4 hwb Hwb hbad hpw s0
        go_wp2
        clear x0 x1 t0 t1
        refine wp_region_D (fun W => W.cell? ⟨gt, 0, none⟩ = some (.string (bs wd)) ∧ W.cell? ⟨gx, 1, none⟩ = some (.slice (some ⟨bt, offt, none⟩) ts.length c1) ∧ W.cell? ⟨bt, offt + j * 2, none⟩ = some (.string (bs pw))) (fun _ => false) (by kernel_rfl) ?_
        change anyD _ _ _ _ _ _ _ _ _ (wi.drewN 1)
        have hbV := below_drewN' wi.heap.size wi 1
        generalize wi.drewN 1 = V0 at hS hbV ⊢
        (refine anyD_l5 (i := 0) (v := ?_) rfl (by kernel_rfl) (fun _ _ _ h => h) (.inl ⟨by kernel_rfl, fun W9 hW9 => ?_⟩) hS ?_; rotate_left; · (obtain ⟨hw0, hw1, hw2⟩ := hW9; go_simp; rfl))
        (refine anyD_l5 (i := 1) (v := ?_) rfl (by kernel_rfl) (fun _ _ _ h => h) (.inl ⟨by kernel_rfl, fun W9 hW9 => ?_⟩) hS ?_; rotate_left; · (obtain ⟨hw0, hw1, hw2⟩ := hW9; go_simp; rfl))
        (refine anyD_l5 (i := 2) (v := ?_) rfl (by kernel_rfl) (fun _ _ _ h => h) (.inl ⟨by kernel_rfl, fun W9 hW9 => ?_⟩) hS ?_; rotate_left; · (obtain ⟨hw0, hw1, hw2⟩ := hW9; go_simp; rfl))
        (refine anyD_l5 (i := 3) (v := ?_) rfl (by kernel_rfl) (fun _ _ _ h => h) (.inl ⟨by kernel_rfl, fun W9 hW9 => ?_⟩) hS ?_; rotate_left; · (obtain ⟨hw0, hw1, hw2⟩ := hW9; go_simp; rfl))
        (refine anyD_l5 (i := 4) (v := ?_) rfl (by kernel_rfl) (fun _ _ _ h => h) (.inl ⟨by kernel_rfl, fun W9 hW9 => ?_⟩) hS ?_; rotate_left; · (obtain ⟨hw0, hw1, hw2⟩ := hW9; go_simp; rfl))
        go_simp
        refine anyD_oneG (i := 5) (by kernel_rfl) rfl rfl (fun K hK => ?_)
        have HK := Lib.hid hK
        clear hK
        unfold Oper.wp
        go_simp
        refine (Hrs.out V0 hbV).mono ?_
        rintro e w9 ⟨rfl, hb9⟩
        have hb19 := hbV.trans (hb9.mono hbV.size)
        clear hS
        have hS := HS.out _ hb19
        refine HK.out _ _ (fun _ => hS) ?_
        clear HK
        (refine anyD_l5 (i := 6) (v := ?_) rfl (by kernel_rfl) (fun _ _ _ h => h) (.inl ⟨by kernel_rfl, fun W9 hW9 => ?_⟩) hS ?_; rotate_left; · (obtain ⟨hw0, hw1, hw2⟩ := hW9; go_simp; rfl))
        (refine anyD_l5 (i := 7) (v := ?_) rfl (by kernel_rfl) (fun _ _ _ h => h) (.inl ⟨by kernel_rfl, fun W9 hW9 => ?_⟩) hS ?_; rotate_left; · (obtain ⟨hw0, hw1, hw2⟩ := hW9; go_simp; rfl))
        (refine anyD_l5 (i := 8) (v := ?_) rfl (by kernel_rfl) (fun _ _ _ h => h) (.inl ⟨by kernel_rfl, fun W9 hW9 => ?_⟩) hS ?_; rotate_left; · (obtain ⟨hw0, hw1, hw2⟩ := hW9; go_simp; rfl))
        (refine anyD_l5 (i := 9) (v := ?_) rfl (by kernel_rfl) (fun _ _ _ h => h) (.inl ⟨by kernel_rfl, fun W9 hW9 => ?_⟩) hS ?_; rotate_left; · (obtain ⟨hw0, hw1, hw2⟩ := hW9; go_simp; rfl))
        (refine anyD_l5 (i := 10) (v := ?_) rfl (by kernel_rfl) (fun _ _ _ h => h) (.inl ⟨by kernel_rfl, fun W9 hW9 => ?_⟩) hS ?_; rotate_left; · (obtain ⟨hw0, hw1, hw2⟩ := hW9; go_simp; rfl))
        (refine anyD_l5 (i := 11) (v := ?_) rfl (by kernel_rfl) (fun _ _ _ h => h) (.inl ⟨by kernel_rfl, fun W9 hW9 => ?_⟩) hS ?_; rotate_left; · (obtain ⟨hw0, hw1, hw2⟩ := hW9; go_simp; rfl))
        go_simp
        (refine anyD_l5 (i := 12) (v := ?_) rfl (by kernel_rfl) (fun _ _ _ h => h) (.inl ⟨by kernel_rfl, fun W9 hW9 => ?_⟩) hS ?_; rotate_left; · (obtain ⟨hw0, hw1, hw2⟩ := hW9; go_simp; rfl))
        (refine anyD_l5 (i := 13) (v := ?_) rfl (by kernel_rfl) (fun _ _ _ h => h) (.inl ⟨by kernel_rfl, fun W9 hW9 => ?_⟩) hS ?_; rotate_left; · (obtain ⟨hw0, hw1, hw2⟩ := hW9; go_simp; rfl))
        (refine anyD_l5 (i := 14) (v := ?_) rfl (by kernel_rfl) (fun _ _ _ h => h) (.inl ⟨by kernel_rfl, fun W9 hW9 => ?_⟩) hS ?_; rotate_left; · (obtain ⟨hw0, hw1, hw2⟩ := hW9; go_simp; rfl))
        (refine anyD_l5 (i := 15) (v := ?_) rfl (by kernel_rfl) (fun _ _ _ h => h) (.inl ⟨by kernel_rfl, fun W9 hW9 => ?_⟩) hS ?_; rotate_left; · (obtain ⟨hw0, hw1, hw2⟩ := hW9; go_simp; rfl))
        (refine anyD_l5 (i := 16) (v := ?_) rfl (by kernel_rfl) (fun _ _ _ h => h) (.inl ⟨by kernel_rfl, fun W9 hW9 => ?_⟩) hS ?_; rotate_left; · (obtain ⟨hw0, hw1, hw2⟩ := hW9; go_simp; rfl))
        (refine anyD_l5 (i := 17) (v := ?_) rfl (by kernel_rfl) (fun _ _ _ h => h) (.inl ⟨by kernel_rfl, fun W9 hW9 => ?_⟩) hS ?_; rotate_left; · (obtain ⟨hw0, hw1, hw2⟩ := hW9; go_simp; rfl))
        go_simp
        (refine anyD_l5 (i := 18) (v := ?_) rfl (by kernel_rfl) (fun _ _ _ h => h) (.inl ⟨by kernel_rfl, fun W9 hW9 => ?_⟩) hS ?_; rotate_left; · (obtain ⟨hw0, hw1, hw2⟩ := hW9; go_simp; rfl))
        (refine anyD_l5 (i := 19) (v := ?_) rfl (by kernel_rfl) (fun _ _ _ h => h) (.inl ⟨by kernel_rfl, fun W9 hW9 => ?_⟩) hS ?_; rotate_left; · (obtain ⟨hw0, hw1, hw2⟩ := hW9; go_simp; rfl))
        (refine anyD_l5 (i := 20) (v := ?_) rfl (by kernel_rfl) (fun _ _ _ h => h) (.inl ⟨by kernel_rfl, fun W9 hW9 => ?_⟩) hS ?_; rotate_left; · (obtain ⟨hw0, hw1, hw2⟩ := hW9; go_simp; rfl))
        (refine anyD_l5 (i := 21) (v := ?_) rfl (by kernel_rfl) (fun _ _ _ h => h) (.inl ⟨by kernel_rfl, fun W9 hW9 => ?_⟩) hS ?_; rotate_left; · (obtain ⟨hw0, hw1, hw2⟩ := hW9; go_simp; rfl))
        (refine anyD_l5 (i := 22) (v := ?_) rfl (by kernel_rfl) (fun _ _ _ h => h) (.inl ⟨by kernel_rfl, fun W9 hW9 => ?_⟩) hS ?_; rotate_left; · (obtain ⟨hw0, hw1, hw2⟩ := hW9; go_simp; rfl))
        (refine anyD_l5 (i := 23) (v := ?_) rfl (by kernel_rfl) (fun _ _ _ h => h) (.inl ⟨by kernel_rfl, fun W9 hW9 => ?_⟩) hS ?_; rotate_left; · (obtain ⟨hw0, hw1, hw2⟩ := hW9; go_simp; rfl))
        go_simp
        go_simp
        refine anyD_done (by kernel_rfl) ?_ _
        clear hS
        have Hcb := Lib.hid (And.intro (Hc.out.1.ext hb19) (And.intro (Hc.out.2.1.ext hb19) (And.intro (Hc.out.2.2.trans (hb19.mono Hc.out.2.2.size)) (hbi.out.trans (hb19.mono hbi.out.size)))))
        clear hb19
        cases bad with
        | true =>
         have Hbe0 := Lib.hid (Hcb.out.2.2.1); have Hk0 := Lib.hid (Hcb.out.2.1)
         have Heq : Hid ((rx, ry) = ((19 : Int), (((j : Int) + 1) : Int))) := Lib.hid ((Hbad.out 19 (by rw [HE5.out, if_pos (by simp)]) (by decide)).trans (by rw [show ((j + 1 : Nat) : Int) = (j : Int) + 1 from Int.natCast_succ j]))
         go_wp2_with fail
         refine (Hat.out 19 ((j : Int) + 1) _).mono ?_
         rintro e w10 ⟨rfl, hb10⟩
         have hk9 := Hk0.out.ext hb10
         have hbe9 := Hbe0.out.trans (hb10.mono Hbe0.out.size)
         clear hb10
         obtain ⟨v0, v1, v2, v3, _⟩ := hk9.two
         have Hbe := Lib.hid hbe9; have Hk9 := Lib.hid hk9
         clear hbe9 hk9
         go_wp2
         obtain ⟨W9, hW9⟩ : ∃ W9, (w10.setCell ⟨gf, 0, none⟩ (.int .i64 19)).setCell ⟨gf, 1, none⟩ (.int .i64 ((j : Int) + 1)) = W9 := ⟨_, rfl⟩
         have hbe := below_put2 (w := w) Hbe.out Hg.out _ _ hW9
         obtain ⟨p7, hp7⟩ := put2 Hk9.out _ _ hW9
         rw [hW9]
         obtain ⟨e2, e3, _⟩ := p7.two
         refine bodyPost_ret (v := .agg #[.int .i64 19, .int .i64 ((j : Int) + 1)]) (by simp [results, Tryz.results27, go_sem, e2, e3]) rfl ?_
         have h9 := Heq.out
         injection h9 with h91 h92
         exact ⟨by rw [h91, h92], hbe⟩
        | false =>
         have Hres := Lib.hid (show Ix.termErr ids ts (j + 1) = 0 by rw [HE5.out, if_neg (by simp; exact fun h => hps0 (by rw [h]; rfl))])
         go_wp2
         go_roundw
         case rel => exact ⟨j + 1 + 1, by omega, by go_num, Lib.hid (Hgood.out Hres.out), Lib.hid ⟨Hcb.out.1, Hcb.out.2.1, Hcb.out.2.2.1⟩⟩
         case measure => simp [intOf]; omega
   ·obtain rfl : i = ts.length := by omega
    have hz : (rx, ry) = (0, 0) := by rw [hgo.out, Nat.sub_self]; rfl
    injection hz with hz1 hz2
    subst hz1 hz2
    obtain ⟨v0, v1, v2, v3, _⟩ := hS0.out.2.1.two
    go_wp2
    obtain ⟨W9, hW9⟩ : ∃ W9, (wo.setCell ⟨gf, 0, none⟩ (.int .i64 0)).setCell ⟨gf, 1, none⟩ (.int .i64 0) = W9 := ⟨_, rfl⟩
    have hbe := below_put2 (w := w) hS0.out.2.2 Hg.out _ _ hW9
    obtain ⟨p7, hp7⟩ := put2 hS0.out.2.1 _ _ hW9
    rw [hW9]
    obtain ⟨e2, e3, _⟩ := p7.two
    exact bodyPost_ret (v := .agg #[.int .i64 0, .int .i64 0]) (by simp [results, Tryz.results27, go_sem, e2, e3]) rfl ⟨rfl, hbe⟩
end Go.Proofs.YtnlhocbaighedaaGreatDoor

/-
  The reference's Score.
-/
import Derived.Test.YtnlhocbaighedaaGreatDoorRkE
import Derived.Test.YtnlhocbaighedaaGreatDoorR25
namespace Go.Proofs.YtnlhocbaighedaaGreatDoor
open Go.RowKit
set_option linter.unusedVariables false
namespace Rk
theorem count_take (l : List Str) (w : Str) (m : Nat) : (List.range (m + 1)).countP (fun i => Sr.standsF l i w) = (List.range m).countP (fun i => Sr.standsF l i w) + (if Sr.standsF l m w then 1 else 0) := by
 rw [List.range_succ, List.countP_append]
 cases h : Sr.standsF l m w <;> simp [h]
theorem many_take (docs : List (List Str)) (w : Str) {n : Nat} (h : n < docs.length) : manyF (docs.take (n + 1)) w = manyF (docs.take n) w + (if 0 < timesF docs[n] w then 1 else 0) := by
 unfold manyF
 rw [List.take_succ_eq_append_getElem h, List.countP_append]
 congr 1
 by_cases h0 : 0 < timesF docs[n] w <;> simp [h0]
/-- what one word adds to a text's score -/
def partF (docs : List (List Str)) (w : Str) (k : Nat) : Int := min ((timesF (docs.getD k []) w : Nat) : Int) 10 * (1000 * ((docs.length : Int) + 1) / ((manyF docs w : Int) + 1))
theorem partF_bound (docs : List (List Str)) (w : Str) (k : Nat) (h : docs.length ≤ 300) : 0 ≤ partF docs w k ∧ partF docs w k ≤ 3010000 := by
 unfold partF
 have h3 := weight_le docs.length (manyF docs w) h
 generalize 1000 * ((docs.length : Int) + 1) / ((manyF docs w : Int) + 1) = W at h3
 have hm : (0 : Int) ≤ min ((timesF (docs.getD k []) w : Nat) : Int) 10 ∧ min ((timesF (docs.getD k []) w : Nat) : Int) 10 ≤ 10 := by omega
 generalize min ((timesF (docs.getD k []) w : Nat) : Int) 10 = m at hm
 refine ⟨Int.mul_nonneg hm.1 h3.1, ?_⟩
 have h1 : m * W ≤ 10 * W := Int.mul_le_mul_of_nonneg_right hm.2 h3.1
 omega
theorem sum_take (g : Str → Int) (hg : ∀ s, 0 ≤ g s ∧ g s ≤ 3010000) (l : List Str) : ∀ k, k ≤ l.length → 0 ≤ ((l.take k).map g).sum ∧ ((l.take k).map g).sum ≤ (k : Int) * 3010000 := by
 intro k
 induction k with
 | zero => intro _; simp
 | succ k ih =>
  intro hk
  have h1 := ih (by omega)
  have h2 := hg (l[k]'(by omega))
  rw [List.take_succ_eq_append_getElem (by omega), List.map_append, List.sum_append]
  simp only [List.map_cons, List.map_nil, List.sum_cons, List.sum_nil]
  omega
end Rk
set_option maxRecDepth 100000 in
set_option maxHeartbeats 8000000 in
theorem refScore_ok (a b qv : Value) (ids : List Int) (ts : List Ix.Term) (f : Nat) (q : Q) (kk : Int) (w : World) (h0 : SlR intC M0 w a ids) (h1 : SlR termC M0 w b ts) (hpos : ∀ t ∈ ts, ∀ p ∈ t.2, ∀ n ∈ p.2, 0 ≤ n) (hn : ids.length ≤ 300) (hK : Sr.costT ts ≤ 4000000000000) (hv : ∀ t ∈ ts, t.1.length ≤ 1048576) (hq : QAt f M0 w qv q) (hbk : q.bulk ≤ 1048576) (hk0 : 0 ≤ kk) (hk1 : kk < ids.length) :
  Calls Tryz.prog 12 #[.agg #[a, b], qv, .int .i64 kk] w fun e w' => e = .returned (.int .i64 (Rk.scoreRef (ids.map (Sr.docF (ids, ts))) (Rk.cntR f q []) kk.toNat)) ∧ Below w.heap.size w w' := by
 obtain ⟨A0, c0, rfl, _, _⟩ := h0.form
 obtain ⟨A1, c1, rfl, _, _⟩ := h1.form
 have hqv := hq
 obtain ⟨Aq, cq, rfl, _, _, _, _⟩ := hq
 obtain ⟨ql, hql⟩ : ∃ n, q.parts.length = n := ⟨_, rfl⟩
 rw [hql] at hqv ⊢
 obtain ⟨W0, g, hW, hg, hs, kx, kq, hal⟩ := boxPair w #[.slice A0 ids.length c0, .slice A1 ts.length c1] 25 #[.int .i64 q.kind, .string (bs q.text), .int .i64 q.num, .slice Aq ql cq] 28
 obtain ⟨x0, x1, _⟩ := kx.two
 have hd := docs_ok _ _ ids ts W0 (h0.ext hal) (h1.ext hal) hpos (by omega) hK hv
 obtain ⟨docs, hdocs⟩ : ∃ d, ids.map (Sr.docF (ids, ts)) = d := ⟨_, rfl⟩
 rw [hdocs] at hd ⊢
 have hdl : docs.length = ids.length := by rw [← hdocs, List.length_map]
 have hdr : ∀ d ∈ docs, d.length ≤ 5001 ∧ ∀ s ∈ d, s.length ≤ 4398046511104 := fun d hd => by
  rw [← hdocs] at hd
  obtain ⟨id, _, rfl⟩ := List.mem_map.1 hd
  have h2 := Sr.doc_tot (ids, ts) id
  dsimp only at h2
  exact ⟨Sr.doc_len (ids, ts) id, fun s hs => by have := Sr.tot_mem hs; omega⟩
 obtain ⟨WS, hWS⟩ : ∃ ws, Rk.cntR f q [] = ws := ⟨_, rfl⟩
 have hwl : WS.length ≤ 1048576 := by rw [← hWS]; have := Rk.cntR_len f q []; simp only [List.length_nil, Nat.zero_add] at this; omega
 have hcn := fun W (hb : Below W0.heap.size W0 W) => counted_ref f q _ (.slice none 0 0) [] W W.heap.size (Nat.le_refl _) (((hqv.ext hal).ext hb).subR fun _ _ h => by cases h) (Own.nil strC M0 W W.heap.size 9) hbk (by simp; omega)
 rw [hWS] at hcn ⊢
 obtain ⟨k, hk⟩ : ∃ k : Nat, kk = (k : Int) := ⟨kk.toNat, by omega⟩
 subst hk
 rw [show ((k : Int)).toNat = k from Int.toNat_natCast k]
 have hkd : k < docs.length := by omega
 obtain ⟨g0, hg0⟩ : ∃ g : Str → Int, (fun s => Rk.partF docs s k) = g := ⟨_, rfl⟩
 have hgb : ∀ s, 0 ≤ g0 s ∧ g0 s ≤ 3010000 := fun s => by rw [← hg0]; exact Rk.partF_bound docs s k (by omega)
 have hsc : Rk.scoreRef docs WS k = (WS.map g0).sum := by rw [← hg0]; rfl
 rw [hsc]
 have hst := Rk.sum_take g0 hgb WS
 have hdn : docs.length ≤ 300 := by omega
 have HW := Lib.hid hW; have Hd := Lib.hid hd; have Hcn := Lib.hid hcn; have Hal := Lib.hid hal; have Hdr := Lib.hid hdr; have Hg0 := Lib.hid hg0; have Hst := Lib.hid hst; have Hx := Lib.hid kx; have Hq := Lib.hid kq
 clear hW hs hql hd hpos hv h1 h0 hqv kx kq hal hK hdocs hdr hWS hcn hg0 hsc hst hbk hk0 hk1 hn hdl
 go_enter Tryz.func12, Tryz.ntmps12
 go_wp2_with fail
 rw [HW.out]
 refine Hd.out.mono ?_
 clear Hd x0 x1
 rintro e w1 ⟨Ad, cd, Ld, rfl, hLd, ownd, hb1⟩
 obtain rfl := hLd.out
 obtain ⟨q0, q1, q2, q3, _⟩ := (Hq.out.ext hb1).four
 have Hcn1 := Lib.hid (Hcn.out w1 hb1)
 have Hrd := Lib.hid ownd.read0; have Hb1 := Lib.hid hb1
 clear hLd ownd hb1 Hcn Hx Hq
 go_wp2_with fail
 refine Hcn1.out.mono ?_
 clear Hcn1 q0 q1 q2 q3
 rintro e w2 ⟨A2, c2, WL, rfl, hWL, ownw, hgr⟩
 obtain rfl := hWL.out
 have hb12 := grow_below hgr.gr rfl
 have Hrw := Lib.hid ownw.read0; have Hrd2 := Lib.hid (Hrd.out.ext hb12); have Hb2 := Lib.hid (Hal.out.trans (Hb1.out.trans (hb12.mono Hb1.out.size) |>.mono Hal.out.size))
 clear hWL ownw hgr hb12 Hrd Hb1
 go_wp2_with fail
 obtain ⟨docsL, hdL⟩ : ∃ n, Ld.length = n := ⟨_, rfl⟩
 obtain ⟨wl, hwL⟩ : ∃ n, WL.length = n := ⟨_, rfl⟩
 have HdL := Lib.hid hdL; have HwL := Lib.hid hwL
 rw [hdL, hwL]
 rw [hdL] at hdn hkd
 rw [hwL] at hwl
 clear hdL hwL
 go_loopw [9, 10] (fun sv iv wr => ∃ i : Nat, i ≤ wl ∧ iv = .int .i64 (i : Int) ∧ sv = .int .i64 (((WL.take i).map g0).sum) ∧ Below w2.heap.size w2 wr) (fun _ iv _ => wl - (intOf iv).toNat)
 case atStart => exact ⟨0, Nat.zero_le _, rfl, rfl, Below.refl _ _⟩
 case round =>
  obtain ⟨i, hi, rfl, rfl, hb⟩ := hrel
  obtain ⟨wo, rfl⟩ : ∃ W, W = wr := ⟨_, rfl⟩
  have hsi := Hst.out i (by rw [HwL.out]; exact hi)
  have hi0 : (0 : Int) ≤ (i : Int) := by omega
  by_cases hlt : i < wl
  ·have hii : (i : Int) < (wl : Int) := by omega
   have hlt' : i < WL.length := by rw [HwL.out]; exact hlt
   obtain ⟨x, hx⟩ : ∃ x, WL[i] = x := ⟨_, rfl⟩
   have htk : ((WL.take (i + 1)).map g0).sum = ((WL.take i).map g0).sum + g0 x := by
    rw [List.take_succ_eq_append_getElem hlt', List.map_append, List.sum_append, hx]; simp
   obtain ⟨S0, hS0⟩ : ∃ S, ((WL.take i).map g0).sum = S := ⟨_, rfl⟩
   rw [hS0] at hsi htk ⊢
   have hgx := hgb x
   have Htk := Lib.hid htk; have Hx := Lib.hid hx; have Hb := Lib.hid hb
   clear htk hx hb hS0
   go_wp2_with fail
   go_loopw [11, 12, 13] (fun mv ov nv wr => ∃ n : Nat, n ≤ docsL ∧ nv = .int .i64 (n : Int) ∧ mv = .int .i64 (Rk.manyF (Ld.take n) x : Int) ∧ ov = .int .i64 (if k < n then min ((Rk.timesF (Ld.getD k []) x : Nat) : Int) 10 else 0) ∧ Below wo.heap.size wo wr) (fun _ _ nv _ => docsL - (intOf nv).toNat)
   case atStart => exact ⟨0, Nat.zero_le _, rfl, rfl, by rw [if_neg (by omega)], Below.refl _ _⟩
   case round =>
    obtain ⟨n, hn, rfl, rfl, rfl, hb3⟩ := hrel
    obtain ⟨wn, rfl⟩ : ∃ W, W = wr := ⟨_, rfl⟩
    have hn0 : (0 : Int) ≤ (n : Int) := by omega
    have hmb : Rk.manyF (Ld.take n) x ≤ docsL := by
     unfold Rk.manyF
     exact Nat.le_trans List.countP_le_length (by rw [List.length_take]; omega)
    by_cases hltn : n < docsL
    ·have hni : (n : Int) < (docsL : Int) := by omega
     have hlt2 : n < Ld.length := by rw [HdL.out]; exact hltn
     obtain ⟨D, hD⟩ : ∃ D, Ld[n] = D := ⟨_, rfl⟩
     have hDr := Hdr.out D (by rw [← hD]; exact List.getElem_mem hlt2)
     have hmt := Rk.many_take Ld x hlt2
     rw [hD] at hmt
     have hkD : k = n → Ld.getD k [] = D := fun e => by subst e; rw [Ix.getD_get hlt2, hD]
     obtain ⟨M0', hM0⟩ : ∃ m, Rk.manyF (Ld.take n) x = m := ⟨_, rfl⟩
     rw [hM0] at hmt hmb ⊢
     obtain ⟨ov, hov⟩ : ∃ v : Int, (if k < n then min ((Rk.timesF (Ld.getD k []) x : Nat) : Int) 10 else 0) = v := ⟨_, rfl⟩
     rw [hov]
     obtain ⟨dl, hdl⟩ : ∃ n, D.length = n := ⟨_, rfl⟩
     have hbw := Hb.out.trans (hb3.mono Hb.out.size)
     have hrow : ∀ W, Below wn.heap.size wn W → ∃ (b od : Nat) (A8 : Option Addr) (c8 : Nat), Ad = some ⟨b, od, none⟩ ∧ W.cell? ⟨b, od + n, none⟩ = some (.slice A8 dl c8) ∧ SlR strC M0 W (.slice A8 dl c8) D := fun W hW => by
      have hrd := (Hrd2.out.ext hbw).ext hW
      rw [HdL.out] at hrd
      obtain ⟨b, od, A8, c8, e1, _, _, v0, hr⟩ := hrd.sliceAt (k := n) hlt2
      rw [hD] at v0 hr
      rw [hdl] at v0 hr
      exact ⟨b, od, A8, c8, e1, v0, hr⟩
     obtain ⟨bd, od, A8, c8, rfl, v0, hr0⟩ := hrow wn (Below.refl _ _)
     have hcell : ∀ W, Below wn.heap.size wn W → W.cell? ⟨bd, od + n, none⟩ = some (.slice A8 dl c8) := fun W hW => by
      obtain ⟨_, _, _, _, _, _, hbd', v0', _⟩ := ((show SlR (sliceC strC) M0 wn (.slice (some ⟨bd, od, none⟩) docsL cd) Ld by
       have := Hrd2.out.ext hbw
       rwa [HdL.out] at this)).sliceAt (k := n) hlt2
      injection ‹some _ = some _› with e
      injection e with e1 e2
      subst e1; subst e2
      exact (hW.cell hbd').trans v0
     have hcw : ∃ (b od : Nat), A2 = some ⟨b, od, none⟩ ∧ ∀ W, Below wn.heap.size wn W → W.cell? ⟨b, od + i, none⟩ = some (.string (bs x)) := by
      have h1 := (Hrw.out.ext hbw)
      rw [HwL.out] at h1
      obtain ⟨b, od, e1, _, hb', c0, _⟩ := h1.strAt hlt'
      rw [Hx.out] at c0
      exact ⟨b, od, e1, fun W hW => (hW.cell hb').trans c0⟩
     obtain ⟨bw, ow, rfl, hcw⟩ := hcw
     have Hcell := Lib.hid hcell; have Hcw := Lib.hid hcw; have Hr0 := Lib.hid hr0; have HDr := Lib.hid hDr; have Hdl := Lib.hid hdl; have Hmt := Lib.hid hmt; have HkD := Lib.hid hkD; have Hov := Lib.hid hov; have Hb3 := Lib.hid hb3
     have hdl5 : dl ≤ 5001 := by rw [← hdl]; exact hDr.1
     clear hcell hcw hr0 hDr hdl hmt hkD hov hb3 hrow hbw v0 hD hM0
     go_wp2_with fail
     go_loopw [14, 15] (fun tv mv wr => ∃ m : Nat, m ≤ dl ∧ mv = .int .i64 (m : Int) ∧ tv = .int .i64 ((List.range m).countP (fun i => Sr.standsF D i x) : Nat) ∧ Below wn.heap.size wn wr) (fun _ mv _ => dl - (intOf mv).toNat)
     case atStart => exact ⟨0, Nat.zero_le _, rfl, rfl, Below.refl _ _⟩
     case round =>
      obtain ⟨m, hm, rfl, rfl, hb4⟩ := hrel
      obtain ⟨wm, rfl⟩ : ∃ W, W = wr := ⟨_, rfl⟩
      have hm0 : (0 : Int) ≤ (m : Int) := by omega
      have hct := Rk.count_take D x m
      have hcl : (List.range m).countP (fun i => Sr.standsF D i x) ≤ m := Nat.le_trans List.countP_le_length (by rw [List.length_range]; exact Nat.le_refl _)
      obtain ⟨tm, htm⟩ : ∃ tm, (List.range m).countP (fun i => Sr.standsF D i x) = tm := ⟨_, rfl⟩
      rw [htm] at hct hcl ⊢
      have v1 := Hcell.out wm hb4
      by_cases hltm : m < dl
      ·have hmi : (m : Int) < (dl : Int) := by omega
       have hSS : ∀ W, Below wm.heap.size wm W → W.cell? ⟨bd, od + n, none⟩ = some (.slice A8 dl c8) ∧ W.cell? ⟨bw, ow + i, none⟩ = some (.string (bs x)) := fun W hW => ⟨Hcell.out W (hb4.trans (hW.mono hb4.size)), Hcw.out W (hb4.trans (hW.mono hb4.size))⟩
       have hsd := fun W (hW : Below wm.heap.size wm W) => stands_ok (.slice A8 dl c8) D (m : Int) x W (Hr0.out.ext (hb4.trans (hW.mono hb4.size))) (by omega) (by omega) HDr.out.2
       obtain ⟨r, hr⟩ : ∃ r, Sr.standsF D m x = r := ⟨_, rfl⟩
       simp only [Int.toNat_natCast, hr] at hsd
       rw [hr] at hct
       have HS := Lib.hid hSS; have Hsd := Lib.hid hsd; have Hct := Lib.hid hct; have Hb4 := Lib.hid hb4; have Htm := Lib.hid htm
       have hS := HS.out _ (below_drewN' wm.heap.size wm 1)
       have hw1 : IntKind.i64.wrap ((tm : Int) + 1) = ((tm + 1 : Nat) : Int) := by rw [show (tm : Int) + 1 = ((tm + 1 : Nat) : Int) by omega]; exact IntWalk.i64_in _ (by omega)
       clear hSS hsd hct hb4 hr htm
       go_wp2_with fail
       clear v1
 
       refine wp_region_D (fun W => W.cell? ⟨bd, od + n, none⟩ = some (.slice A8 dl c8) ∧ W.cell? ⟨bw, ow + i, none⟩ = some (.string (bs x))) (fun _ => false) (by kernel_rfl) ?_
       change anyD _ _ _ _ _ _ _ _ _ (wm.drewN 1)
       have hbV := below_drewN' wm.heap.size wm 1
       generalize wm.drewN 1 = V0 at hS hbV ⊢
       have HBV := Lib.hid hbV
       (refine anyD_l5 (i := 0) (v := ?_) rfl (by kernel_rfl) (fun _ _ _ h => h) (.inl ⟨by kernel_rfl, fun W9 hW9 => ?_⟩) hS ?_; rotate_left; · (obtain ⟨hw0, hw1⟩ := hW9; go_simp; rfl))
       (refine anyD_l5 (i := 1) (v := ?_) rfl (by kernel_rfl) (fun _ _ _ h => h) (.inl ⟨by kernel_rfl, fun W9 hW9 => ?_⟩) hS ?_; rotate_left; · (obtain ⟨hw0, hw1⟩ := hW9; go_simp; rfl))
       (refine anyD_l5 (i := 2) (v := ?_) rfl (by kernel_rfl) (fun _ _ _ h => h) (.inl ⟨by kernel_rfl, fun W9 hW9 => ?_⟩) hS ?_; rotate_left; · (obtain ⟨hw0, hw1⟩ := hW9; go_simp; rfl))
       (refine anyD_l5 (i := 3) (v := ?_) rfl (by kernel_rfl) (fun _ _ _ h => h) (.inl ⟨by kernel_rfl, fun W9 hW9 => ?_⟩) hS ?_; rotate_left; · (obtain ⟨hw0, hw1⟩ := hW9; go_simp; rfl))
       (refine anyD_l5 (i := 4) (v := ?_) rfl (by kernel_rfl) (fun _ _ _ h => h) (.inl ⟨by kernel_rfl, fun W9 hW9 => ?_⟩) hS ?_; rotate_left; · (obtain ⟨hw0, hw1⟩ := hW9; go_simp; rfl))
       (refine anyD_l5 (i := 5) (v := ?_) rfl (by kernel_rfl) (fun _ _ _ h => h) (.inl ⟨by kernel_rfl, fun W9 hW9 => ?_⟩) hS ?_; rotate_left; · (obtain ⟨hw0, hw1⟩ := hW9; go_simp; rfl))
       go_simp
       (refine anyD_l5 (i := 6) (v := ?_) rfl (by kernel_rfl) (fun _ _ _ h => h) (.inl ⟨by kernel_rfl, fun W9 hW9 => ?_⟩) hS ?_; rotate_left; · (obtain ⟨hw0, hw1⟩ := hW9; go_simp; rfl))
       (refine anyD_l5 (i := 7) (v := ?_) rfl (by kernel_rfl) (fun _ _ _ h => h) (.inl ⟨by kernel_rfl, fun W9 hW9 => ?_⟩) hS ?_; rotate_left; · (obtain ⟨hw0, hw1⟩ := hW9; go_simp; rfl))
       (refine anyD_l5 (i := 8) (v := ?_) rfl (by kernel_rfl) (fun _ _ _ h => h) (.inl ⟨by kernel_rfl, fun W9 hW9 => ?_⟩) hS ?_; rotate_left; · (obtain ⟨hw0, hw1⟩ := hW9; go_simp; rfl))
       go_simp
       refine anyD_one (i := 9) (by kernel_rfl) rfl rfl (fun K hK => ?_)
       have HK := Lib.hid hK
       clear hK
       unfold Oper.wp
       go_simp
       refine (Hsd.out _ HBV.out).mono ?_
       rintro e w5 ⟨rfl, hb5⟩
       have hb05 := HBV.out.trans (hb5.mono HBV.out.size)
       have hS := HS.out _ hb05
       refine HK.out _ _ (fun _ => hS) ?_
       clear HK
       go_simp
       refine anyD_done (by kernel_rfl) ?_ _
       have Hb5 := Lib.hid (Hb4.out.trans (hb05.mono Hb4.out.size))
       clear hb05 hb5 hbV hS
       cases r with
       | true =>
        go_wp2_with fail
        go_roundw
        case rel => exact ⟨m + 1, by omega, by go_num, by rw [Hct.out]; rfl, Hb5.out⟩
        case measure => simp [intOf]; omega
       | false =>
        go_wp2_with fail
        go_roundw
        case rel => exact ⟨m + 1, by omega, by go_num, by rw [Hct.out]; rfl, Hb5.out⟩
        case measure => simp [intOf]; omega
      ·have hmi : ¬ (m : Int) < (dl : Int) := by omega
       have hme : m = D.length := by rw [Hdl.out]; omega
       have htt : Rk.timesF D x = tm := by unfold Rk.timesF; rw [← hme]; exact htm
       have hmt := Hmt.out
       rw [htt] at hmt
       have Hmt2 := Lib.hid hmt; have Htt := Lib.hid htt; have Hb5 := Lib.hid (Hb3.out.trans (hb4.mono Hb3.out.size))
       have hw1 : IntKind.i64.wrap ((M0' : Int) + 1) = ((M0' + 1 : Nat) : Int) := by rw [show (M0' : Int) + 1 = ((M0' + 1 : Nat) : Int) by omega]; exact IntWalk.i64_in _ (by omega)
       obtain ⟨mn, hmn⟩ : ∃ mn : Int, min (tm : Int) 10 = mn := ⟨_, rfl⟩
       clear hmt htt htm hct hcl hb4 hme
       by_cases ht0 : 0 < tm
       ·have ht1 : (0 : Int) < (tm : Int) := by omega
        rw [if_pos ht0] at Hmt2
        by_cases hnk : n = k
        ·subst hnk
         have hnb : ((n : Int) == (n : Int)) = true := by simp
         have hfin : (mn : Int) = if n < n + 1 then min ((Rk.timesF (Ld.getD n []) x : Nat) : Int) 10 else 0 := by
          rw [if_pos (by omega), HkD.out rfl, Htt.out, hmn]
         have Hfin := Lib.hid hfin
         clear hfin
         go_wp2_with fail
         go_roundw
         case rel => exact ⟨n + 1, by omega, by go_num, by rw [Hmt2.out]; exact congrArg (Value.int IntKind.i64) (by omega), by rw [← Hfin.out], Hb5.out⟩
         case measure => simp [intOf]; omega
        ·have hnb : ((n : Int) == (k : Int)) = false := by rw [beq_eq_false_iff_ne]; omega
         have hfin : (ov : Int) = if k < n + 1 then min ((Rk.timesF (Ld.getD k []) x : Nat) : Int) 10 else 0 := by
          rw [← Hov.out]
          by_cases hkn : k < n
          ·rw [if_pos hkn, if_pos (by omega)]
          ·rw [if_neg hkn, if_neg (by omega)]
         have Hfin := Lib.hid hfin
         clear hfin
         go_wp2_with fail
         go_roundw
         case rel => exact ⟨n + 1, by omega, by go_num, by rw [Hmt2.out]; exact congrArg (Value.int IntKind.i64) (by omega), by rw [← Hfin.out], Hb5.out⟩
         case measure => simp [intOf]; omega
       ·have ht1 : ¬ (0 : Int) < (tm : Int) := by omega
        rw [if_neg ht0] at Hmt2
        by_cases hnk : n = k
        ·subst hnk
         have hnb : ((n : Int) == (n : Int)) = true := by simp
         have hfin : (mn : Int) = if n < n + 1 then min ((Rk.timesF (Ld.getD n []) x : Nat) : Int) 10 else 0 := by
          rw [if_pos (by omega), HkD.out rfl, Htt.out, hmn]
         have Hfin := Lib.hid hfin
         clear hfin
         go_wp2_with fail
         go_roundw
         case rel => exact ⟨n + 1, by omega, by go_num, by rw [Hmt2.out]; exact congrArg (Value.int IntKind.i64) (by omega), by rw [← Hfin.out], Hb5.out⟩
         case measure => simp [intOf]; omega
        ·have hnb : ((n : Int) == (k : Int)) = false := by rw [beq_eq_false_iff_ne]; omega
         have hfin : (ov : Int) = if k < n + 1 then min ((Rk.timesF (Ld.getD k []) x : Nat) : Int) 10 else 0 := by
          rw [← Hov.out]
          by_cases hkn : k < n
          ·rw [if_pos hkn, if_pos (by omega)]
          ·rw [if_neg hkn, if_neg (by omega)]
         have Hfin := Lib.hid hfin
         clear hfin
         go_wp2_with fail
         go_roundw
         case rel => exact ⟨n + 1, by omega, by go_num, by rw [Hmt2.out]; exact congrArg (Value.int IntKind.i64) (by omega), by rw [← Hfin.out], Hb5.out⟩
         case measure => simp [intOf]; omega
    ·have hni : ¬ (n : Int) < (docsL : Int) := by omega
     have hne : n = Ld.length := by rw [HdL.out]; omega
     rw [if_pos (by omega), show Ld.take n = Ld by rw [hne, List.take_length]]
     rw [show Ld.take n = Ld by rw [hne, List.take_length]] at hmb
     have hgx2 : g0 x = min ((Rk.timesF (Ld.getD k []) x : Nat) : Int) 10 * (1000 * ((docsL : Int) + 1) / ((Rk.manyF Ld x : Int) + 1)) := by rw [← Hg0.out, ← HdL.out]; rfl
     have hwl2 := Rk.weight_le docsL (Rk.manyF Ld x) hdn
     have hte := Rk.weight_eq docsL (Rk.manyF Ld x)
     obtain ⟨my, hmy⟩ : ∃ m, Rk.manyF Ld x = m := ⟨_, rfl⟩
     obtain ⟨ow, how⟩ : ∃ m : Int, min ((Rk.timesF (Ld.getD k []) x : Nat) : Int) 10 = m := ⟨_, rfl⟩
     rw [hmy] at hgx2 hwl2 hte hmb ⊢
     have hob : 0 ≤ ow ∧ ow ≤ 10 := by omega
     rw [how] at hgx2 ⊢
     obtain ⟨Wt, hWt⟩ : ∃ W : Int, 1000 * ((docsL : Int) + 1) / ((my : Int) + 1) = W := ⟨_, rfl⟩
     rw [hWt] at hgx2 hwl2 hte
     have hpb : 0 ≤ ow * Wt ∧ ow * Wt ≤ 3010000 := by rw [← hgx2]; exact hgx
     have hw1 : IntKind.i64.wrap ((docsL : Int) + 1) = (docsL : Int) + 1 := IntWalk.i64_in _ (by omega)
     have hw2 : IntKind.i64.wrap (1000 * ((docsL : Int) + 1)) = 1000 * ((docsL : Int) + 1) := IntWalk.i64_in _ (by omega)
     have hw3 : IntKind.i64.wrap ((my : Int) + 1) = (my : Int) + 1 := IntWalk.i64_in _ (by omega)
     have hw4 : IntKind.i64.wrap Wt = Wt := IntWalk.i64_in _ (by omega)
     have hw5 : ¬ ((my : Int) + 1) = 0 := by omega
     have hw6 : IntKind.i64.wrap (ow * Wt) = ow * Wt := IntWalk.i64_in _ (by omega)
     have hw7 : IntKind.i64.wrap (S0 + ow * Wt) = S0 + ow * Wt := IntWalk.i64_in _ (by omega)
     have Hb5 := Lib.hid (Hb.out.trans (hb3.mono Hb.out.size)); have Hgx := Lib.hid hgx2
     clear hne hmy how hWt hb3 hgx2 hgx hpb
     go_wp2_with fail
     go_roundw
     case rel => exact ⟨i + 1, by omega, by go_num, by rw [Htk.out, Hgx.out], Hb5.out⟩
     case measure => simp [intOf]; omega
  ·have hii : ¬ (i : Int) < (wl : Int) := by omega
   have hle : i = wl := by omega
   subst hle
   have hbF := Hb2.out.trans (hb.mono Hb2.out.size)
   have HbF := Lib.hid hbF
   have hfin : ((WL.take i).map g0).sum = (WL.map g0).sum := by rw [List.take_of_length_le (by rw [HwL.out]; exact Nat.le_refl _)]
   rw [hfin]
   clear hb hbF hfin hsi
   go_wp2_with fail
   go_ret
   exact ⟨rfl, by first | exact HbF.out | (have := HbF.out; rw [hg] at this; exact this)⟩
end Go.Proofs.YtnlhocbaighedaaGreatDoor

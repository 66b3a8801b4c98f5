/-
  Contracts and plain facts, one after another: rank.Order; rank.stems: the words of a leaf of a query: phrases and neighbours; rank.stems: visit, at every query.
-/
import Derived.Test.YtnlhocbaighedaaGreatDoorS1
import Derived.Test.YtnlhocbaighedaaGreatDoorR19
import Derived.Test.YtnlhocbaighedaaGreatDoorR10
namespace Go.Proofs.YtnlhocbaighedaaGreatDoor
open Go.RowKit
set_option linter.unusedVariables false
namespace Rk
/-- the comparison: the greater score ahead -/
def ordF (x : Ix.Idx) (l : List Str) (i j : Int) : Int := scoreF x l j - scoreF x l i
/-- what rank.Order answers -/
def orderR (x : Ix.Idx) (q : Q) (xs : List Str) : List Int × Int × Int :=
 if (Sr.findR x q).2.1 ≠ 0 then ([], (Sr.findR x q).2) else (sinkF (ordF x (countF xs)) (Sr.findR x q).1, 0, 0)
end Rk
theorem SlR.intM {M : Nat → Prop} {w : World} {v : Value} {l : List Int} (h : SlR intC M0 w v l) (hM : ∀ b, v.ownBlock = some b → ¬ M b) : SlR intC M w v l := by
 obtain ⟨A, n, c, xs, rfl, hn, hc, hm, he, ha⟩ := h
 refine ⟨A, n, c, xs, rfl, hn, hc, hm, ⟨he.1, fun i hi => he.2 i hi⟩, fun h0 => ?_⟩
 obtain ⟨b, off, rfl, _, hb, hcell⟩ := ha h0
 exact ⟨b, off, rfl, hM b rfl, hb, hcell⟩
/-- the stable sort of a list, wherever it lies -/
def SortsL (cf : Int → Int → Int) (L : List Int) : Prop := ∀ (v : Value) (w : World) (B gx gl : Nat), Own intC M0 w B 3 v L → (∀ g, v.ownBlock = some g → CmpAt w g gx gl cf) →
 Calls Tryz.prog 25 #[v, .func (.func 26) #[] #[.pointer (some ⟨gx, 0, none⟩), .pointer (some ⟨gl, 0, none⟩)]] w fun e w' => e = .returned (.tuple #[]) ∧ w.grownBy w' v.ownBlock ∧ SlR intC M0 w' v (Rk.sinkF cf L)
theorem sortsFew (cf : Int → Int → Int) (L : List Int) (h : L.length < 20) : SortsL cf L := fun v w B gx gl ho hc => sortFew_ok L v w B gx gl cf ho h hc
set_option maxRecDepth 100000 in
set_option maxHeartbeats 8000000 in
theorem rankOrder_ok (a b qv : Value) (x : Ix.Idx) (q : Q) (f : Nat) (xs : List Str) (w : World) (h0 : SlR intC M0 w a x.1) (h1 : SlR termC M0 w b x.2) (hq : QAt f M0 w qv q) (hcan : (Sr.findR x q).2.1 = 0 → Ix.Canon x) (hsz : SzIx x.2) (hbk : q.bulk ≤ 4000000) (hT : TabsU w)
  (hit : ∀ V cs, Below w.heap.size w V → qv = .agg cs → StemsIt cs xs V) (hx : ∀ s ∈ xs, s.length ≤ maxLen) (hn : xs.length ≤ 2000000) (hsl : SortsL (Rk.ordF x (Rk.countF xs)) (Sr.findR x q).1) :
  Calls Tryz.prog 7 #[.agg #[a, b], qv] w fun e w' => ∃ v, e = .returned (.tuple #[v, .agg #[.int .i64 (Rk.orderR x q xs).2.1, .int .i64 (Rk.orderR x q xs).2.2]]) ∧ SlR intC M0 w' v (Rk.orderR x q xs).1 ∧ Below w.heap.size w w' := by
 obtain ⟨A0, c0, rfl, _, _⟩ := h0.form
 obtain ⟨A1, c1, rfl, _, _⟩ := h1.form
 have hq' := hq
 obtain ⟨A, c, rfl, _, _, _, _⟩ := hq'
 obtain ⟨W, g, hW, hg, hs, kX, kQ, kF, hal⟩ := box3 w #[.slice A0 x.1.length c0, .slice A1 x.2.length c1] #[.int .i64 q.kind, .string (bs q.text), .int .i64 q.num, .slice A q.parts.length c] #[.int .i64 0, .int .i64 0] 25 28 30
 have hfd := sfind_ok (.slice A0 x.1.length c0) (.slice A1 x.2.length c1) _ x q f W (h0.ext hal) (h1.ext hal) (hq.ext hal) hsz hbk (hT.ext hal)
 have hcn := fun V (hb : Below w.heap.size w V) => counted_ok (.int .i64 q.kind) (.string (bs q.text)) (.int .i64 q.num) (.slice A q.parts.length c) xs V (hit V _ hb rfl) hx (by omega)
 have hoc := fun (hc0 : (Sr.findR x q).2.1 = 0) V lv gx gl i j (hb : Below w.heap.size w V) (hv : SlR strC M0 V lv (Rk.countF xs)) kx kl => ordCmp_ok (.slice A0 x.1.length c0) (.slice A1 x.2.length c1) lv x (Rk.countF xs) gx gl (hcan hc0) (Nat.le_trans (Rk.countF_len xs) hn) i j V (h0.ext hb) (h1.ext hb) hv kx kl
 obtain ⟨fa, hfa⟩ : ∃ y, (Sr.findR x q).2.1 = y := ⟨_, rfl⟩
 obtain ⟨fb, hfb⟩ : ∃ y, (Sr.findR x q).2.2 = y := ⟨_, rfl⟩
 obtain ⟨R, hR⟩ : ∃ R, Rk.orderR x q xs = R := ⟨_, rfl⟩
 unfold SFindAt at hfd
 rw [hfa, hfb] at hfd
 rw [hR]
 have hRe := hR
 unfold Rk.orderR at hRe
 obtain ⟨F, hF⟩ : ∃ F, (Sr.findR x q) = F := ⟨_, rfl⟩
 rw [hF] at hfd hfa hfb hRe hsl hoc
 obtain ⟨kn, hkn⟩ : ∃ k, q.kind = k := ⟨_, rfl⟩
 obtain ⟨tx, htx⟩ : ∃ k, bs q.text = k := ⟨_, rfl⟩
 obtain ⟨nm, hnm⟩ : ∃ k, q.num = k := ⟨_, rfl⟩
 obtain ⟨pl, hpl⟩ : ∃ k, q.parts.length = k := ⟨_, rfl⟩
 obtain ⟨xl, hxl⟩ : ∃ k, x.1.length = k := ⟨_, rfl⟩
 obtain ⟨tl, htl⟩ : ∃ k, x.2.length = k := ⟨_, rfl⟩
 rw [hkn, htx, hnm, hpl] at hfd hcn hW kQ ⊢
 rw [hxl, htl] at hfd hoc hW kX ⊢
 obtain ⟨q0, q1, q2, q3, _⟩ := kQ.fourV
 obtain ⟨x0, x1, _⟩ := kX.two
 have HW := Lib.hid hW; have Hfd := Lib.hid hfd; have Hcn := Lib.hid hcn; have Hoc := Lib.hid hoc; have HRe := Lib.hid hRe; have Hfa := Lib.hid hfa; have Hfb := Lib.hid hfb; have Hsl := Lib.hid hsl
 have HX := Lib.hid kX; have HQ := Lib.hid kQ; have HF := Lib.hid kF; have Hal := Lib.hid hal
 have hgw : w.heap.size ≤ g := by omega
 have hgW : g + 1 + 1 < W.heap.size := by omega
 clear hW hs kX kQ kF hal hfd hcn hoc hRe hfa hfb hF hR h0 h1 hq hit hkn htx hnm hpl hxl htl hx hn hcan hsz hbk hT hsl
 go_enter Tryz.func7, Tryz.ntmps7
 go_wp2_with fail
 rw [HW.out]
 refine Hfd.out.mono ?_
 clear Hfd q0 q1 q2 q3 x0 x1
 rintro e w3 ⟨A3, c3, L, rfl, hL, hown, hb3⟩
 obtain ⟨U, gu, hU, hgu, hsu, kU, halU⟩ := boxA w3 #[.int .i64 fa, .int .i64 fb] 30
 have hbWU := hb3.trans (halU.mono hb3.size)
 have hownU := hown.ext halU
 obtain ⟨i0, i1, _⟩ := kU.two
 have HU := Lib.hid hU; have HkU := Lib.hid kU; have HbWU := Lib.hid hbWU; have HownU := Lib.hid hownU
 clear hown hb3 halU hbWU kU hsu hU hownU
 go_wp2_with fail
 rw [HU.out]
 refine (failed_ok fa fb U).mono ?_
 rintro e w4 ⟨rfl, hb4⟩
 have hbW4 := HbWU.out.trans (hb4.mono HbWU.out.size)
 have hb04 := Hal.out.trans (hbW4.mono Hal.out.size)
 have kX4 := HX.out.ext hbW4
 have kQ4 := HQ.out.ext hbW4
 have kF4 := HF.out.ext hbW4
 clear i0 i1
 obtain ⟨i0, i1, _⟩ := (HkU.out.ext hb4).two
 obtain ⟨x0, x1, _⟩ := kX4.two
 obtain ⟨q0, q1, q2, q3, _⟩ := kQ4.fourV
 obtain ⟨y0, y1, y2, y3, _⟩ := kF4.two
 have HX4 := Lib.hid kX4; have HQ4 := Lib.hid kQ4; have HF4 := Lib.hid kF4; have Hb04 := Lib.hid hb04; have HU4 := Lib.hid (HkU.out.ext hb4); have Hown4 := Lib.hid (HownU.out.ext hb4)
 clear kX4 kQ4 kF4 hbW4 hb04 hb4 hgu
 by_cases hf0 : fa = 0
 ·subst hf0
  have hcond : ((0 : Int) != 0) = false := rfl
  have Hcn4 := Lib.hid (Hcn.out w4 Hb04.out)
  go_wp2_with fail
  refine Hcn4.out.mono ?_
  clear Hcn4
  rintro e w5 ⟨lv, rfl, hlv, hb5⟩
  obtain ⟨A5, c5, rfl, _, _⟩ := hlv.read0.form
  obtain ⟨ll, hll⟩ : ∃ k, (Rk.countF xs).length = k := ⟨_, rfl⟩
  rw [hll] at hlv ⊢
  obtain ⟨V5, g5, hV5, hg5, hs5, k5, hal5⟩ := boxA w5 #[.slice A5 ll c5] 53
  have hb45 := hb5.trans (hal5.mono hb5.size)
  have hb05 := Hb04.out.trans (hb45.mono Hb04.out.size)
  have kX5 := HX4.out.ext hb45
  have kF5 := HF4.out.ext hb45
  have hown5 := Hown4.out.ext hb45
  have hlv5 := hlv.ext hal5
  have hcmp : ∀ gb, (Value.slice A3 L.length c3).ownBlock = some gb → CmpAt V5 gb g g5 (Rk.ordF x (Rk.countF xs)) := by
   intro gb hgb V i j hgV
   have h1 := Hown4.out.base gb hgb
   have h2 := Hown4.out.lt gb hgb
   have h3 := hb5.size
   have hlvV : SlR strC M0 V (.slice A5 ll c5) (Rk.countF xs) := by
    have h4 : SlR strC (fun b => b = gb) V5 (.slice A5 ll c5) (Rk.countF xs) := by
     have h5 : SlR strC (fun b => b = gb) V5 (.slice A5 ll c5) (Rk.countF xs) := by
      obtain ⟨xs5, ho5, he5⟩ := hlv5
      have ho6 : Own strC (fun b => b = gb) V5 w4.heap.size 9 (.slice A5 ll c5) (Rk.countF xs) := ⟨xs5, ho5, strs_of_els he5 ▸ els_strs _ _ _ (strs_max he5)⟩
      exact ho6.read fun b hb hbg => by
       have := ho6.base b hb
       omega
     exact h5
    exact (h4.keep (fun b hb hne => hgV.block b hb fun e => hne (by injection e)) hgV.size).zero
   refine Hoc.out Hfa.out V _ g g5 i j (hb05.grown hgV hb05.size fun k hk => ?_) hlvV (kX5.keep (hgV.block g kX5.lt fun e => ?_)) (k5.keep (hgV.block g5 k5.lt fun e => ?_))
   ·injection hk with hk
    omega
   ·injection e with e
    omega
   ·injection e with e
    omega
  have Hso := Lib.hid (Hsl.out (.slice A3 L.length c3) V5 _ g g5 (by rw [← hL.out]; exact hown5) hcmp)
  obtain ⟨y0, y1, y2, y3, _⟩ := kF5.two
  have Hb05 := Lib.hid hb05; have Hown5 := Lib.hid hown5; have HF5 := Lib.hid kF5
  have hmf : ∀ (fn : Fn) (first cap : Array Value) (w : World), (Instr.makeFunc fn first cap).run Tryz.prog w = .ok (.func fn first cap) w := fun _ _ _ _ => rfl
  have HV5 := Lib.hid hV5
  clear hcmp hlv hlv5 hb5 hal5 hb45 hb05 kX5 kF5 hown5 k5 hs5 hV5 x0 x1 q0 q1 q2 q3 i0 i1 hll
  go_wp2_with fail
  rw [HV5.out]
  refine Hso.out.mono ?_
  clear Hso
  rintro e w6 ⟨rfl, hg6, hsl6⟩
  have hb06 := Hb05.out.grown hg6 Hb05.out.size fun k hk => by
   have := Hown5.out.base k hk
   omega
  have kF6 := HF5.out.keep (hg6.block (g + 1 + 1) HF5.out.lt fun e => by
   have := Hown5.out.base _ e.symm
   omega)
  have Hb06 := Lib.hid hb06; have HF6 := Lib.hid kF6; have Hsl6 := Lib.hid hsl6
  clear hb06 kF6 hsl6 hg6 y0 y1 y2 y3 hg5 hmf
  go_wp2_with fail
  refine (none_ok _).mono ?_
  rintro e w8 ⟨rfl, hb8⟩
  have kF8 := HF6.out.ext hb8
  obtain ⟨y0, y1, y2, y3, _⟩ := kF8.two
  have hsl8 := Hsl6.out.ext hb8
  have HF8 := Lib.hid kF8; have Hb08 := Lib.hid (Hb06.out.trans (hb8.mono Hb06.out.size)); have Hsl8 := Lib.hid hsl8
  clear kF8 hb8 hsl8
  go_wp2_with fail
  obtain ⟨V, hV⟩ : ∃ V, (w8.setCell ⟨g + 1 + 1, 0, none⟩ (.int .i64 0)).setCell ⟨g + 1 + 1, 1, none⟩ (.int .i64 0) = V := ⟨_, rfl⟩
  have k9 : Blk V (g + 1 + 1) 30 #[.int .i64 0, .int .i64 0] := by
   rw [← hV]; simpa using (HF8.out.set_ 0 (.int .i64 0)).set_ 1 (.int .i64 0)
  have hb9 : Below w.heap.size w V := by
   rw [← hV]; exact (Hb08.out.setCell (p := ⟨g + 1 + 1, 0, none⟩) (by show w.heap.size ≤ g + 1 + 1; omega) _).setCell (p := ⟨g + 1 + 1, 1, none⟩) (by show w.heap.size ≤ g + 1 + 1; omega) _
  rw [hV]
  obtain ⟨t0, t1, _⟩ := k9.two
  have hRR := HRe.out
  rw [Hfa.out, if_neg (by simp)] at hRR
  have hslV : SlR intC M0 V (.slice A3 L.length c3) (Rk.sinkF (Rk.ordF x (Rk.countF xs)) F.1) := by
   have h1 := SlR.intM (M := fun b => b = g + 1 + 1) Hsl8.out fun b hb e => by
    have := Hown5.out.base b hb
    omega
   have h2 : V.heap.size = w8.heap.size := by rw [← hV]; simp
   refine (h1.keep (fun b hb hne => ?_) (by omega)).zero
   rw [← hV, Below.heap_setCell _ _ _ _ (show b ≠ g + 1 + 1 from hne), Below.heap_setCell _ _ _ _ (show b ≠ g + 1 + 1 from hne)]
  subst hRR
  exact bodyPost_ret (v := .tuple #[.slice A3 L.length c3, .agg #[.int .i64 0, .int .i64 0]]) (by simp [results, Tryz.results7, go_sem, t0, t1]) rfl ⟨_, rfl, hslV, hb9⟩
 ·have hcond : (fa != 0) = true := by simpa using hf0
  have Hf0 := Lib.hid hf0
  clear hf0
  go_wp2_with fail
  go_region
  go_wp2_with fail
  obtain ⟨V, hV⟩ : ∃ V, (w4.setCell ⟨g + 1 + 1, 0, none⟩ (.int .i64 fa)).setCell ⟨g + 1 + 1, 1, none⟩ (.int .i64 fb) = V := ⟨_, rfl⟩
  have k9 : Blk V (g + 1 + 1) 30 #[.int .i64 fa, .int .i64 fb] := by
   rw [← hV]; simpa using (HF4.out.set_ 0 (.int .i64 fa)).set_ 1 (.int .i64 fb)
  have hb9 : Below w.heap.size w V := by
   rw [← hV]; exact (Hb04.out.setCell (p := ⟨g + 1 + 1, 0, none⟩) (by show w.heap.size ≤ g + 1 + 1; omega) _).setCell (p := ⟨g + 1 + 1, 1, none⟩) (by show w.heap.size ≤ g + 1 + 1; omega) _
  rw [hV]
  obtain ⟨t0, t1, _⟩ := k9.two
  have hRR := HRe.out
  rw [Hfa.out, if_pos Hf0.out] at hRR
  subst hRR
  exact bodyPost_ret (v := .tuple #[.slice none 0 0, .agg #[.int .i64 fa, .int .i64 fb]]) (by simp [results, Tryz.results7, go_sem, t0, t1]) rfl ⟨_, by rw [Hfa.out, Hfb.out], (Own.nil intC M0 _ 0 3).read0, hb9.drew⟩
end Go.Proofs.YtnlhocbaighedaaGreatDoor
namespace Go.Proofs.YtnlhocbaighedaaGreatDoor
open Go.RowKit
set_option linter.unusedVariables false
set_option maxRecDepth 100000 in
set_option maxHeartbeats 8000000 in
theorem visit_leaf4 (gy gv : Nat) (t : Str) (ht : t.length ≤ 4000000) (nv : Int) (A : Option Addr) (n c : Nat) (l : Nat) (J Jx : Nat → (Nat → Prop) → World → Prop) (S : Nat → Prop) (W : World) (n0 : Nat) (hn0 : n0 ≤ W.heap.size)
  (ky : Blk W gy 79 #[.func (.yield l) #[] #[]]) (hSy : ¬ S gy) (hS : ∀ b, S b → b < W.heap.size)
  (hJ : ∀ k S W1 W2, J k S W1 → Kept n0 S W1 W2 → J k S W2) (hJx : ∀ k S W1 W2, Jx k S W1 → Kept n0 S W1 W2 → Jx k S W2)
  (hY : ∀ k (h : k < (splitS t).length) S W1, J k S W1 → n0 ≤ W1.heap.size → YieldAt Fence.wide 0 Tryz.prog l (encW (Sm.stem (splitS t)[k])) W1 fun e W' => ∃ S', Chg S S' W1 W' ∧ ((e = .returned (.bool true) ∧ J (k + 1) S' W') ∨ (e = .returned (.bool false) ∧ Jx (k + 1) S' W')))
  (h0 : J 0 S W) :
  CallsIn Fence.wide 0 Tryz.prog 67 #[.agg #[.int .i64 4, .string (bs t), .int .i64 nv, .slice A n c], .pointer (some ⟨gy, 0, none⟩), .pointer (some ⟨gv, 0, none⟩)] W (VisitAt (splitS t).length J Jx) := by
 obtain ⟨W1, g1, hW1, hg1, hs1, kq, kr, hal⟩   := boxPairV W #[.int .i64 4, .string (bs t), .int .i64 nv, .slice A n c] 28 #[.bool false] 4
 obtain ⟨q0, q1, q2, q3, _⟩ := kq.fourV
 have hsp := splitSeq_ok t W1
 have HW1 := Lib.hid hW1; have Hg1 := Lib.hid hg1; have Hsp := Lib.hid hsp; have Hkr := Lib.hid kr; have Hal := Lib.hid hal; have HJ := Lib.hid hJ; have HJx := Lib.hid hJx; have HY := Lib.hid hY; have HS := Lib.hid hS; have Hky := Lib.hid (ky.ext hal); have Hkq := Lib.hid kq
 clear hsp kr hal hJ hJx hY hS kq
 refine callsIn_of_wp_marks (F := Fence.wide) (n := 0) Tryz.func67 rfl trivial ((wpIn_wide (n := 0)).2 ?_) rfl
 simp only [Tryz.ntmps67, List.size_toArray, List.length_cons, List.length_nil, Nat.reduceAdd, Nat.reduceSub, Array.replicate_succ, Array.replicate_zero, List.push_toArray, List.append_toArray, List.nil_append, List.cons_append]
 go_wp2_with fail
 clear hW1 hg1
 refine Hsp.out.mono ?_
 clear Hsp q0 q1 q2 q3
 rintro e w3 ⟨g, rfl, hg, hsz3, k0, k1, k2, hb3⟩
 go_wp2
 obtain ⟨g2, hg2⟩ : ∃ g2, g1 + 1 = g2 := ⟨_, rfl⟩
 have hWg : W.heap.size = g1 := Hg1.out
 have hgle : g2 < g := by omega
 have hz3 : g + 3 ≤ w3.heap.size := by omega
 clear hsz3
 rw [hg2]
 have hkr3 := Hkr.out.ext hb3
 rw [hg2] at hkr3
 have hky3 := Hky.out.ext hb3
 have hb13 := Hal.out.trans (hb3.mono Hal.out.size)
 have hgyl : gy < W.heap.size := ky.lt
 have Hb13 := Lib.hid hb13; have Hkr3 := Lib.hid hkr3; have Hky3 := Lib.hid hky3; have Hk0 := Lib.hid (And.intro k0 (And.intro k1 k2))
 clear k0 k1 k2 hb3 hkr3 hky3 hb13
 refine wp_rangeFunc_iterX (X := fun b => b = g) ?_ (spseq_iter g t ht) rfl (enters_of Tryz.func133 (by kernel_rfl) rfl) (fun _ => rfl)
  (fun k => InV gy g2 g (.func (.yield l) #[] #[]) false (J k)) (fun c k U V => c = .ret ∧ InV gy g2 g (.func (.yield l) #[] #[]) false (Jx k) U V) (fun b => S b ∨ b = g2) ?_ ?_ ?_ ?_ ?_
  (fun x => { tmps := #[.agg #[.int .i64 4, .string (bs t), .int .i64 nv, .slice A n c], .pointer (some ⟨gy, 0, none⟩), .pointer (some ⟨gv, 0, none⟩), .pointer (some ⟨g1, 0, none⟩), .pointer (some ⟨g2, 0, none⟩), .string (bs x),
   undef, undef, .pointer (some ⟨g1, 0, none⟩), .int .i64 4, .bool true, .bool false, .bool true, undef, .pointer (some ⟨g1, 1, none⟩), .string (bs t),
   .func (.func 133) #[] #[.pointer (some ⟨g + 1, 0, none⟩), .pointer (some ⟨g, 0, none⟩), .pointer (some ⟨g + 2, 0, none⟩)],
   .string (bs x), undef, undef, undef, undef, undef, undef, undef, undef, undef, undef, undef, undef, undef, undef, undef, undef, undef, undef, undef, undef], defers := [] }) ?_ ?_ ?_ ?_
 ·rintro b rfl; omega
 ·rintro b (h | h)
  ·have := HS.out b h; omega
  ·omega
 ·intro S' V hS' hbV
  obtain ⟨k0, k1, k2⟩ := Hk0.out
  have hno : ∀ b, g ≤ b → b < g + 3 → ¬ S' b := fun b h1 h2 h => by
   rcases hS' b h with (h' | h') | h'
   ·have := HS.out b h'; omega
   ·omega
   ·omega
  exact ⟨k0.ext hbV, hno _ (by omega) (by omega), k1.ext hbV, hno _ (by omega) (by omega), k2.ext hbV, hno _ (by omega) (by omega)⟩
 ·intro k U V V' h hk
  exact h.kept (HJ.out k) (n0 := n0) (by omega) (by omega) (by omega) (by omega) (by omega) (by omega) hk
 ·rintro c k U V V' ⟨hc, h⟩ hk
  exact ⟨hc, h.kept (HJx.out k) (n0 := n0) (by omega) (by omega) (by omega) (by omega) (by omega) (by omega) hk⟩
 ·refine ⟨S, fun b => Iff.rfl, HJ.out _ _ _ _ h0 (Kept.of_below Hb13.out), Hky3.out, hSy, Hkr3.out, fun h => ?_, fun h => ?_, fun b hb => ?_⟩
  ·have := HS.out _ h; omega
  ·have := HS.out _ h; omega
  ·have := HS.out _ hb; have := Hb13.out.size; omega
 ·intro l' x V K hK
  simp only [encW]
  gi_wp2_with (rw [Oper.semAt_eq _ _ _ (fun c h => by cases h)]; go_simp)
  exact hK
 ·rintro l' k hk U V ⟨T, hU, hj, ky2, hTy, kr2, hT2, hTg, hTl⟩ hlt hsz
  have hF1 : Fence.wide.fn 69 := trivial
  have hF3 : Fence.wide.depth = none := rfl
  have hF4 : (Fence.wide.inRound l').round = some l' := rfl
  obtain ⟨y0, y1, _⟩ := ky2.one
  obtain ⟨p, hp⟩ : ∃ p, (splitS t)[k] = p := ⟨_, rfl⟩
  have hpl : p.length ≤ maxLen := by
   have := (splitS_mem t p (by rw [← hp]; exact List.getElem_mem hk)).2
   unfold maxLen; omega
  have hof := fun V' => of_ok p hpl V'
  have hy := fun (V' : World) (hb : Below V.heap.size V V') => HY.out k hk T V' (HJ.out _ _ _ _ hj (Kept.of_below hb)) (by have := hb.size; omega)
  simp only [hp] at hy
  rw [hp]
  obtain ⟨q, hq⟩ : ∃ q, Sm.stem p = q := ⟨_, rfl⟩
  rw [hq] at hof hy
  have Hof := Lib.hid hof; have Hy := Lib.hid hy; have Hky2 := Lib.hid ky2
  clear hof hy hq hp hpl
  gi_wp2_with (rw [Oper.semAt_eq _ _ _ (fun c h => by cases h)]; go_simp)
  gi_region_with (first
   | (gi_at_call 69; go_loud (have hcd := CallsIn.inRound l' ((callsIn_wide (n := 0)).2 (Hof.out V.drew)); refine hcd.mono ?_; clear hcd; rintro e w5 ⟨rfl, hb5⟩; have hb05 : Below V.heap.size V w5 := (Below.refl V.heap.size V).drew.trans hb5; obtain ⟨fn, tmps, assign, body, hyy, hRR⟩ := Hy.out w5 hb05; dsimp only [encW] at hyy; obtain ⟨y2, y3, _⟩ := (Hky2.out.ext hb05).one))
   | (refine hRR.mono ?_; rintro e w6 ⟨T', hchg, hor4⟩; obtain ⟨tt, rfl⟩ : ∃ tt, e = .returned (.bool tt) := hor4.elim (fun h => ⟨_, h.1⟩) (fun h => ⟨_, h.1⟩); have Hor4 := Lib.hid hor4; clear hor4)
   | (rw [Oper.semAt_eq _ _ _ (fun c h => by cases h)]; go_simp))
  all_goals
   have hcU : Chg U (fun b => T' b ∨ b = g2) V w6 := by
    refine ⟨hchg.os.trans hb05.os, hchg.tape.trans hb05.tape, hchg.output.trans hb05.output, Nat.le_trans hb05.size hchg.size, fun b hb hn => ?_, fun b hb => ?_⟩
    ·exact (hchg.same b (Nat.lt_of_lt_of_le hb hb05.size) fun h => hn ((hU b).2 (.inl h))).trans (hb05.block b hb)
    ·rcases hb with h | h
     ·obtain ⟨h1, h2⟩ := hchg.own b h
      refine ⟨h1, h2.elim (fun h => .inl ((hU b).2 (.inl h))) fun h => .inr (Nat.le_trans hb05.size h)⟩
     ·rw [h]
      exact ⟨Nat.lt_of_lt_of_le kr2.lt (Nat.le_trans hb05.size hchg.size), .inl ((hU g2).2 (.inr rfl))⟩
   obtain ⟨ky6, hTy6⟩ := (Hky2.out.ext hb05).chg hTy hchg
   obtain ⟨kr6, hTr6⟩ := (kr2.ext hb05).chg hT2 hchg
   have hTg6 : ¬ T' g := fun h => (hchg.own g h).2.elim hTg fun h => by have := hb05.size; omega
   have HcU := Lib.hid hcU; have Hky6 := Lib.hid ky6; have Hkr6 := Lib.hid kr6
   clear hyy hRR y0 y1 y2 y3 hcU ky6 kr6 ky2 kr2 hj hb5
   obtain ⟨z0, z1, z2⟩ := Hkr6.out.one
   cases tt with
   | true =>
    have hj6 : J (k + 1) T' w6 := Hor4.out.elim (fun h => h.2) (fun h => by cases h.1)
    gi_wp2_with (rw [Oper.semAt_eq _ _ _ (fun c h => by cases h)]; go_simp)
    exact ⟨_, HcU.out, T', fun b => Iff.rfl, hj6, Hky6.out, hTy6, Hkr6.out, hTr6, hTg6, fun b hb => (hchg.own b hb).1⟩
   | false =>
    have hx6 : Jx (k + 1) T' w6 := Hor4.out.elim (fun h => by cases h.1) (fun h => h.2)
    gi_wp2_with (rw [Oper.semAt_eq _ _ _ (fun c h => by cases h)]; go_simp)
    have hs6 : (w6.setCell ⟨g2, 0, none⟩ (.bool false)).heap.size = w6.heap.size := by simp
    have hne : ∀ b, b ≠ g2 → (w6.setCell ⟨g2, 0, none⟩ (.bool false)).heap[b]? = w6.heap[b]? := fun b hb => Below.heap_setCell _ _ _ _ hb
    refine ⟨fun b => T' b ∨ b = g2, ⟨HcU.out.os, HcU.out.tape, HcU.out.output, by rw [hs6]; exact HcU.out.size, fun b hb hn => (hne b fun e => hn ((hU b).2 (.inr e))).trans (HcU.out.same b hb hn), fun b hb => by rw [hs6]; exact HcU.out.own b hb⟩, rfl, T', fun b => Iff.rfl, ?_, Hky6.out.keep (hne gy (by omega)), hTy6, ?_, hTr6, hTg6, fun b hb => by rw [hs6]; exact (hchg.own b hb).1⟩
    ·exact HJx.out _ _ _ _ hx6 ⟨rfl, rfl, rfl, by rw [hs6]; exact Nat.le_refl _, fun b hb ho => hne b fun e => by
      rcases ho with h | h
      ·omega
      ·exact hTr6 (e ▸ h)⟩
    ·have := Hkr6.out.set_ 0 (.bool false)
     simpa using this
 ·rintro D U V hD hUD ⟨T, hU, hj, ky2, hTy, kr2, hT2, hTg, hTl⟩ hWD
  obtain ⟨z0, z1, z2⟩ := kr2.one
  have hDg : D ≠ g2 := fun e => hUD ((hU D).2 (.inr e))
  have hTD : ¬ T D := fun h => hUD ((hU D).2 (.inl h))
  have Hkr2 := Lib.hid kr2
  clear kr2 ky2
  go_wp2
  have hne : ∀ b, b ≠ g2 → (V.setCell ⟨g2, 0, none⟩ (.bool true)).heap[b]? = V.heap[b]? := fun b hb => Below.heap_setCell _ _ _ _ hb
  have k9 : Blk (V.setCell ⟨g2, 0, none⟩ (.bool true)) g2 4 #[.bool true] := by
   have := Hkr2.out.set_ 0 (.bool true)
   simpa using this
  have hs9 : (V.setCell ⟨g2, 0, none⟩ (.bool true)).heap.size = V.heap.size := by simp
  obtain ⟨V9, hV9⟩ : ∃ V9, V.setCell ⟨g2, 0, none⟩ (.bool true) = V9 := ⟨_, rfl⟩
  rw [hV9] at hne k9 hs9 ⊢
  have hj9 : J (splitS t).length T V9 := HJ.out _ _ _ _ hj (by rw [← hV9]; exact ⟨rfl, rfl, rfl, by simp, fun b hb ho => Below.heap_setCell _ _ _ _ fun (e : b = g2) => by
   rcases ho with h | h
   ·omega
   ·exact hT2 (e ▸ h)⟩)
  have hj10 := HJ.out _ _ _ _ hj9 (Kept.putObj (r := D) (o := .deferred none) (by omega) hTD)
  have k10 : Blk (V9.putObj D (.deferred none)) g2 4 #[.bool true] := k9.keep (World.putObj_heap_other hDg.symm)
  obtain ⟨c0, _, _⟩ := k10.one
  exact bodyPostM_one ((hne D hDg).trans hWD) (v := .bool true) (by simp [results, Tryz.results67, go_sem, c0]) (.inl ⟨rfl, T, hj10⟩)
 ·rintro D c' k U V hD hUD ⟨rfl, T, hU, hj, ky2, hTy, kr2, hT2, hTg, hTl⟩ hWD
  have hDg : D ≠ g2 := fun e => hUD ((hU D).2 (.inr e))
  have hTD : ¬ T D := fun h => hUD ((hU D).2 (.inl h))
  have hj10 := HJx.out _ _ _ _ hj (Kept.putObj (r := D) (o := .deferred none) (by omega) hTD)
  have k10 : Blk (V.putObj D (.deferred none)) g2 4 #[.bool false] := kr2.keep (World.putObj_heap_other hDg.symm)
  obtain ⟨c0, _, _⟩ := k10.one
  clear k10 kr2 ky2
  go_wp2
  exact bodyPostM_one hWD (v := .bool false) (by simp [results, Tryz.results67, go_sem, c0]) (.inr ⟨rfl, k, T, hj10⟩)
set_option maxRecDepth 100000 in
set_option maxHeartbeats 8000000 in
theorem visit_leaf5 (gy gv : Nat) (t : Str) (ht : t.length ≤ 4000000) (nv : Int) (A : Option Addr) (n c : Nat) (l : Nat) (J Jx : Nat → (Nat → Prop) → World → Prop) (S : Nat → Prop) (W : World) (n0 : Nat) (hn0 : n0 ≤ W.heap.size)
  (ky : Blk W gy 79 #[.func (.yield l) #[] #[]]) (hSy : ¬ S gy) (hS : ∀ b, S b → b < W.heap.size)
  (hJ : ∀ k S W1 W2, J k S W1 → Kept n0 S W1 W2 → J k S W2) (hJx : ∀ k S W1 W2, Jx k S W1 → Kept n0 S W1 W2 → Jx k S W2)
  (hY : ∀ k (h : k < (splitS t).length) S W1, J k S W1 → n0 ≤ W1.heap.size → YieldAt Fence.wide 0 Tryz.prog l (encW (Sm.stem (splitS t)[k])) W1 fun e W' => ∃ S', Chg S S' W1 W' ∧ ((e = .returned (.bool true) ∧ J (k + 1) S' W') ∨ (e = .returned (.bool false) ∧ Jx (k + 1) S' W')))
  (h0 : J 0 S W) :
  CallsIn Fence.wide 0 Tryz.prog 67 #[.agg #[.int .i64 5, .string (bs t), .int .i64 nv, .slice A n c], .pointer (some ⟨gy, 0, none⟩), .pointer (some ⟨gv, 0, none⟩)] W (VisitAt (splitS t).length J Jx) := by
 obtain ⟨W1, g1, hW1, hg1, hs1, kq, kr, hal⟩   := boxPairV W #[.int .i64 5, .string (bs t), .int .i64 nv, .slice A n c] 28 #[.bool false] 4
 obtain ⟨q0, q1, q2, q3, _⟩ := kq.fourV
 have hsp := splitSeq_ok t W1
 have HW1 := Lib.hid hW1; have Hg1 := Lib.hid hg1; have Hsp := Lib.hid hsp; have Hkr := Lib.hid kr; have Hal := Lib.hid hal; have HJ := Lib.hid hJ; have HJx := Lib.hid hJx; have HY := Lib.hid hY; have HS := Lib.hid hS; have Hky := Lib.hid (ky.ext hal); have Hkq := Lib.hid kq
 clear hsp kr hal hJ hJx hY hS kq
 refine callsIn_of_wp_marks (F := Fence.wide) (n := 0) Tryz.func67 rfl trivial ((wpIn_wide (n := 0)).2 ?_) rfl
 simp only [Tryz.ntmps67, List.size_toArray, List.length_cons, List.length_nil, Nat.reduceAdd, Nat.reduceSub, Array.replicate_succ, Array.replicate_zero, List.push_toArray, List.append_toArray, List.nil_append, List.cons_append]
 go_wp2_with fail
 clear hW1 hg1
 refine Hsp.out.mono ?_
 clear Hsp q0 q1 q2 q3
 rintro e w3 ⟨g, rfl, hg, hsz3, k0, k1, k2, hb3⟩
 go_wp2
 obtain ⟨g2, hg2⟩ : ∃ g2, g1 + 1 = g2 := ⟨_, rfl⟩
 have hWg : W.heap.size = g1 := Hg1.out
 have hgle : g2 < g := by omega
 have hz3 : g + 3 ≤ w3.heap.size := by omega
 clear hsz3
 rw [hg2]
 have hkr3 := Hkr.out.ext hb3
 rw [hg2] at hkr3
 have hky3 := Hky.out.ext hb3
 have hb13 := Hal.out.trans (hb3.mono Hal.out.size)
 have hgyl : gy < W.heap.size := ky.lt
 have Hb13 := Lib.hid hb13; have Hkr3 := Lib.hid hkr3; have Hky3 := Lib.hid hky3; have Hk0 := Lib.hid (And.intro k0 (And.intro k1 k2))
 clear k0 k1 k2 hb3 hkr3 hky3 hb13
 refine wp_rangeFunc_iterX (X := fun b => b = g) ?_ (spseq_iter g t ht) rfl (enters_of Tryz.func133 (by kernel_rfl) rfl) (fun _ => rfl)
  (fun k => InV gy g2 g (.func (.yield l) #[] #[]) false (J k)) (fun c k U V => c = .ret ∧ InV gy g2 g (.func (.yield l) #[] #[]) false (Jx k) U V) (fun b => S b ∨ b = g2) ?_ ?_ ?_ ?_ ?_
  (fun x => { tmps := #[.agg #[.int .i64 5, .string (bs t), .int .i64 nv, .slice A n c], .pointer (some ⟨gy, 0, none⟩), .pointer (some ⟨gv, 0, none⟩), .pointer (some ⟨g1, 0, none⟩), .pointer (some ⟨g2, 0, none⟩), .string (bs x),
   undef, undef, .pointer (some ⟨g1, 0, none⟩), .int .i64 5, .bool true, .bool false, .bool false, .bool true, .pointer (some ⟨g1, 1, none⟩), .string (bs t),
   .func (.func 133) #[] #[.pointer (some ⟨g + 1, 0, none⟩), .pointer (some ⟨g, 0, none⟩), .pointer (some ⟨g + 2, 0, none⟩)],
   .string (bs x), undef, undef, undef, undef, undef, undef, undef, undef, undef, undef, undef, undef, undef, undef, undef, undef, undef, undef, undef, undef], defers := [] }) ?_ ?_ ?_ ?_
 ·rintro b rfl; omega
 ·rintro b (h | h)
  ·have := HS.out b h; omega
  ·omega
 ·intro S' V hS' hbV
  obtain ⟨k0, k1, k2⟩ := Hk0.out
  have hno : ∀ b, g ≤ b → b < g + 3 → ¬ S' b := fun b h1 h2 h => by
   rcases hS' b h with (h' | h') | h'
   ·have := HS.out b h'; omega
   ·omega
   ·omega
  exact ⟨k0.ext hbV, hno _ (by omega) (by omega), k1.ext hbV, hno _ (by omega) (by omega), k2.ext hbV, hno _ (by omega) (by omega)⟩
 ·intro k U V V' h hk
  exact h.kept (HJ.out k) (n0 := n0) (by omega) (by omega) (by omega) (by omega) (by omega) (by omega) hk
 ·rintro c k U V V' ⟨hc, h⟩ hk
  exact ⟨hc, h.kept (HJx.out k) (n0 := n0) (by omega) (by omega) (by omega) (by omega) (by omega) (by omega) hk⟩
 ·refine ⟨S, fun b => Iff.rfl, HJ.out _ _ _ _ h0 (Kept.of_below Hb13.out), Hky3.out, hSy, Hkr3.out, fun h => ?_, fun h => ?_, fun b hb => ?_⟩
  ·have := HS.out _ h; omega
  ·have := HS.out _ h; omega
  ·have := HS.out _ hb; have := Hb13.out.size; omega
 ·intro l' x V K hK
  simp only [encW]
  gi_wp2_with (rw [Oper.semAt_eq _ _ _ (fun c h => by cases h)]; go_simp)
  exact hK
 ·rintro l' k hk U V ⟨T, hU, hj, ky2, hTy, kr2, hT2, hTg, hTl⟩ hlt hsz
  have hF1 : Fence.wide.fn 69 := trivial
  have hF3 : Fence.wide.depth = none := rfl
  have hF4 : (Fence.wide.inRound l').round = some l' := rfl
  obtain ⟨y0, y1, _⟩ := ky2.one
  obtain ⟨p, hp⟩ : ∃ p, (splitS t)[k] = p := ⟨_, rfl⟩
  have hpl : p.length ≤ maxLen := by
   have := (splitS_mem t p (by rw [← hp]; exact List.getElem_mem hk)).2
   unfold maxLen; omega
  have hof := fun V' => of_ok p hpl V'
  have hy := fun (V' : World) (hb : Below V.heap.size V V') => HY.out k hk T V' (HJ.out _ _ _ _ hj (Kept.of_below hb)) (by have := hb.size; omega)
  simp only [hp] at hy
  rw [hp]
  obtain ⟨q, hq⟩ : ∃ q, Sm.stem p = q := ⟨_, rfl⟩
  rw [hq] at hof hy
  have Hof := Lib.hid hof; have Hy := Lib.hid hy; have Hky2 := Lib.hid ky2
  clear hof hy hq hp hpl
  gi_wp2_with (rw [Oper.semAt_eq _ _ _ (fun c h => by cases h)]; go_simp)
  gi_region_with (first
   | (gi_at_call 69; go_loud (have hcd := CallsIn.inRound l' ((callsIn_wide (n := 0)).2 (Hof.out V.drew)); refine hcd.mono ?_; clear hcd; rintro e w5 ⟨rfl, hb5⟩; have hb05 : Below V.heap.size V w5 := (Below.refl V.heap.size V).drew.trans hb5; obtain ⟨fn, tmps, assign, body, hyy, hRR⟩ := Hy.out w5 hb05; dsimp only [encW] at hyy; obtain ⟨y2, y3, _⟩ := (Hky2.out.ext hb05).one))
   | (refine hRR.mono ?_; rintro e w6 ⟨T', hchg, hor4⟩; obtain ⟨tt, rfl⟩ : ∃ tt, e = .returned (.bool tt) := hor4.elim (fun h => ⟨_, h.1⟩) (fun h => ⟨_, h.1⟩); have Hor4 := Lib.hid hor4; clear hor4)
   | (rw [Oper.semAt_eq _ _ _ (fun c h => by cases h)]; go_simp))
  all_goals
   have hcU : Chg U (fun b => T' b ∨ b = g2) V w6 := by
    refine ⟨hchg.os.trans hb05.os, hchg.tape.trans hb05.tape, hchg.output.trans hb05.output, Nat.le_trans hb05.size hchg.size, fun b hb hn => ?_, fun b hb => ?_⟩
    ·exact (hchg.same b (Nat.lt_of_lt_of_le hb hb05.size) fun h => hn ((hU b).2 (.inl h))).trans (hb05.block b hb)
    ·rcases hb with h | h
     ·obtain ⟨h1, h2⟩ := hchg.own b h
      refine ⟨h1, h2.elim (fun h => .inl ((hU b).2 (.inl h))) fun h => .inr (Nat.le_trans hb05.size h)⟩
     ·rw [h]
      exact ⟨Nat.lt_of_lt_of_le kr2.lt (Nat.le_trans hb05.size hchg.size), .inl ((hU g2).2 (.inr rfl))⟩
   obtain ⟨ky6, hTy6⟩ := (Hky2.out.ext hb05).chg hTy hchg
   obtain ⟨kr6, hTr6⟩ := (kr2.ext hb05).chg hT2 hchg
   have hTg6 : ¬ T' g := fun h => (hchg.own g h).2.elim hTg fun h => by have := hb05.size; omega
   have HcU := Lib.hid hcU; have Hky6 := Lib.hid ky6; have Hkr6 := Lib.hid kr6
   clear hyy hRR y0 y1 y2 y3 hcU ky6 kr6 ky2 kr2 hj hb5
   obtain ⟨z0, z1, z2⟩ := Hkr6.out.one
   cases tt with
   | true =>
    have hj6 : J (k + 1) T' w6 := Hor4.out.elim (fun h => h.2) (fun h => by cases h.1)
    gi_wp2_with (rw [Oper.semAt_eq _ _ _ (fun c h => by cases h)]; go_simp)
    exact ⟨_, HcU.out, T', fun b => Iff.rfl, hj6, Hky6.out, hTy6, Hkr6.out, hTr6, hTg6, fun b hb => (hchg.own b hb).1⟩
   | false =>
    have hx6 : Jx (k + 1) T' w6 := Hor4.out.elim (fun h => by cases h.1) (fun h => h.2)
    gi_wp2_with (rw [Oper.semAt_eq _ _ _ (fun c h => by cases h)]; go_simp)
    have hs6 : (w6.setCell ⟨g2, 0, none⟩ (.bool false)).heap.size = w6.heap.size := by simp
    have hne : ∀ b, b ≠ g2 → (w6.setCell ⟨g2, 0, none⟩ (.bool false)).heap[b]? = w6.heap[b]? := fun b hb => Below.heap_setCell _ _ _ _ hb
    refine ⟨fun b => T' b ∨ b = g2, ⟨HcU.out.os, HcU.out.tape, HcU.out.output, by rw [hs6]; exact HcU.out.size, fun b hb hn => (hne b fun e => hn ((hU b).2 (.inr e))).trans (HcU.out.same b hb hn), fun b hb => by rw [hs6]; exact HcU.out.own b hb⟩, rfl, T', fun b => Iff.rfl, ?_, Hky6.out.keep (hne gy (by omega)), hTy6, ?_, hTr6, hTg6, fun b hb => by rw [hs6]; exact (hchg.own b hb).1⟩
    ·exact HJx.out _ _ _ _ hx6 ⟨rfl, rfl, rfl, by rw [hs6]; exact Nat.le_refl _, fun b hb ho => hne b fun e => by
      rcases ho with h | h
      ·omega
      ·exact hTr6 (e ▸ h)⟩
    ·have := Hkr6.out.set_ 0 (.bool false)
     simpa using this
 ·rintro D U V hD hUD ⟨T, hU, hj, ky2, hTy, kr2, hT2, hTg, hTl⟩ hWD
  obtain ⟨z0, z1, z2⟩ := kr2.one
  have hDg : D ≠ g2 := fun e => hUD ((hU D).2 (.inr e))
  have hTD : ¬ T D := fun h => hUD ((hU D).2 (.inl h))
  have Hkr2 := Lib.hid kr2
  clear kr2 ky2
  go_wp2
  have hne : ∀ b, b ≠ g2 → (V.setCell ⟨g2, 0, none⟩ (.bool true)).heap[b]? = V.heap[b]? := fun b hb => Below.heap_setCell _ _ _ _ hb
  have k9 : Blk (V.setCell ⟨g2, 0, none⟩ (.bool true)) g2 4 #[.bool true] := by
   have := Hkr2.out.set_ 0 (.bool true)
   simpa using this
  have hs9 : (V.setCell ⟨g2, 0, none⟩ (.bool true)).heap.size = V.heap.size := by simp
  obtain ⟨V9, hV9⟩ : ∃ V9, V.setCell ⟨g2, 0, none⟩ (.bool true) = V9 := ⟨_, rfl⟩
  rw [hV9] at hne k9 hs9 ⊢
  have hj9 : J (splitS t).length T V9 := HJ.out _ _ _ _ hj (by rw [← hV9]; exact ⟨rfl, rfl, rfl, by simp, fun b hb ho => Below.heap_setCell _ _ _ _ fun (e : b = g2) => by
   rcases ho with h | h
   ·omega
   ·exact hT2 (e ▸ h)⟩)
  have hj10 := HJ.out _ _ _ _ hj9 (Kept.putObj (r := D) (o := .deferred none) (by omega) hTD)
  have k10 : Blk (V9.putObj D (.deferred none)) g2 4 #[.bool true] := k9.keep (World.putObj_heap_other hDg.symm)
  obtain ⟨c0, _, _⟩ := k10.one
  exact bodyPostM_one ((hne D hDg).trans hWD) (v := .bool true) (by simp [results, Tryz.results67, go_sem, c0]) (.inl ⟨rfl, T, hj10⟩)
 ·rintro D c' k U V hD hUD ⟨rfl, T, hU, hj, ky2, hTy, kr2, hT2, hTg, hTl⟩ hWD
  have hDg : D ≠ g2 := fun e => hUD ((hU D).2 (.inr e))
  have hTD : ¬ T D := fun h => hUD ((hU D).2 (.inl h))
  have hj10 := HJx.out _ _ _ _ hj (Kept.putObj (r := D) (o := .deferred none) (by omega) hTD)
  have k10 : Blk (V.putObj D (.deferred none)) g2 4 #[.bool false] := kr2.keep (World.putObj_heap_other hDg.symm)
  obtain ⟨c0, _, _⟩ := k10.one
  clear k10 kr2 ky2
  go_wp2
  exact bodyPostM_one hWD (v := .bool false) (by simp [results, Tryz.results67, go_sem, c0]) (.inr ⟨rfl, k, T, hj10⟩)
end Go.Proofs.YtnlhocbaighedaaGreatDoor
namespace Go.Proofs.YtnlhocbaighedaaGreatDoor
open Go.RowKit
set_option linter.unusedVariables false
theorem SlR.chgB {α : Type} {C : Codec α} {B : Nat} {S S' : Nat → Prop} {w w' : World} {v : Value} {l : List α} (h : SlR C (fun b => S b ∨ B ≤ b) w v l) (hc : Chg S S' w w') : SlR C (fun b => S' b ∨ B ≤ b) w' v l :=
 ((h.sub (M' := fun b => S b ∨ S' b ∨ B ≤ b) fun b hb hor => hor.elim .inl fun h' => h'.elim (fun h' => (hc.own b h').2.elim .inl fun h2 => by omega) .inr).keep (fun b hb hn => hc.same b hb fun h' => hn (.inl h')) hc.size).sub fun _ _ h' => .inr h'
theorem QAt.subR {f : Nat} {M M' : Nat → Prop} {w : World} {v : Value} {q : Q} (h : QAt f M w v q) (hm : ∀ b, b < w.heap.size → M' b → M b) : QAt f M' w v q := by
 obtain ⟨A, c, e, h1, h2, h3, hv⟩ := h
 exact ⟨A, c, e, h1, h2, h3, hv.sub hm⟩
/-- what visit does with a query that yields xs -/
def VisitC (q : Q) (f : Nat) (xs : List Str) : Prop :=
 ∀ (v : Value) (gy gv l : Nat) (J Jx : Nat → (Nat → Prop) → World → Prop) (S : Nat → Prop) (W : World) (n0 : Nat), n0 ≤ W.heap.size →
  Blk W gy 79 #[.func (.yield l) #[] #[]] → ¬ S gy → Blk W gv 103 #[.func (.func 67) #[] #[.pointer (some ⟨gy, 0, none⟩), .pointer (some ⟨gv, 0, none⟩)]] → ¬ S gv →
  QAt f S W v q → (∀ b, S b → b < W.heap.size) →
  (∀ k S W1 W2, J k S W1 → Kept n0 S W1 W2 → J k S W2) → (∀ k S W1 W2, Jx k S W1 → Kept n0 S W1 W2 → Jx k S W2) →
  (∀ k (h : k < xs.length) S W1, J k S W1 → n0 ≤ W1.heap.size → YieldAt Fence.wide 0 Tryz.prog l (encW xs[k]) W1 fun e W' => ∃ S', Chg S S' W1 W' ∧ ((e = .returned (.bool true) ∧ J (k + 1) S' W') ∨ (e = .returned (.bool false) ∧ Jx (k + 1) S' W'))) →
  J 0 S W →
  CallsIn Fence.wide 0 Tryz.prog 67 #[v, .pointer (some ⟨gy, 0, none⟩), .pointer (some ⟨gv, 0, none⟩)] W (VisitAt xs.length J Jx)
/-- what stays while the parts are visited -/
def FrP (gy gv g2 l f B : Nat) (pv : Value) (parts : List Q) (T : Nat → Prop) (V : World) : Prop :=
 SlR (qF f) (fun b => T b ∨ B ≤ b) V pv parts ∧ (Blk V gy 79 #[.func (.yield l) #[] #[]] ∧ ¬ T gy) ∧ (Blk V gv 103 #[.func (.func 67) #[] #[.pointer (some ⟨gy, 0, none⟩), .pointer (some ⟨gv, 0, none⟩)]] ∧ ¬ T gv) ∧ (Blk V g2 4 #[.bool false] ∧ ¬ T g2) ∧ (∀ b, T b → b < V.heap.size) ∧ B ≤ V.heap.size
theorem FrP.ext {gy gv g2 l f B : Nat} {pv : Value} {parts : List Q} {T : Nat → Prop} {V V' : World} (h : FrP gy gv g2 l f B pv parts T V) (hb : Below V.heap.size V V') : FrP gy gv g2 l f B pv parts T V' := by
 obtain ⟨h1, ⟨h2, h3⟩, ⟨h4, h5⟩, ⟨h6, h7⟩, h8, h9⟩ := h
 exact ⟨h1.ext hb, ⟨h2.ext hb, h3⟩, ⟨h4.ext hb, h5⟩, ⟨h6.ext hb, h7⟩, fun b hb' => Nat.lt_of_lt_of_le (h8 b hb') hb.size, Nat.le_trans h9 hb.size⟩
theorem FrP.chg {gy gv g2 l f B : Nat} {pv : Value} {parts : List Q} {T T' : Nat → Prop} {V V' : World} (h : FrP gy gv g2 l f B pv parts T V) (hc : Chg T T' V V') : FrP gy gv g2 l f B pv parts T' V' := by
 obtain ⟨h1, ⟨h2, h3⟩, ⟨h4, h5⟩, ⟨h6, h7⟩, h8, h9⟩ := h
 exact ⟨h1.chgB hc, h2.chg h3 hc, h4.chg h5 hc, h6.chg h7 hc, fun b hb => (hc.own b hb).1, Nat.le_trans h9 hc.size⟩
theorem FrP.kept {gy gv g2 l f B n1 : Nat} {pv : Value} {parts : List Q} {T : Nat → Prop} {V V' : World} (h : FrP gy gv g2 l f B pv parts T V) (hk : Kept n1 T V V') (hB : B ≤ n1) (hy : gy < n1) (hv : gv < n1) (h2 : g2 < n1) : FrP gy gv g2 l f B pv parts T V' := by
 obtain ⟨h1, ⟨h2', h3⟩, ⟨h4, h5⟩, ⟨h6, h7⟩, h8, h9⟩ := h
 refine ⟨?_, ⟨h2'.keep (hk.same _ h2'.lt (.inl hy)), h3⟩, ⟨h4.keep (hk.same _ h4.lt (.inl hv)), h5⟩, ⟨h6.keep (hk.same _ h6.lt (.inl h2)), h7⟩, fun b hb => Nat.lt_of_lt_of_le (h8 b hb) hk.size, Nat.le_trans h9 hk.size⟩
 exact h1.keep (fun b hb hn => hk.same b hb (.inl (by
  rcases Nat.lt_or_ge b B with h | h
  ·omega
  ·exact absurd (.inr h) hn))) hk.size
/-- the words of the parts ahead of part k -/
def offP (sf : Q → List Str) (parts : List Q) (k : Nat) : Nat := ((parts.take k).flatMap sf).length
theorem offP_succ (sf : Q → List Str) (parts : List Q) {k : Nat} (h : k < parts.length) : offP sf parts (k + 1) = offP sf parts k + (sf parts[k]).length := by
 unfold offP
 rw [List.take_succ_eq_append_getElem h, List.flatMap_append, List.length_append]
 simp
theorem offP_at (sf : Q → List Str) (parts : List Q) {k : Nat} (h : k < parts.length) {i : Nat} (hi : i < (sf parts[k]).length) : ∃ h' : offP sf parts k + i < (parts.flatMap sf).length, (parts.flatMap sf)[offP sf parts k + i] = (sf parts[k])[i] := by
 have e : parts.flatMap sf = (parts.take k).flatMap sf ++ (sf parts[k] ++ (parts.drop (k + 1)).flatMap sf) := by
  conv => lhs; rw [← List.take_append_drop k parts, List.flatMap_append, List.drop_eq_getElem_cons h, List.flatMap_cons]
 have hl : offP sf parts k + i < (parts.flatMap sf).length := by
  rw [e]
  simp only [List.length_append]
  show offP sf parts k + i < offP sf parts k + _
  omega
 refine ⟨hl, ?_⟩
 simp only [e]
 rw [List.getElem_append_right (by show offP sf parts k ≤ _; omega)]
 have h2 : offP sf parts k + i - ((parts.take k).flatMap sf).length = i := by show offP sf parts k + i - offP sf parts k = i; omega
 simp only [h2]
 rw [List.getElem_append_left hi]
end Go.Proofs.YtnlhocbaighedaaGreatDoor

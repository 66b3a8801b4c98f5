/-
  Contracts and plain facts, one after another: search.Find; rank.Score; rank.Order: the comparison of two texts; The reference of searching: plain facts.
-/
import Derived.Test.YtnlhocbaighedaaGreatDoorR18
import Derived.Test.YtnlhocbaighedaaGreatDoorR6
import Derived.Test.YtnlhocbaighedaaGreatDoorR13
import Derived.Test.YtnlhocbaighedaaGreatDoorR14
import Derived.Test.YtnlhocbaighedaaGreatDoorR17
import Derived.Test.YtnlhocbaighedaaGreatDoorR10
import Derived.Deep.RegionWith
namespace Go.Proofs.YtnlhocbaighedaaGreatDoor
open Go.RowKit
set_option linter.unusedVariables false
set_option maxHeartbeats 2000000 in
theorem found_ok (A0 A1 A : Option Addr) (n0 c0 n1 c1 m c : Nat) (k n : Int) (t : Str) (w : World) : Calls Tryz.prog 36 #[.agg #[.slice A0 n0 c0, .slice A1 n1 c1], .agg #[.int .i64 k, .string (bs t), .int .i64 n, .slice A m c]] w fun e w' =>
  ∃ g, e = .returned (.func (.func 59) #[] #[.pointer (some ⟨g, 0, none⟩), .pointer (some ⟨g + 1, 0, none⟩)]) ∧ Blk w' g 74 #[.slice A0 n0 c0, .slice A1 n1 c1] ∧ Blk w' (g + 1) 28 #[.int .i64 k, .string (bs t), .int .i64 n, .slice A m c] ∧ Below w.heap.size w w' := by
 obtain ⟨W, g, hW, hg, hs, kF, kQ, hal⟩ := boxPair w #[.slice A0 n0 c0, .slice A1 n1 c1] 74 #[.int .i64 k, .string (bs t), .int .i64 n, .slice A m c] 28
 have HW := Lib.hid hW
 clear hW
 go_enter Tryz.func36, Tryz.ntmps36
 go_wp2_with fail
 rw [HW.out]
 go_ret
 exact ⟨g, rfl, kF, kQ, hal⟩
/-- what Find answers -/
def SFindAt (x : Ix.Idx) (q : Q) (w : World) (e : Ending) (w' : World) : Prop :=
 ∃ (A : Option Addr) (c : Nat) (L : List Int), e = .returned (.tuple #[.slice A L.length c, .agg #[.int .i64 (Sr.findR x q).2.1, .int .i64 (Sr.findR x q).2.2]]) ∧ Hid (L = (Sr.findR x q).1) ∧ Own intC M0 w' w.heap.size 3 (.slice A L.length c) L ∧ Below w.heap.size w w'
theorem pre8 {q : Q} (h : (Q.fault q).1 = 0) {f : Nat} (hf : 8 ≤ f) : ∀ p ∈ Q.pre f q, Q.errOf p = 0 := by
 have hg := Q.fault_zero.1 h
 rw [(pre_up hg.1 hf).1]
 exact hg.2.2
set_option maxRecDepth 100000 in
set_option maxHeartbeats 8000000 in
theorem sfind_ok (a b qv : Value) (x : Ix.Idx) (q : Q) (f : Nat) (w : World) (h0 : SlR intC M0 w a x.1) (h1 : SlR termC M0 w b x.2) (hq0 : QAt f M0 w qv q) (hsz : SzIx x.2) (hbk : q.bulk ≤ 4000000) (hT : TabsU w) :
  Calls Tryz.prog 15 #[.agg #[a, b], qv] w (SFindAt x q w) := by
 have hq := hq0.mono (g := max f 7) (Nat.le_max_left _ _)
 have hf7 : 8 ≤ max f 7 + 1 := by omega
 generalize max f 7 = f at hq hf7
 have hqv := hq
 obtain ⟨A0, c0, rfl, _, _⟩ := h0.form
 obtain ⟨A1, c1, rfl, _, _⟩ := h1.form
 obtain ⟨A, c, rfl, _, htm, _, hv⟩ := hq
 obtain ⟨W, g, hW, hg, hs, kX, kQ, kR, hal⟩ := box3 w #[.slice A0 x.1.length c0, .slice A1 x.2.length c1] #[.int .i64 q.kind, .string (bs q.text), .int .i64 q.num, .slice A q.parts.length c] #[.int .i64 0, .int .i64 0] 25 28 30
 have hval := validate_ok (.slice A0 x.1.length c0) (.slice A1 x.2.length c1) x.1 x.2 W (h0.ext hal) (h1.ext hal) hsz
 rw [show Ix.indexF (x.1, x.2) = Ix.indexF x from rfl] at hval
 have hres : Sr.findR x q = if (Ix.indexF x).1 ≠ 0 then ([], Ix.indexF x) else if (Q.fault q).1 ≠ 0 then ([], (Q.fault q).1, -5) else (Sr.foundF x q, 0, 0) := rfl
 obtain ⟨⟨fl, ra, rb⟩, hr⟩ : ∃ r, Sr.findR x q = r := ⟨_, rfl⟩
 unfold SFindAt
 rw [hr] at hres ⊢
 dsimp only
 have hcan := Ix.indexF_zero x
 obtain ⟨⟨ia, ib⟩, hia⟩ : ∃ r, Ix.indexF x = r := ⟨_, rfl⟩
 rw [hia] at hval hres hcan
 dsimp only at hval hres hcan
 obtain ⟨n0, hn0⟩ : ∃ n, x.1.length = n := ⟨_, rfl⟩
 obtain ⟨n1, hn1⟩ : ∃ n, x.2.length = n := ⟨_, rfl⟩
 rw [hn0, hn1] at kX hval hW ⊢
 obtain ⟨f0, f1, _, _, _⟩ := kX.two
 have HW := Lib.hid hW; have Hval := Lib.hid hval; have Hres := Lib.hid hres; have Hcan := Lib.hid hcan; have HX := Lib.hid (And.intro h0 (And.intro h1 (And.intro hqv hT)))
 have Hn : Hid (x.1.length = n0 ∧ x.2.length = n1) := Lib.hid ⟨hn0, hn1⟩
 rw [← hW] at f0 f1
 clear hW hval hres hcan h0 h1 hqv hT hn0 hn1 hia hr hq0 hv
 go_enter Tryz.func15, Tryz.ntmps15
 go_wp2_with fail
 rw [HW.out]
 refine Hval.out.mono ?_
 rintro e w2 ⟨rfl, hb2⟩
 obtain ⟨V, g2, hV, hg2, hs2, kV, hbV⟩ := boxA w2 #[.int .i64 ia, .int .i64 ib] 30
 obtain ⟨v0, v1, _, _, _⟩ := kV.two
 have hb02 := hb2.trans (hbV.mono hb2.size)
 have kX2 := kX.ext hb02
 have kQ2 := kQ.ext hb02
 have kR2 := kR.ext hb02
 have hbv := hal.trans (hb02.mono hal.size)
 have HV := Lib.hid hV; have HkX := Lib.hid kX2; have HkQ := Lib.hid kQ2; have HkR := Lib.hid kR2; have Hbv := Lib.hid hbv; have HkV := Lib.hid kV
 rw [← hV] at v0 v1
 clear f0 f1 hV kX kQ kR kX2 kQ2 kR2 hb02 hbv kV hb2 hbV hal
 go_wp2_with fail
 rw [HV.out]
 rw [HV.out] at v0 v1
 refine (failed_ok ia ib _).mono ?_
 rintro e w3 ⟨rfl, hb3⟩
 have hbw3 := Hbv.out.trans (hb3.mono Hbv.out.size)
 have hgw : w.heap.size ≤ g + 1 + 1 := by omega
 by_cases hi : ia = 0
 ·have hi0 : (ia != 0) = false := by simpa using hi
  have hres := Hres.out
  rw [if_neg (by simp [hi])] at hres
  have hx3 := HX.out
  have hvq := qvalidate_ok f q _ w3 (hx3.2.2.1.ext hbw3) hbk (hx3.2.2.2.ext hbw3)
  have hfz : (Q.fault q).1 = 0 → ∀ p ∈ Q.pre (f + 1) q, Q.errOf p = 0 := fun h => pre8 h hf7
  have hup : (Q.fault q).1 = 0 → ∀ id, Sr.findsF (f + 1) x q id = Sr.findsF 8 x q id := fun h id => Sr.finds_up h hf7 x id
  have hff : Sr.foundF x q = x.1.filter fun id => Sr.findsF 8 x q id := rfl
  obtain ⟨⟨qa, qb⟩, hqf⟩ : ∃ r, Q.fault q = r := ⟨_, rfl⟩
  rw [hqf] at hvq hres hfz hup
  dsimp only at hvq hres hfz hup
  obtain ⟨q0, q1, q2, q3, _⟩ := (HkQ.out.ext hb3).four
  have kR3 := HkR.out.ext hb3
  have Hvq := Lib.hid hvq; have Hres2 := Lib.hid hres; have Hfz := Lib.hid hfz; have Hup := Lib.hid hup; have Hff := Lib.hid hff; have HkR3 := Lib.hid kR3
  clear hvq hres hfz hup hff kR3 v0 v1 hx3
  go_wp2_with fail
  refine Hvq.out.mono ?_
  rintro e w4 ⟨rfl, hb4⟩
  obtain ⟨U, g4, hU, hg4, hs4, kU, hbU⟩ := boxA w4 #[.int .i64 qa, .int .i64 qb] 30
  have hbw4 := hbw3.trans ((hb4.trans (hbU.mono hb4.size)).mono hbw3.size)
  have hb34 := hb4.trans (hbU.mono hb4.size)
  have kR4 := HkR3.out.ext hb34
  have kQ4 := (HkQ.out.ext hb3).ext hb34
  have kX4 := (HkX.out.ext hb3).ext hb34
  obtain ⟨u0, u1, _, _, _⟩ := kU.two
  have HU := Lib.hid hU; have HkR4 := Lib.hid kR4; have HkQ4 := Lib.hid kQ4; have HkX4 := Lib.hid kX4; have Hb4 := Lib.hid hbw4; have HkU := Lib.hid kU
  rw [← hU] at u0 u1
  clear q0 q1 q2 q3 hU kR4 kQ4 kX4 hbw4 hb34 kU hb4 hbU hbw3
  go_wp2_with fail
  rw [HU.out]
  refine (failed_ok qa qb _).mono ?_
  rintro e w5 ⟨rfl, hb5⟩
  have hbw5 := Hb4.out.trans (hb5.mono Hb4.out.size)
  have kR5 := HkR4.out.ext hb5
  by_cases hq : qa = 0
  ·have hqn : (qa != 0) = false := by simpa using hq
   have hres := Hres2.out
   rw [if_neg (by simp [hq])] at hres
   injection hres with r1 r2
   injection r2 with r2 r3
   have hcan := Hcan.out.1 hi
   have hx5 := HX.out
   obtain ⟨q0, q1, q2, q3, _⟩ := (HkQ4.out.ext hb5).four
   obtain ⟨y0, y1, _, _, _⟩ := (HkX4.out.ext hb5).two
   have Hr := Lib.hid (And.intro r1 (And.intro r2 r3)); have HkR5 := Lib.hid kR5; have Hb5 := Lib.hid hbw5
   clear u0 u1 r1 r2 r3 kR5 hbw5
   go_wp2_with fail
   refine (found_ok A0 A1 A n0 c0 n1 c1 q.parts.length c q.kind q.num q.text w5).mono ?_
   rintro e w6 ⟨gg, rfl, kF6, kQ6, hb6⟩
   have hbw6 := Hb5.out.trans (hb6.mono Hb5.out.size)
   have hfd : FdAt gg (gg + 1) f (.slice A0 n0 c0) (.slice A1 n1 c1) (.agg #[.int .i64 q.kind, .string (bs q.text), .int .i64 q.num, .slice A q.parts.length c]) #[.int .i64 q.kind, .string (bs q.text), .int .i64 q.num, .slice A q.parts.length c] x q w6 := by
    have e1 := Hn.out.1; have e2 := Hn.out.2
    exact ⟨kF6, kQ6, by rw [← e1]; exact hx5.1.ext hbw6, by rw [← e2]; exact hx5.2.1.ext hbw6, hx5.2.2.1.ext hbw6⟩
   have hcol := collect_ok 59 #[.pointer (some ⟨gg, 0, none⟩), .pointer (some ⟨gg + 1, 0, none⟩)] _ _ (found_iter gg (gg + 1) f A0 A1 A n0 c0 n1 c1 q.parts.length c q.kind q.num q.text x q hcan hbk (Hfz.out hq)) (fun args w => enters_of Tryz.func59 (by kernel_rfl) rfl args w)
    (fun id hid => by have := hcan.idr id (List.mem_filter.1 hid).1; omega) (by have h1 := List.length_filter_le (fun id => Sr.findsF (f + 1) x q id) x.1; have h2 := hcan.few; omega) w6 (fun S' W' hS' hb' => ⟨w6, hfd, hb', hS'⟩)
   have hl : (x.1.filter fun id => Sr.findsF (f + 1) x q id) = fl := by
    rw [Hr.out.1, Hff.out]
    exact List.filter_congr fun id _ => Hup.out hq id
   rw [hl] at hcol
   have Hcol := Lib.hid hcol; have HkR6 := Lib.hid (HkR5.out.ext hb6); have Hb6 := Lib.hid hbw6
   clear hcol hl hfd kF6 kQ6 hbw6 hcan hx5 hb6 q0 q1 q2 q3 y0 y1
   go_wp2_with fail
   refine Hcol.out.mono ?_
   rintro e w7 ⟨A7, c7, L, rfl, hL, hown, hb7⟩
   have kR7 := HkR6.out.ext hb7
   have hbw7 := Hb6.out.trans (hb7.mono Hb6.out.size)
   go_wp2_with fail
   refine (none_ok _).mono ?_
   rintro e w8 ⟨rfl, hb8⟩
   have kR8 := kR7.ext hb8
   have hbw8 := hbw7.trans (hb8.mono hbw7.size)
   obtain ⟨z0, z1, z2, z3, _⟩ := kR8.two
   have hown8 := hown.ext hb8
   have hlow : w.heap.size ≤ w6.heap.size := Hb6.out.size
   have hgl := HkR6.out.lt
   clear hown
   go_wp2_with fail
   obtain ⟨e0, e1⟩ := kR8.put2 (.int .i64 0) (.int .i64 0)
   have h1 := Hr.out.2.1; have h2 := Hr.out.2.2
   refine bodyPost_ret (v := .tuple #[.slice A7 L.length c7, .agg #[.int .i64 0, .int .i64 0]]) (by simp [results, Tryz.results15, go_sem, e0, e1]) rfl ⟨A7, c7, L, by rw [h1, h2], hL, ?_, below_set2 hbw8 hgw _ _⟩
   exact (hown8.flatC flatC_int (fun b hb => by have hx := hown8.base b hb; exact (Below.heap_setCell _ _ _ _ (by show b ≠ g + 1 + 1; omega)).trans (Below.heap_setCell _ _ _ _ (by show b ≠ g + 1 + 1; omega)))).weak (by omega) (fun _ h => h)
  ·have hqn : (qa != 0) = true := by simpa using hq
   have hres := Hres2.out
   rw [if_pos hq] at hres
   injection hres with r1 r2
   injection r2 with r2 r3
   obtain ⟨y0, y1, _, _, _⟩ := (HkU.out.ext hb5).two
   have Hr := Lib.hid (And.intro r1 (And.intro r2 r3)); have HkR5 := Lib.hid kR5; have Hb5 := Lib.hid hbw5
   clear u0 u1 r1 r2 r3 kR5 hbw5
   go_wp2_with fail
   refine (fault_ok qa (-5) _).mono ?_
   rintro e w6 ⟨rfl, hb6⟩
   have kR6 := HkR5.out.ext hb6
   have hbw6 := Hb5.out.trans (hb6.mono Hb5.out.size)
   obtain ⟨z0, z1, z2, z3, _⟩ := kR6.two
   clear y0 y1
   go_wp2_with fail
   obtain ⟨e0, e1⟩ := kR6.put2 (.int .i64 qa) (.int .i64 (-5))
   have h1 := Hr.out.2.1; have h2 := Hr.out.2.2
   exact bodyPost_ret (v := .tuple #[.slice none 0 0, .agg #[.int .i64 qa, .int .i64 (-5)]]) (by simp [results, Tryz.results15, go_sem, e0, e1]) rfl ⟨none, 0, [], by rw [h1, h2]; rfl, Lib.hid Hr.out.1.symm, Own.nil _ _ _ _ _, below_set2 hbw6 hgw _ _⟩
 ·have hi0 : (ia != 0) = true := by simpa using hi
  have hres := Hres.out
  rw [if_pos hi] at hres
  injection hres with r1 r2
  injection r2 with r2 r3
  have Hr := Lib.hid (And.intro r1 (And.intro r2 r3))
  have kR3 := HkR.out.ext hb3
  obtain ⟨y0, y1, _, _, _⟩ := (HkV.out.ext hb3).two
  obtain ⟨z0, z1, z2, z3, _⟩ := kR3.two
  clear v0 v1 r1 r2 r3
  go_wp2_with fail
  go_region
  obtain ⟨e0, e1⟩ := kR3.put2 (.int .i64 ia) (.int .i64 ib)
  obtain ⟨W9, hW9⟩ : ∃ W9, (w3.setCell ⟨g + 1 + 1, 0, none⟩ (.int .i64 ia)).setCell ⟨g + 1 + 1, 1, none⟩ (.int .i64 ib) = W9 := ⟨_, rfl⟩
  have hbw9 : Below w.heap.size w W9 := by rw [← hW9]; exact below_set2 hbw3 hgw _ _
  rw [hW9] at e0 e1 ⊢
  go_wp2_with fail
  have h1 := Hr.out.2.1; have h2 := Hr.out.2.2
  have e0' : W9.drew.cell? ⟨g + 1 + 1, 0, none⟩ = some (.int .i64 ia) := e0
  have e1' : W9.drew.cell? ⟨g + 1 + 1, 1, none⟩ = some (.int .i64 ib) := e1
  exact bodyPost_ret (v := .tuple #[.slice none 0 0, .agg #[.int .i64 ia, .int .i64 ib]]) (by simp [results, Tryz.results15, go_sem, e0', e1']) rfl ⟨none, 0, [], by rw [h1, h2]; rfl, Lib.hid Hr.out.1.symm, Own.nil _ _ _ _ _, below_drew hbw9⟩
end Go.Proofs.YtnlhocbaighedaaGreatDoor
namespace Go.Proofs.YtnlhocbaighedaaGreatDoor
open Go.RowKit
set_option linter.unusedVariables false
namespace Rk
/-- what rank.Score answers: the score and the fault -/
def scoreR (x : Ix.Idx) (q : Q) (xs : List Str) (id : Int) : Int × Int × Int :=
 if (Sr.findR x q).2.1 ≠ 0 then (0, (Sr.findR x q).2) else if x.1.contains id then (scoreF x (countF xs) id, 0, 0) else (0, 6, -3)
theorem countF_len (xs : List Str) : (countF xs).length ≤ xs.length := by
 unfold countF
 exact Nat.le_trans (compact_len _) (by rw [sort_len]; exact Nat.le_refl _)
end Rk
set_option maxRecDepth 100000 in
set_option maxHeartbeats 8000000 in
theorem rankScore_ok (a b qv : Value) (x : Ix.Idx) (q : Q) (f : Nat) (xs : List Str) (id : Int) (w : World) (h0 : SlR intC M0 w a x.1) (h1 : SlR termC M0 w b x.2) (hq : QAt f M0 w qv q) (hcan : (Sr.findR x q).2.1 = 0 → Ix.Canon x) (hsz : SzIx x.2) (hbk : q.bulk ≤ 4000000) (hT : TabsU w)
  (hit : ∀ V cs, Below w.heap.size w V → qv = .agg cs → StemsIt cs xs V) (hx : ∀ s ∈ xs, s.length ≤ maxLen) (hn : xs.length ≤ 2000000) :
  Calls Tryz.prog 6 #[.agg #[a, b], qv, .int .i64 id] w fun e w' => e = .returned (.tuple #[.int .i64 (Rk.scoreR x q xs id).1, .agg #[.int .i64 (Rk.scoreR x q xs id).2.1, .int .i64 (Rk.scoreR x q xs id).2.2]]) ∧ Below w.heap.size w w' := by
 obtain ⟨A0, c0, rfl, _, _⟩ := h0.form
 obtain ⟨A1, c1, rfl, _, _⟩ := h1.form
 have hq' := hq
 obtain ⟨A, c, rfl, _, _, _, _⟩ := hq'
 obtain ⟨W, g, hW, hg, hs, kX, kQ, kF, hal⟩ := box3 w #[.slice A0 x.1.length c0, .slice A1 x.2.length c1] #[.int .i64 q.kind, .string (bs q.text), .int .i64 q.num, .slice A q.parts.length c] #[.int .i64 0, .int .i64 0] 25 28 30
 have hfd := sfind_ok (.slice A0 x.1.length c0) (.slice A1 x.2.length c1) _ x q f W (h0.ext hal) (h1.ext hal) (hq.ext hal) hsz hbk (hT.ext hal)
 have hcn := fun V (hb : Below w.heap.size w V) => counted_ok (.int .i64 q.kind) (.string (bs q.text)) (.int .i64 q.num) (.slice A q.parts.length c) xs V (hit V _ hb rfl) hx (by omega)
 have hsc := fun (hc0 : (Sr.findR x q).2.1 = 0) V v (hb : Below w.heap.size w V) (hv : SlR strC M0 V v (Rk.countF xs)) => rscore_ok (.slice A0 x.1.length c0) (.slice A1 x.2.length c1) x v (Rk.countF xs) id V (h0.ext hb) (h1.ext hb) hv (hcan hc0) (Nat.le_trans (Rk.countF_len xs) hn)
 have hct := fun V (hb : Below w.heap.size w V) => contInt_ok x.1 (.slice A0 x.1.length c0) id V (h0.ext hb)
 obtain ⟨fa, hfa⟩ : ∃ y, (Sr.findR x q).2.1 = y := ⟨_, rfl⟩
 obtain ⟨fb, hfb⟩ : ∃ y, (Sr.findR x q).2.2 = y := ⟨_, rfl⟩
 obtain ⟨R, hR⟩ : ∃ R, Rk.scoreR x q xs id = R := ⟨_, rfl⟩
 unfold SFindAt at hfd
 rw [hfa, hfb] at hfd
 rw [hR]
 have hRe := hR
 unfold Rk.scoreR at hRe
 obtain ⟨F, hF⟩ : ∃ F, (Sr.findR x q) = F := ⟨_, rfl⟩
 rw [hF] at hfd hfa hfb hRe hsc
 obtain ⟨kn, hkn⟩ : ∃ k, q.kind = k := ⟨_, rfl⟩
 obtain ⟨tx, htx⟩ : ∃ k, bs q.text = k := ⟨_, rfl⟩
 obtain ⟨nm, hnm⟩ : ∃ k, q.num = k := ⟨_, rfl⟩
 obtain ⟨pl, hpl⟩ : ∃ k, q.parts.length = k := ⟨_, rfl⟩
 obtain ⟨xl, hxl⟩ : ∃ k, x.1.length = k := ⟨_, rfl⟩
 obtain ⟨tl, htl⟩ : ∃ k, x.2.length = k := ⟨_, rfl⟩
 rw [hkn, htx, hnm, hpl] at hfd hcn hW kQ ⊢
 rw [hxl, htl] at hfd hsc hW kX ⊢
 rw [hxl] at hct
 obtain ⟨q0, q1, q2, q3, _⟩ := kQ.fourV
 obtain ⟨x0, x1, _⟩ := kX.two
 have HW := Lib.hid hW; have Hfd := Lib.hid hfd; have Hcn := Lib.hid hcn; have Hsc := Lib.hid hsc; have Hct := Lib.hid hct; have HRe := Lib.hid hRe; have Hfa := Lib.hid hfa; have Hfb := Lib.hid hfb
 have HX := Lib.hid kX; have HQ := Lib.hid kQ; have HF := Lib.hid kF; have Hal := Lib.hid hal
 have hgw : w.heap.size ≤ g := by omega
 clear hW hs kX kQ kF hal hfd hcn hsc hct hRe hfa hfb hF hR h0 h1 hq hit hkn htx hnm hpl hxl htl hx hn hcan hsz hbk hT
 go_enter Tryz.func6, Tryz.ntmps6
 go_wp2_with fail
 rw [HW.out]
 refine Hfd.out.mono ?_
 clear Hfd q0 q1 q2 q3 x0 x1
 rintro e w3 ⟨A3, c3, L, rfl, hL, hown, hb3⟩
 obtain ⟨U, gu, hU, hgu, hsu, kU, halU⟩ := boxA w3 #[.int .i64 fa, .int .i64 fb] 30
 have hbWU := hb3.trans (halU.mono hb3.size)
 obtain ⟨i0, i1, _⟩ := kU.two
 have HU := Lib.hid hU; have HkU := Lib.hid kU; have HbWU := Lib.hid hbWU
 clear hL hown hb3 halU hbWU kU hsu hU
 go_wp2_with fail
 rw [HU.out]
 refine (failed_ok fa fb U).mono ?_
 rintro e w4 ⟨rfl, hb4⟩
 have hbW4 := HbWU.out.trans (hb4.mono HbWU.out.size)
 have hb04 := Hal.out.trans (hbW4.mono Hal.out.size)
 have kX4 := HX.out.ext hbW4
 have kQ4 := HQ.out.ext hbW4
 have kF4 := HF.out.ext hbW4
 clear i0 i1
 obtain ⟨i0, i1, _⟩ := (HkU.out.ext hb4).two
 obtain ⟨x0, x1, _⟩ := kX4.two
 obtain ⟨q0, q1, q2, q3, _⟩ := kQ4.fourV
 obtain ⟨y0, y1, y2, y3, _⟩ := kF4.two
 have HX4 := Lib.hid kX4; have HQ4 := Lib.hid kQ4; have HF4 := Lib.hid kF4; have Hb04 := Lib.hid hb04; have HU4 := Lib.hid (HkU.out.ext hb4)
 clear kX4 kQ4 kF4 hbW4 hb04 hb4 hgu
 by_cases hf0 : fa = 0
 ·subst hf0
  have hcond : ((0 : Int) != 0) = false := rfl
  have hct := Hct.out w4 Hb04.out
  obtain ⟨B, hB⟩ : ∃ B, x.1.contains id = B := ⟨_, rfl⟩
  rw [hB] at hct
  have Hct4 := Lib.hid hct; have HB := Lib.hid hB
  clear hct hB
  go_wp2_with fail
  refine Hct4.out.mono ?_
  rintro e w5 ⟨rfl, rfl⟩
  cases B with
  | false =>
   go_wp2_with fail
   refine (fault_ok _ _ _).mono ?_
   clear i0 i1 x0 x1 q0 q1 q2 q3 y0 y1 y2 y3
   rintro e w6 ⟨rfl, hb6⟩
   have kF6 := HF4.out.ext hb6
   obtain ⟨y0, y1, y2, y3, _⟩ := kF6.two
   have Hb6 := Lib.hid (Hb04.out.trans (hb6.mono Hb04.out.size)); have HF6 := Lib.hid kF6
   clear kF6 hb6
   go_wp2_with fail
   obtain ⟨V, hV⟩ : ∃ V, (w6.setCell ⟨g + 1 + 1, 0, none⟩ (.int .i64 6)).setCell ⟨g + 1 + 1, 1, none⟩ (.int .i64 (-3)) = V := ⟨_, rfl⟩
   have k9 : Blk V (g + 1 + 1) 30 #[.int .i64 6, .int .i64 (-3)] := by
    rw [← hV]; simpa using (HF6.out.set_ 0 (.int .i64 6)).set_ 1 (.int .i64 (-3))
   have hb9 : Below w.heap.size w V := by
    rw [← hV]; exact (Hb6.out.setCell (p := ⟨g + 1 + 1, 0, none⟩) (by show w.heap.size ≤ g + 1 + 1; omega) _).setCell (p := ⟨g + 1 + 1, 1, none⟩) (by show w.heap.size ≤ g + 1 + 1; omega) _
   rw [hV]
   obtain ⟨t0, t1, _⟩ := k9.two
   have hRR := HRe.out
   rw [Hfa.out, HB.out, if_neg (by simp), if_neg (by simp)] at hRR
   subst hRR
   exact bodyPost_ret (v := .tuple #[.int .i64 0, .agg #[.int .i64 6, .int .i64 (-3)]]) (by simp [results, Tryz.results6, go_sem, t0, t1]) rfl ⟨rfl, hb9⟩
  | true =>
   go_wp2_with fail
   have hbd : Below w5.heap.size w5 w5.drew := (Below.refl _ _).drew
   obtain ⟨x0, x1, _⟩ := (HX4.out.ext hbd).two
   obtain ⟨q0, q1, q2, q3, _⟩ := (HQ4.out.ext hbd).fourV
   have Hcnd := Lib.hid (Hcn.out w5.drew (Hb04.out.trans (hbd.mono Hb04.out.size)))
   clear i0 i1 hbd y0 y1 y2 y3
   go_region_with (first
    | (go_at_call 23; refine Hcnd.out.mono ?_; rintro e w6 ⟨v, rfl, hown, hb6⟩; obtain ⟨A2, c2, hv2, _, _⟩ := hown.read0.form; subst hv2; have hb56 : Below w5.heap.size w5 w6 := (Below.refl w5.heap.size w5).drew.trans hb6; obtain ⟨x2, x3, _⟩ := (HX4.out.ext hb56).two; have Hb06 := Lib.hid (Hb04.out.trans (hb56.mono Hb04.out.size)); have Hsc6 := Lib.hid (Hsc.out Hfa.out w6 _ Hb06.out hown.read0); have HF6 := Lib.hid (HF4.out.ext hb56); clear hown hb6 hb56)
    | (go_at_call 22; refine Hsc6.out.mono ?_; rintro e w7 ⟨rfl, hb7⟩)
    | (go_at_call 24; refine (none_ok _).mono ?_; rintro e w8 ⟨rfl, hb8⟩; have hb08 := Hb06.out.trans ((hb7.mono Hb06.out.size).trans (hb8.mono (Nat.le_trans Hb06.out.size hb7.size))); have kF8 := (HF6.out.ext hb7).ext hb8; obtain ⟨y0, y1, y2, y3, _⟩ := kF8.two))
   all_goals
    have HF8 := Lib.hid kF8; have Hb08 := Lib.hid hb08
    clear kF8 hb08 hb7 hb8
    go_wp2_with fail
    obtain ⟨V, hV⟩ : ∃ V, (w8.setCell ⟨g + 1 + 1, 0, none⟩ (.int .i64 0)).setCell ⟨g + 1 + 1, 1, none⟩ (.int .i64 0) = V := ⟨_, rfl⟩
    have k9 : Blk V (g + 1 + 1) 30 #[.int .i64 0, .int .i64 0] := by
     rw [← hV]; simpa using (HF8.out.set_ 0 (.int .i64 0)).set_ 1 (.int .i64 0)
    have hb9 : Below w.heap.size w V := by
     rw [← hV]; exact (Hb08.out.setCell (p := ⟨g + 1 + 1, 0, none⟩) (by show w.heap.size ≤ g + 1 + 1; omega) _).setCell (p := ⟨g + 1 + 1, 1, none⟩) (by show w.heap.size ≤ g + 1 + 1; omega) _
    rw [hV]
    obtain ⟨t0, t1, _⟩ := k9.two
    have hRR := HRe.out
    rw [Hfa.out, HB.out, if_neg (by simp), if_pos rfl] at hRR
    subst hRR
    exact bodyPost_ret (v := .tuple #[.int .i64 (Rk.scoreF x (Rk.countF xs) id), .agg #[.int .i64 0, .int .i64 0]]) (by simp [results, Tryz.results6, go_sem, t0, t1]) rfl ⟨rfl, hb9⟩
 ·have hcond : (fa != 0) = true := by simpa using hf0
  have Hf0 := Lib.hid hf0
  clear hf0
  go_wp2_with fail
  go_region
  go_wp2_with fail
  obtain ⟨V, hV⟩ : ∃ V, (w4.setCell ⟨g + 1 + 1, 0, none⟩ (.int .i64 fa)).setCell ⟨g + 1 + 1, 1, none⟩ (.int .i64 fb) = V := ⟨_, rfl⟩
  have k9 : Blk V (g + 1 + 1) 30 #[.int .i64 fa, .int .i64 fb] := by
   rw [← hV]; simpa using (HF4.out.set_ 0 (.int .i64 fa)).set_ 1 (.int .i64 fb)
  have hb9 : Below w.heap.size w V := by
   rw [← hV]; exact (Hb04.out.setCell (p := ⟨g + 1 + 1, 0, none⟩) (by show w.heap.size ≤ g + 1 + 1; omega) _).setCell (p := ⟨g + 1 + 1, 1, none⟩) (by show w.heap.size ≤ g + 1 + 1; omega) _
  rw [hV]
  obtain ⟨t0, t1, _⟩ := k9.two
  have hRR := HRe.out
  rw [Hfa.out, if_pos Hf0.out] at hRR
  subst hRR
  exact bodyPost_ret (v := .tuple #[.int .i64 0, .agg #[.int .i64 fa, .int .i64 fb]]) (by simp [results, Tryz.results6, go_sem, t0, t1]) rfl ⟨by rw [Hfa.out, Hfb.out], hb9.drew⟩
end Go.Proofs.YtnlhocbaighedaaGreatDoor
namespace Go.Proofs.YtnlhocbaighedaaGreatDoor
open Go.RowKit
set_option linter.unusedVariables false
namespace Rk
theorem term_bound (x : Ix.Idx) (s : Str) (id : Int) (h : x.1.length ≤ 300) : 0 ≤ weight x s * min ((Ix.cont x.2 s id).length : Int) 10 ∧ weight x s * min ((Ix.cont x.2 s id).length : Int) 10 ≤ 3010000 := by
 have h3 := weight_le x.1.length ((Al.look x.2 s).getD []).length h
 unfold weight
 generalize 1000 * ((x.1.length : Int) + 1) / ((((Al.look x.2 s).getD []).length : Int) + 1) = W at h3
 have hm : (0 : Int) ≤ min ((Ix.cont x.2 s id).length : Int) 10 ∧ min ((Ix.cont x.2 s id).length : Int) 10 ≤ 10 := by omega
 generalize min ((Ix.cont x.2 s id).length : Int) 10 = m at hm
 refine ⟨Int.mul_nonneg h3.1 hm.1, ?_⟩
 have h1 : W * m ≤ W * 10 := Int.mul_le_mul_of_nonneg_left hm.2 h3.1
 omega
theorem score_bound (x : Ix.Idx) (h : x.1.length ≤ 300) (id : Int) : ∀ l : List Str, 0 ≤ scoreF x l id ∧ scoreF x l id ≤ (l.length : Int) * 3010000
 | [] => by simp [scoreF]
 | s :: l => by
  have ih := score_bound x h id l
  have h1 := term_bound x s id h
  unfold scoreF at ih ⊢
  rw [List.map_cons, List.sum_cons, List.length_cons]
  omega
end Rk
set_option maxRecDepth 100000 in
set_option maxHeartbeats 8000000 in
theorem ordCmp_ok (a b lv : Value) (x : Ix.Idx) (l : List Str) (gx gl : Nat) (hcan : Ix.Canon x) (hln : l.length ≤ 2000000) (i j : Int) (w : World) (h0 : SlR intC M0 w a x.1) (h1 : SlR termC M0 w b x.2) (hl : SlR strC M0 w lv l)
  (kx : Blk w gx 25 #[a, b]) (kl : Blk w gl 53 #[lv]) :
  Calls Tryz.prog 26 #[.int .i64 i, .int .i64 j, .pointer (some ⟨gx, 0, none⟩), .pointer (some ⟨gl, 0, none⟩)] w fun e w' => e = .returned (.int .i64 (Rk.scoreF x l j - Rk.scoreF x l i)) ∧ Below w.heap.size w w' := by
 obtain ⟨A0, c0, rfl, _, _⟩ := h0.form
 obtain ⟨A1, c1, rfl, _, _⟩ := h1.form
 obtain ⟨A2, c2, rfl, _, _⟩ := hl.form
 have hsc := fun (id : Int) V (hb : Below w.heap.size w V) => rscore_ok (.slice A0 x.1.length c0) (.slice A1 x.2.length c1) x _ l id V (h0.ext hb) (h1.ext hb) (hl.ext hb) hcan hln
 have hbi := Rk.score_bound x hcan.few i l
 have hbj := Rk.score_bound x hcan.few j l
 obtain ⟨sf, hsf⟩ : ∃ s, Rk.scoreF x l = s := ⟨_, rfl⟩
 rw [hsf] at hbi hbj hsc ⊢
 have hwr : IntKind.i64.wrap (sf j - sf i) = sf j - sf i := IntWalk.i64_in _ (by omega)
 obtain ⟨xl, hxl⟩ : ∃ k, x.1.length = k := ⟨_, rfl⟩
 obtain ⟨tl, htl⟩ : ∃ k, x.2.length = k := ⟨_, rfl⟩
 obtain ⟨ll, hll⟩ : ∃ k, l.length = k := ⟨_, rfl⟩
 rw [hxl, htl, hll] at hsc
 rw [hxl, htl] at kx
 rw [hll] at kl
 have Hs := Lib.hid hsc; have Kx := Lib.hid kx; have Kl := Lib.hid kl
 have hSS : ∀ W, Below w.heap.size w W → W.cell? ⟨gx, 0, none⟩ = some (.slice A0 xl c0) ∧ W.cell? ⟨gx, 1, none⟩ = some (.slice A1 tl c1) ∧ W.cell? ⟨gl, 0, none⟩ = some (.slice A2 ll c2) := fun W hW => ⟨(kx.ext hW).two.1, (kx.ext hW).two.2.1, (kl.ext hW).one.1⟩
 have HS := Lib.hid hSS
 have hS := HS.out _ (below_drewN' w.heap.size w 1)
 clear hSS hsc hsf hbi hbj hxl htl hll h0 h1 hl kx kl hcan hln
 go_enter Tryz.func26, Tryz.ntmps26
 go_wp2_with fail
 refine wp_region_D (fun W => W.cell? ⟨gx, 0, none⟩ = some (.slice A0 xl c0) ∧ W.cell? ⟨gx, 1, none⟩ = some (.slice A1 tl c1) ∧ W.cell? ⟨gl, 0, none⟩ = some (.slice A2 ll c2)) (fun _ => false) (by kernel_rfl) ?_
 change anyD _ _ _ _ _ _ _ _ _ (w.drewN 1)
 have hbV := below_drewN' w.heap.size w 1
 generalize w.drewN 1 = V0 at hS hbV ⊢
 have HBV := Lib.hid hbV
 (refine anyD_l5 (i := 0) (v := ?_) rfl (by kernel_rfl) (fun _ _ _ h => h) (.inl ⟨by kernel_rfl, fun W9 hW9 => ?_⟩) hS ?_; rotate_left; · (obtain ⟨hw0, hw1, hw2⟩ := hW9; go_simp; rfl))
 (refine anyD_l5 (i := 1) (v := ?_) rfl (by kernel_rfl) (fun _ _ _ h => h) (.inl ⟨by kernel_rfl, fun W9 hW9 => ?_⟩) hS ?_; rotate_left; · (obtain ⟨hw0, hw1, hw2⟩ := hW9; go_simp; rfl))
 (refine anyD_l5 (i := 2) (v := ?_) rfl (by kernel_rfl) (fun _ _ _ h => h) (.inl ⟨by kernel_rfl, fun W9 hW9 => ?_⟩) hS ?_; rotate_left; · (obtain ⟨hw0, hw1, hw2⟩ := hW9; go_simp; rfl))
 (refine anyD_l5 (i := 4) (v := ?_) rfl (by kernel_rfl) (fun _ _ _ h => h) (.inl ⟨by kernel_rfl, fun W9 hW9 => ?_⟩) hS ?_; rotate_left; · (obtain ⟨hw0, hw1, hw2⟩ := hW9; go_simp; rfl))
 (refine anyD_l5 (i := 5) (v := ?_) rfl (by kernel_rfl) (fun _ _ _ h => h) (.inl ⟨by kernel_rfl, fun W9 hW9 => ?_⟩) hS ?_; rotate_left; · (obtain ⟨hw0, hw1, hw2⟩ := hW9; go_simp; rfl))
 (refine anyD_l5 (i := 6) (v := ?_) rfl (by kernel_rfl) (fun _ _ _ h => h) (.inl ⟨by kernel_rfl, fun W9 hW9 => ?_⟩) hS ?_; rotate_left; · (obtain ⟨hw0, hw1, hw2⟩ := hW9; go_simp; rfl))
 go_simp
 go_simp
 refine anyD_one (i := 3) (by kernel_rfl) rfl rfl (fun K hK => ?_)
 have HK := Lib.hid hK
 clear hK
 unfold Oper.wp
 go_simp
 refine (Hs.out j _ (HBV.out)).mono ?_
 rintro e w5 ⟨rfl, hb5⟩
 have hb05 := HBV.out.trans (hb5.mono HBV.out.size)
 have hS := HS.out _ hb05
 refine HK.out _ _ (fun _ => hS) ?_
 clear HK
 go_simp
 refine anyD_one (i := 7) (by kernel_rfl) rfl rfl (fun K hK => ?_)
 have HK := Lib.hid hK
 clear hK
 unfold Oper.wp
 go_simp
 refine (Hs.out i _ hb05).mono ?_
 rintro e w6 ⟨rfl, hb6⟩
 have hb06 := hb05.trans (hb6.mono hb05.size)
 have hS := HS.out _ hb06
 refine HK.out _ _ (fun _ => hS) ?_
 clear HK
 (refine anyD_l5 (i := 8) (v := ?_) rfl (by kernel_rfl) (fun _ _ _ h => h) (.inl ⟨by kernel_rfl, fun W9 hW9 => ?_⟩) hS ?_; rotate_left; · (obtain ⟨hw0, hw1, hw2⟩ := hW9; go_simp; rfl))
 (refine anyD_l5 (i := 9) (v := ?_) rfl (by kernel_rfl) (fun _ _ _ h => h) (.inl ⟨by kernel_rfl, fun W9 hW9 => ?_⟩) hS ?_; rotate_left; · (obtain ⟨hw0, hw1, hw2⟩ := hW9; go_simp; rfl))
 go_simp
 refine anyD_done (by kernel_rfl) ?_ _
 go_wp2_with fail
 go_ret
 exact ⟨rfl, hb06⟩
end Go.Proofs.YtnlhocbaighedaaGreatDoor
namespace Go.Proofs.YtnlhocbaighedaaGreatDoor
set_option linter.unusedVariables false
theorem splitS_space (a : Str) : splitS (a ++ [32]) = splitS a ++ [[]] := splitS_append a []
theorem splitS_other {c : UInt8} (h : c ≠ 32) : ∀ a : Str, splitS (a ++ [c]) = (splitS a).set ((splitS a).length - 1) ((splitS a).getD ((splitS a).length - 1) [] ++ [c])
 | [] => by simp [splitS, h]
 | d :: t => by
  have ih := splitS_other h t
  rw [List.cons_append, splitS, splitS, ih]
  cases hX : splitS t with
  | nil => exact absurd hX (splitS_ne t)
  | cons x r =>
   cases r with
   | nil => split <;> simp
   | cons y r => split <;> simp
theorem contains_anyS (l : List Str) (x : Str) : l.contains x = l.any (· == x) := by
 rw [Bool.eq_iff_iff, List.contains_iff_mem, List.any_eq_true]; simp
namespace Sr
open Q
def tot (l : List Str) : Nat := (l.map List.length).sum
theorem tot_nil : tot [] = 0 := rfl
theorem tot_append (a b : List Str) : tot (a ++ b) = tot a + tot b := by unfold tot; rw [List.map_append, List.sum_append]
theorem tot_mem {l : List Str} {s : Str} (h : s ∈ l) : s.length ≤ tot l := by
 induction l with
 | nil => cases h
 | cons a l ih =>
  show _ ≤ a.length + tot l
  rcases List.mem_cons.1 h with rfl | h
  ·omega
  ·have := ih h; omega
theorem tot_set : ∀ {l : List Str} {n : Nat} (h : n < l.length) (v : Str), tot (l.set n v) + l[n].length = tot l + v.length
 | a :: l, 0, _, v => by show v.length + tot l + a.length = a.length + tot l + v.length; omega
 | a :: l, n + 1, h, v => by
  have hn : n < l.length := by simpa using h
  have := tot_set hn v
  show a.length + tot (l.set n v) + l[n].length = a.length + tot l + v.length
  omega
theorem tot_nils (n : Nat) : tot (List.replicate n []) = 0 := by
 induction n with
 | zero => rfl
 | succ n ih => rw [List.replicate_succ]; show 0 + tot _ = 0; omega
theorem tot_padded (l : List Str) (n : Nat) : tot (padded l n) = tot l := by unfold padded; rw [tot_append, tot_nils]; rfl
theorem placed_len (l : List Str) {n : Nat} (v : Str) (hn : n ≤ 5000) : (placedF l n v).length = max l.length (n + 1) := by
 unfold placedF
 rw [if_neg (by omega), List.length_set, padded_len]
theorem placed_le (l : List Str) (n : Nat) (v : Str) (hl : l.length ≤ 5001) : (placedF l n v).length ≤ 5001 := by
 by_cases h : n ≤ 5000
 ·rw [placed_len l v h]; omega
 ·unfold placedF; rw [if_pos (by omega)]; exact hl
theorem placed_tot (l : List Str) (n : Nat) (v : Str) : tot (placedF l n v) ≤ tot l + v.length + 1 := by
 unfold placedF
 by_cases h : 5000 < n
 ·rw [if_pos h]; omega
 ·rw [if_neg h]
  have hl : n < (padded l n).length := by rw [padded_len]; omega
  have h1 := tot_set hl ((if (padded l n).getD n [] = [] then [] else (padded l n).getD n [] ++ [32]) ++ v)
  have h2 : (padded l n).getD n [] = (padded l n)[n] := Ix.getD_get hl _
  rw [tot_padded] at h1
  have h3 : ((if (padded l n).getD n [] = [] then [] else (padded l n).getD n [] ++ [32]) ++ v).length ≤ (padded l n)[n].length + 1 + v.length := by
   rw [h2]
   split <;> simp <;> omega
  omega
/-- how many bytes the placing of some postings adds at most -/
def costP (v : Str) (ps : List Ix.Post) : Nat := (ps.map fun p => p.2.length * (v.length + 1)).sum
def costT (ts : List Ix.Term) : Nat := (ts.map fun t => costP t.1 t.2).sum
theorem costP_drop (v : Str) {ps : List Ix.Post} {n : Nat} (h : n < ps.length) : costP v (ps.drop n) = ps[n].2.length * (v.length + 1) + costP v (ps.drop (n + 1)) := by
 rw [List.drop_eq_getElem_cons h]; rfl
theorem costT_drop {ts : List Ix.Term} {k : Nat} (h : k < ts.length) : costT (ts.drop k) = costP ts[k].1 ts[k].2 + costT (ts.drop (k + 1)) := by
 rw [List.drop_eq_getElem_cons h]; rfl
theorem docT_step (id : Int) {ts : List Ix.Term} {k : Nat} (h : k < ts.length) : docT id [] (ts.take (k + 1)) = docP id ts[k].1 (docT id [] (ts.take k)) ts[k].2 := by
 unfold docT
 rw [List.take_succ_eq_append_getElem h, List.foldl_append]; rfl
theorem docP_step (id : Int) (v : Str) (l : List Str) {ps : List Ix.Post} {n : Nat} (h : n < ps.length) : docP id v l (ps.take (n + 1)) = if ps[n].1 = id then placesF (docP id v l (ps.take n)) v ps[n].2 else docP id v l (ps.take n) := by
 unfold docP
 rw [List.take_succ_eq_append_getElem h, List.foldl_append]; rfl
theorem places_step (v : Str) (l : List Str) {ns : List Int} {m : Nat} (h : m < ns.length) : placesF l v (ns.take (m + 1)) = placedF (placesF l v (ns.take m)) ns[m].toNat v := by
 unfold placesF
 rw [List.take_succ_eq_append_getElem h, List.foldl_append]; rfl
theorem places_tot (v : Str) : ∀ (ns : List Int) (l : List Str), tot (placesF l v ns) ≤ tot l + ns.length * (v.length + 1)
 | [], l => by unfold placesF; simp
 | n :: ns, l => by
  have h1 := places_tot v ns (placedF l n.toNat v)
  have h2 := placed_tot l n.toNat v
  show tot (placesF (placedF l n.toNat v) v ns) ≤ _
  rw [List.length_cons, Nat.add_mul]; omega
theorem docP_tot (id : Int) (v : Str) : ∀ (ps : List Ix.Post) (l : List Str), tot (docP id v l ps) ≤ tot l + costP v ps
 | [], l => by simp [docP, costP]
 | p :: ps, l => by
  have h1 := docP_tot id v ps (if p.1 = id then placesF l v p.2 else l)
  have h2 := places_tot v p.2 l
  show tot (docP id v (if p.1 = id then placesF l v p.2 else l) ps) ≤ tot l + (p.2.length * (v.length + 1) + costP v ps)
  by_cases h : p.1 = id
  ·rw [if_pos h] at h1 ⊢; omega
  ·rw [if_neg h] at h1 ⊢; omega
theorem docT_tot (id : Int) : ∀ (ts : List Ix.Term) (l : List Str), tot (docT id l ts) ≤ tot l + costT ts
 | [], l => by simp [docT, costT]
 | t :: ts, l => by
  have h1 := docT_tot id ts (docP id t.1 l t.2)
  have h2 := docP_tot id t.1 t.2 l
  show tot (docT id (docP id t.1 l t.2) ts) ≤ tot l + (costP t.1 t.2 + costT ts)
  omega
theorem doc_tot (x : Ix.Idx) (id : Int) : tot (docF x id) ≤ costT x.2 := by have := docT_tot id x.2 []; rw [tot_nil, Nat.zero_add] at this; exact this
theorem places_len (v : Str) : ∀ (ns : List Int) (l : List Str), l.length ≤ 5001 → (placesF l v ns).length ≤ 5001
 | [], l, h => h
 | n :: ns, l, h => places_len v ns _ (placed_le l _ v h)
theorem docP_len (id : Int) (v : Str) : ∀ (ps : List Ix.Post) (l : List Str), l.length ≤ 5001 → (docP id v l ps).length ≤ 5001
 | [], l, h => h
 | p :: ps, l, h => by
  have h2 : (if p.1 = id then placesF l v p.2 else l).length ≤ 5001 := by
   by_cases e : p.1 = id
   ·rw [if_pos e]; exact places_len v _ _ h
   ·rw [if_neg e]; exact h
  exact docP_len id v ps _ h2
theorem docT_len (id : Int) : ∀ (ts : List Ix.Term) (l : List Str), l.length ≤ 5001 → (docT id l ts).length ≤ 5001
 | [], l, h => h
 | t :: ts, l, h => docT_len id ts _ (docP_len id t.1 t.2 l h)
theorem doc_len (x : Ix.Idx) (id : Int) : (docF x id).length ≤ 5001 := docT_len id x.2 [] (by simp)
theorem costP_sum (v : Str) (ps : List Ix.Post) : costP v ps = (ps.map fun p => p.2.length).sum * (v.length + 1) := by
 unfold costP
 induction ps with
 | nil => simp
 | cons p ps ih => simp only [List.map_cons, List.sum_cons, ih, Nat.add_mul]
/-- what the nodes of a reference's list are: a first part of the nodes in order; all of them, or more than the limit -/
def Cut (L P : List Q) (lim : Nat) : Prop := L <+: P ∧ (L = P ∨ lim < L.length)
theorem Cut.of_le {L P : List Q} {lim : Nat} (h : Cut L P lim) : (lim < L.length ↔ lim < P.length) ∧ (L.length ≤ lim → L = P) := by
 obtain ⟨h1, h2⟩ := h
 have := h1.length_le
 rcases h2 with rfl | h2
 ·exact ⟨Iff.rfl, fun _ => rfl⟩
 ·exact ⟨⟨fun _ => by omega, fun _ => h2⟩, fun h => by omega⟩
theorem flat_take (f : Nat) {ps : List Q} {m : Nat} (h : m < ps.length) : (ps.take (m + 1)).flatMap (pre f) = (ps.take m).flatMap (pre f) ++ pre f ps[m] := by
 rw [List.take_succ_eq_append_getElem h, List.flatMap_append]; simp
theorem flat_pre (f : Nat) (ps : List Q) (m : Nat) : (ps.take m).flatMap (pre f) <+: ps.flatMap (pre f) := by
 have h : ps.flatMap (pre f) = (ps.take m).flatMap (pre f) ++ (ps.drop m).flatMap (pre f) := by rw [← List.flatMap_append, List.take_append_drop]
 rw [h]; exact List.prefix_append _ _
theorem Cut.step {q : Q} {f lim m : Nat} {ps : List Q} {L L' : List Q} (hm : m < ps.length) (h : Cut L (q :: (ps.take m).flatMap (pre f)) lim) (hl : L.length ≤ lim) (h' : Cut L' (pre f ps[m]) (lim - L.length)) : Cut (L ++ L') (q :: (ps.take (m + 1)).flatMap (pre f)) lim := by
 have e := h.of_le.2 hl
 rw [flat_take f hm, ← List.cons_append, ← e]
 refine ⟨List.prefix_append_right_inj _ |>.2 h'.1, ?_⟩
 rcases h'.2 with h2 | h2
 ·exact .inl (by rw [h2])
 ·exact .inr (by rw [List.length_append]; omega)
theorem Cut.all {q : Q} {f lim m : Nat} {ps : List Q} {L : List Q} (h : Cut L (q :: (ps.take m).flatMap (pre f)) lim) (he : ps.length ≤ m ∨ lim < L.length) : Cut L (q :: ps.flatMap (pre f)) lim := by
 refine ⟨h.1.trans ((List.prefix_cons_inj q).2 (flat_pre f ps m)), ?_⟩
 rcases he with he | he
 ·rw [List.take_of_length_le he] at h; exact h.2
 ·exact .inr he
theorem range_any {n : Nat} {p : Nat → Bool} {k : Nat} (hk : k < n) (h : p k = true) : (List.range n).any p = true := List.any_eq_true.2 ⟨k, List.mem_range.2 hk, h⟩
theorem range_none {n : Nat} {p : Nat → Bool} (h : ∀ k, k < n → p k = false) : (List.range n).any p = false := by
 rw [List.any_eq_false]; intro k hk; rw [h k (List.mem_range.1 hk)]; decide
theorem range_all_step (n : Nat) (p : Nat → Bool) : (List.range (n + 1)).all p = ((List.range n).all p && p n) := by
 rw [List.range_succ, List.all_append]; simp
theorem pre_take (s v : Str) : s.isPrefixOf v = (decide (s.length ≤ v.length) && (v.take s.length == s)) := by
 rw [Bool.eq_iff_iff, List.isPrefixOf_iff_prefix, Bool.and_eq_true, decide_eq_true_eq, beq_iff_eq]
 constructor
 ·intro h; exact ⟨h.length_le, (List.prefix_iff_eq_take.1 h).symm⟩
 ·rintro ⟨_, h⟩; exact List.prefix_iff_eq_take.2 h.symm
theorem count_step (p : Q → Bool) {l : List Q} {m : Nat} (h : m < l.length) : (l.take (m + 1)).countP p = (l.take m).countP p + (if p l[m] then 1 else 0) := by
 rw [List.take_succ_eq_append_getElem h, List.countP_append]; simp [List.countP_cons]
/-- a node's error, as the reference finds it -/
def textOk (q : Q) : Bool := (decide (q.kind = 4) || (decide (q.kind = 5) && decide ((splitS q.text).length = 2)) || (decide (q.kind < 4) && decide ((splitS q.text).length = 1)))
def refErr (q : Q) : Int :=
 if ¬ (1 ≤ q.kind ∧ q.kind ≤ 8) then 4
 else if (¬ 6 ≤ q.kind ∧ 0 < q.parts.length) ∨ (q.kind = 8 ∧ q.parts.length ≠ 1) ∨ ((q.kind = 6 ∨ q.kind = 7) ∧ q.parts.length < 2) ∨ (q.num ≠ 0 ∧ q.kind ≠ 5) ∨ (¬ (2 ≤ q.kind ∧ q.kind ≤ 5) ∧ q.text ≠ []) then 5
 else if q.kind = 5 ∧ ¬ (1 ≤ q.num ∧ q.num ≤ 50) then 3
 else if ¬ (2 ≤ q.kind ∧ q.kind ≤ 5) then 0
 else if (textOk q && (splitS q.text).all wordOk) = true then 0 else 10
def textE (k : Int) (t : Str) : Bool := (decide (k = 4) || (decide (k = 5) && decide ((splitS t).length = 2)) || (decide (k < 4) && decide ((splitS t).length = 1)))
def refE (k : Int) (t : Str) (n : Int) (nl : Nat) : Int :=
 if ¬ (1 ≤ k ∧ k ≤ 8) then 4
 else if (¬ 6 ≤ k ∧ 0 < nl) ∨ (k = 8 ∧ nl ≠ 1) ∨ ((k = 6 ∨ k = 7) ∧ nl < 2) ∨ (n ≠ 0 ∧ k ≠ 5) ∨ (¬ (2 ≤ k ∧ k ≤ 5) ∧ t ≠ []) then 5
 else if k = 5 ∧ ¬ (1 ≤ n ∧ n ≤ 50) then 3
 else if ¬ (2 ≤ k ∧ k ≤ 5) then 0
 else if (textE k t && (splitS t).all wordOk) = true then 0 else 10
theorem refErr_node (k : Int) (t : Str) (n : Int) (ps : List Q) : refErr (.node k t n ps) = refE k t n ps.length := rfl
theorem refErr_eq {q : Q} (hn : q.parts.length ≤ 60) : refErr q = errOf q := by
 unfold refErr errOf
 by_cases h0 : 1 ≤ q.kind ∧ q.kind ≤ 8
 ·have hk : q.kind = 1 ∨ q.kind = 2 ∨ q.kind = 3 ∨ q.kind = 4 ∨ q.kind = 5 ∨ q.kind = 6 ∨ q.kind = 7 ∨ q.kind = 8 := by omega
  obtain ⟨n, hn'⟩ : ∃ n, q.parts.length = n := ⟨_, rfl⟩
  obtain ⟨c, hc⟩ : ∃ c, (splitS q.text).length = c := ⟨_, rfl⟩
  obtain ⟨a, ha⟩ : ∃ a, (splitS q.text).all wordOk = a := ⟨_, rfl⟩
  unfold textOk
  rw [hn', hc, ha]
  rw [hn'] at hn
  rcases hk with hk | hk | hk | hk | hk | hk | hk | hk <;> rw [hk] <;> simp only [least, most, wants] <;> cases a <;> by_cases ht : q.text = [] <;> simp [ht] <;> (repeat' split) <;> first | rfl | omega
 ·rw [if_pos h0, if_pos]
  simp only [Bool.or_eq_true, decide_eq_true_eq]
  omega
end Sr
end Go.Proofs.YtnlhocbaighedaaGreatDoor

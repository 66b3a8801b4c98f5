/-
  Contracts and plain facts, one after another: Queries built by the laws; searchExample; rankExample; rank.stems: visit at a query of parts; rank.stems: what a query yields, for every query; The reference's placed.
-/
import Derived.Test.YtnlhocbaighedaaGreatDoorR19
import Derived.Test.YtnlhocbaighedaaGreatDoorR22
import Derived.Test.YtnlhocbaighedaaGreatDoorR15
import Derived.Test.YtnlhocbaighedaaGreatDoorR17
import Derived.Test.YtnlhocbaighedaaGreatDoorR21
import Derived.Test.YtnlhocbaighedaaGreatDoorR13
import Derived.Test.YtnlhocbaighedaaGreatDoorR2
namespace Go.Proofs.YtnlhocbaighedaaGreatDoor
open Go.RowKit
set_option linter.unusedVariables false
theorem qleaf (w : World) (f : Nat) (k : Int) (t : Str) (hk : -9223372036854775808 ≤ k ∧ k ≤ 9223372036854775807) (ht : t.length ≤ maxLen) : QAt f M0 w (.agg #[.int .i64 k, .string (bs t), .int .i64 0, .slice none 0 0]) (.node k t 0 []) :=
 ⟨none, 0, rfl, hk, ht, by simp, SlR.nil _ _ _⟩
theorem SlR.of_blk {α : Type} {C : Codec α} {w : World} {g : Nat} {T : TypeId} {cs : List Value} {l : List α} (k : Blk w g T cs.toArray) (he : Els C M0 w cs l) (hm : l.length ≤ maxLen) {n : Nat} (hn : l.length = n) : SlR C M0 w (.slice (some ⟨g, 0, none⟩) n n) l := by
 subst hn
 exact ⟨_, _, _, cs, rfl, rfl, Nat.le_refl _, hm, he, fun _ => ⟨g, 0, rfl, fun h => h.elim, k.lt, fun j u hu => by rw [Nat.zero_add, k.cell]; simpa using hu⟩⟩
theorem docs2 (w : World) (a b : Int) (s t : Str) (ha : -9223372036854775808 ≤ a ∧ a ≤ 9223372036854775807) (hb : -9223372036854775808 ≤ b ∧ b ≤ 9223372036854775807) (hs : s.length ≤ maxLen) (ht : t.length ≤ maxLen) :
  SlR docC M0 (w.alloc (.cells #[.int .i64 a, .string (bs s), .int .i64 b, .string (bs t)] 48)) (.slice (some ⟨w.heap.size, 0, none⟩) 2 2) [(a, s), (b, t)] :=
 (Own.built (M := M0) (B := w.heap.size) (C := docC) 48 (cs := [.int .i64 a, .string (bs s)] ++ [.int .i64 b, .string (bs t)]) (l := [(a, s)] ++ [(b, t)])
  ((Els.single (C := docC) (a := (a, s)) ⟨[.int .i64 a], [.string (bs s)], rfl, ⟨rfl, ha⟩, rfl, hs⟩).append (Els.single (C := docC) (a := (b, t)) ⟨[.int .i64 b], [.string (bs t)], rfl, ⟨rfl, hb⟩, rfl, ht⟩)) (Nat.le_refl _) (by simp [maxLen])).read0
abbrev seD1 : Str := [109, 97, 105, 108, 32, 105, 115, 32, 115, 101, 110, 116]
abbrev seD2 : Str := [109, 97, 105, 108, 32, 97, 110, 100, 32, 106, 117, 110, 107]
abbrev seMail : Str := [109, 97, 105, 108]
abbrev seJunk : Str := [106, 117, 110, 107]
def seX : Ix.Idx := Ix.madeF (Ix.stemsD [(1, seD1), (2, seD2)])
def seQ : Q := .node 6 [] 0 [.node 2 seMail 0 [], .node 8 [] 0 [.node 2 seJunk 0 []]]
end Go.Proofs.YtnlhocbaighedaaGreatDoor
namespace Go.Proofs.YtnlhocbaighedaaGreatDoor
open Go.RowKit
set_option linter.unusedVariables false
namespace Rk
abbrev dog : Str := [100, 111, 103]
abbrev dogs : Str := [100, 111, 103, 32, 100, 111, 103, 32, 99, 97, 116]
def rkX : Ix.Idx := Ix.madeF (Ix.stemsD [(1, dog), (2, dogs)])
def rkQ : Q := .node 2 dog 0 []
def rkS : List Str := (splitS dog).map Sm.stem
theorem rk_s : rkS = [Sm.stem dog] := by decide +kernel
theorem rk_1 : ((Sr.findR rkX rkQ).1 == [1, 2]) = true := by decide +kernel
theorem rk_2 : (Sr.findR rkX rkQ).2.1 = 0 := by decide +kernel
theorem rk_3 : (Sr.findR rkX rkQ).2.2 = 0 := by decide +kernel
theorem rk_find : Sr.findR rkX rkQ = ([1, 2], 0, 0) := Prod.ext (by simpa using rk_1) (Prod.ext rk_2 rk_3)
theorem rk_c1 : scoreF rkX [Sm.stem dog] 1 = 1000 := by decide +kernel
theorem rk_c2 : scoreF rkX [Sm.stem dog] 2 = 2000 := by decide +kernel
theorem rk_canon : Ix.Canon rkX := two_canon (by simp) (by simp) (by omega)
theorem rk_bulk : rkQ.bulk ≤ 4000000 := by decide +kernel
theorem rk_i : rkX.1.contains 2 = true := by decide +kernel
theorem rk_score : scoreR rkX rkQ rkS 2 = (2000, 0, 0) := by
 unfold scoreR
 rw [rk_find, if_neg (by simp), if_pos rk_i, rk_s, count_one, rk_c2]
theorem rk_order : orderR rkX rkQ rkS = ([2, 1], 0, 0) := by
 unfold orderR
 rw [rk_find, if_neg (by simp), rk_s, count_one]
 show (sinkF (ordF rkX [Sm.stem dog]) [1, 2], (0 : Int), (0 : Int)) = _
 have h : ordF rkX [Sm.stem dog] 2 1 < 0 := by unfold ordF; rw [rk_c1, rk_c2]; omega
 simp [sinkF, insR, h]
end Rk
set_option maxRecDepth 100000 in
set_option maxHeartbeats 4000000 in
theorem rankExample_ok (w : World) (hT : TabsU w) : Calls Tryz.prog 9 #[] w fun e w' => e = .returned (.bool true) ∧ Below w.heap.size w w' := by
 obtain ⟨W1, g1, hW1, hg1, hs1, k1, hal1⟩ := boxA w #[.int .i64 1, .string ⟨#[100, 111, 103]⟩, .int .i64 2, .string ⟨#[100, 111, 103, 32, 100, 111, 103, 32, 99, 97, 116]⟩] 48
 have hd : SlR docC M0 (w.alloc (.cells #[.int .i64 1, .string ⟨#[100, 111, 103]⟩, .int .i64 2, .string ⟨#[100, 111, 103, 32, 100, 111, 103, 32, 99, 97, 116]⟩] 48)) (.slice (some ⟨w.heap.size, 0, none⟩) 2 2) [(1, Rk.dog), (2, Rk.dogs)] := docs2 w 1 2 Rk.dog Rk.dogs (by omega) (by omega) (by simp [maxLen]) (by simp [maxLen])
 rw [hW1, hg1] at hd
 have hmade := refMade_ok _ _ W1 hd (by simp) (fun d hd => by simp at hd; rcases hd with rfl | rfl <;> simp) (hT.ext hal1)
 rw [show Ix.madeF (Ix.stemsD [(1, Rk.dog), (2, Rk.dogs)]) = Rk.rkX from rfl] at hmade
 have HW1 := Lib.hid hW1; have Hmade := Lib.hid hmade; have Hal1 := Lib.hid hal1; have HT := Lib.hid hT
 clear hW1 hmade hal1 hd k1 hs1 hT
 go_enter Tryz.func9, Tryz.ntmps9
 go_wp2_with fail
 rw [HW1.out]
 refine Hmade.out.mono ?_
 rintro e w2 ⟨a, b, rfl, ha, hb, hb2⟩
 obtain ⟨A0, c0, rfl, _, _⟩ := ha.form
 obtain ⟨A1, c1, rfl, _, _⟩ := hb.form
 have hbw := Hal1.out.trans (hb2.mono Hal1.out.size)
 obtain ⟨n0, hn0⟩ : ∃ n, Rk.rkX.1.length = n := ⟨_, rfl⟩
 obtain ⟨n1, hn1⟩ : ∃ n, Rk.rkX.2.length = n := ⟨_, rfl⟩
 rw [hn0] at ha ⊢
 rw [hn1] at hb ⊢
 clear hg1 hb2 Hal1 HW1 Hmade
 obtain ⟨W, g, hW, hg, hs, kI, kQ, hal⟩ := boxPair w2 #[.slice A0 n0 c0, .slice A1 n1 c1] 25 #[.int .i64 2, .string ⟨#[100, 111, 103]⟩, .int .i64 0, .slice none 0 0] 28
 obtain ⟨x0, x1, _⟩ := kI.two
 obtain ⟨q0, q1, q2, q3, _⟩ := kQ.fourV
 have hqa : QAt 0 M0 W (.agg #[.int .i64 2, .string (bs Rk.dog), .int .i64 0, .slice none 0 0]) Rk.rkQ := qleaf W 0 2 Rk.dog (by omega) (by simp [maxLen])
 have hbW := hbw.trans (hal.mono hbw.size)
 have hit : ∀ (W0 V : World) (cs : Array Value), Below W0.heap.size W0 V → (Value.agg #[.int .i64 2, .string (bs Rk.dog), .int .i64 0, .slice none 0 0]) = .agg cs → StemsIt cs Rk.rkS V := by
  intro W0 V cs _ e
  injection e with e
  subst e
  exact stemsIt_leaf Rk.dog (by simp) 0 none 0 0 V
 have hx : ∀ s ∈ Rk.rkS, s.length ≤ maxLen := by
  rw [Rk.rk_s]
  intro s hs
  rw [List.mem_singleton.1 hs]
  have : (Sm.stem Rk.dog).length ≤ 100 := by decide +kernel
  unfold maxLen; omega
 have hn : Rk.rkS.length ≤ 2000000 := by rw [Rk.rk_s]; simp
 have hsco := rankScore_ok (.slice A0 n0 c0) (.slice A1 n1 c1) _ Rk.rkX Rk.rkQ 0 Rk.rkS 2 W (ha.ext hal) (hb.ext hal) hqa (fun _ => Rk.rk_canon) (Rk.canon_sz Rk.rk_canon) Rk.rk_bulk (HT.out.ext hbW) (hit W) hx hn
 rw [Rk.rk_score] at hsco
 dsimp only at hsco
 have hord := fun V (hV : Below W.heap.size W V) => rankOrder_ok (.slice A0 n0 c0) (.slice A1 n1 c1) _ Rk.rkX Rk.rkQ 0 Rk.rkS V ((ha.ext hal).ext hV) ((hb.ext hal).ext hV) (hqa.ext hV) (fun _ => Rk.rk_canon) (Rk.canon_sz Rk.rk_canon) Rk.rk_bulk ((HT.out.ext hbW).ext hV) (hit V) hx hn (sortsFew _ _ (by rw [Rk.rk_find]; simp))
 simp only [Rk.rk_order] at hord
 have HW := Lib.hid hW; have Hsco := Lib.hid hsco; have Hord := Lib.hid hord; have HbW := Lib.hid hbW; have HI := Lib.hid kI; have HQ := Lib.hid kQ
 clear hW hsco hord hbW kI kQ hqa hit hx hn hs hal ha hb hn0 hn1 hbw HT
 go_wp2_with fail
 rw [HW.out]
 refine Hsco.out.mono ?_
 clear Hsco HW
 rintro e w3 ⟨rfl, hb3⟩
 obtain ⟨U, gu, hU, hgu, hsu, kU, halU⟩ := boxA w3 #[.int .i64 0, .int .i64 0] 30
 have hbWU := hb3.trans (halU.mono hb3.size)
 clear x0 x1 q0 q1 q2 q3
 obtain ⟨x0, x1, _⟩ := ((HI.out.ext hb3).alloc (.cells #[.int .i64 0, .int .i64 0] 30)).two
 obtain ⟨q0, q1, q2, q3, _⟩ := ((HQ.out.ext hb3).alloc (.cells #[.int .i64 0, .int .i64 0] 30)).fourV
 have Hor := Lib.hid (Hord.out U hbWU)
 have HU := Lib.hid hU; have HkU := Lib.hid kU; have HbU := Lib.hid (HbW.out.trans (hbWU.mono HbW.out.size))
 clear hU kU hbWU halU hb3 hsu Hord
 go_wp2_with fail
 rw [HU.out]
 refine Hor.out.mono ?_
 clear Hor HU hgu x0 x1 q0 q1 q2 q3
 rintro e w4 ⟨v, rfl, hv, hb4⟩
 obtain ⟨A4, c4, rfl, _, _⟩ := hv.form
 have kU4 := HkU.out.ext hb4
 have hbw4 := HbU.out.trans (hb4.mono HbU.out.size)
 obtain ⟨V, gV, hV, hgV, hsV, kV, kL, halV⟩ := boxPair w4 #[.int .i64 0, .int .i64 0] 30 #[.int .i64 2, .int .i64 1] 3
 have hl1 : SlR intC M0 V (.slice (some ⟨gV + 1, 0, none⟩) 2 2) [2, 1] := SlR.of_blk (cs := [.int .i64 2] ++ [.int .i64 1]) kL ((Els.single (C := intC) (a := 2) ⟨rfl, by omega⟩).append (Els.single (C := intC) (a := 1) ⟨rfl, by omega⟩)) (by simp [maxLen]) rfl
 have hin := ints_ok _ _ [2, 1] [2, 1] V (hv.ext halV) hl1
 rw [show (([2, 1] : List Int) == [2, 1]) = true by rfl] at hin
 have hbV := hbw4.trans (halV.mono hbw4.size)
 have k5 : Blk (w4.alloc (.cells #[.int .i64 0, .int .i64 0] 30)) w4.heap.size 30 #[.int .i64 0, .int .i64 0] := Blk.new w4 _ _
 obtain ⟨u0, u1, _, _, _⟩ := k5.two
 obtain ⟨v0, v1, _, _, _⟩ := (kU4.alloc (.cells #[.int .i64 0, .int .i64 0] 30)).two
 have HV := Lib.hid hV; have Hin := Lib.hid hin; have HbV := Lib.hid hbV
 clear hV hin kV kL hl1 hbV hbw4 hb4 halV hsV hv k5 kU4
 rw [hgV] at u0 u1
 go_wp2_with fail
 rw [HV.out]
 refine Hin.out.mono ?_
 rintro e w5 ⟨rfl, hb5⟩
 clear u0 u1 v0 v1
 go_wp2_with fail
 go_ret
 exact ⟨rfl, HbV.out.trans (hb5.mono HbV.out.size)⟩
end Go.Proofs.YtnlhocbaighedaaGreatDoor
namespace Go.Proofs.YtnlhocbaighedaaGreatDoor
open Go.RowKit
set_option linter.unusedVariables false
theorem kept_setCell {n0 : Nat} {S : Nat → Prop} {w : World} {g : Nat} (hn : n0 ≤ g) (hS : ¬ S g) (o : Nat) (v : Value) : Kept n0 S w (w.setCell ⟨g, o, none⟩ v) :=
 ⟨rfl, rfl, rfl, by simp, fun b hb ho => Below.heap_setCell _ _ _ _ fun (e : b = g) => ho.elim (fun h => by omega) fun h => hS (e ▸ h)⟩
theorem boxAV (w : World) (cs : Array Value) (t : TypeId) : ∃ W g, w.alloc (.cells cs t) = W ∧ w.heap.size = g ∧ W.heap.size = g + 1 ∧ Blk W g t cs ∧ Below w.heap.size w W := ⟨_, _, rfl, rfl, by simp, Blk.new w t _, (Below.refl _ _).alloc (Nat.le_refl _) _⟩
set_option maxRecDepth 100000 in
set_option maxHeartbeats 8000000 in
theorem visit_parts (kk : Int) (hkk : kk = 6 ∨ kk = 7) (t : Str) (nv : Int) (parts : List Q) (f : Nat) (sf : Q → List Str) (hpl : parts.length ≤ 4000000)
  (IH : ∀ g, f = g + 1 → ∀ p ∈ parts, VisitC p g (sf p)) : VisitC (.node kk t nv parts) f (parts.flatMap sf) := by
 intro v gy gv l J Jx S W n0 hn0 ky hSy kv hSv hq hS hJ hJx hY h0
 obtain ⟨A, c, rfl, _, _, _, hpq⟩ := hq
 dsimp only [Q.kind, Q.text, Q.num, Q.parts] at hpq ⊢
 obtain ⟨W1, g1, hW1, hg1, hs1, kq, kr, hal⟩ := boxPairV W #[.int .i64 kk, .string (bs t), .int .i64 nv, .slice A parts.length c] 28 #[.bool false] 4
 obtain ⟨q0, q1, q2, q3, _⟩ := kq.fourV
 obtain ⟨r0, r1, _⟩ := kr.one
 have hSg : ∀ b, W.heap.size ≤ b → ¬ S b := fun b hb h => by have := hS b h; omega
 have hfr : FrP gy gv (g1 + 1) l f W.heap.size (.slice A parts.length c) parts S W1 := by
  refine ⟨((hpq.sub (M' := fun b => S b ∨ W.heap.size ≤ b) fun b hb h => h.elim id fun h => by omega).ext hal), ⟨ky.ext hal, hSy⟩, ⟨kv.ext hal, hSv⟩, ⟨kr, hSg _ (by omega)⟩, fun b hb => Nat.lt_of_lt_of_le (hS b hb) hal.size, hal.size⟩
 have hj1 : J 0 S W1 := hJ _ _ _ _ h0 (Kept.of_below hal)
 obtain ⟨g2, hg2⟩ : ∃ g, g1 + 1 = g := ⟨_, rfl⟩
 rw [hg2] at hfr r0 r1
 have hng2 : n0 ≤ g2 := by omega
 have hB : W.heap.size ≤ g2 := by omega
 obtain ⟨pl, hpe⟩ : ∃ n, parts.length = n := ⟨_, rfl⟩
 rw [hpe] at hpl hfr q3
 have hW1' := hW1
 rw [hpe] at hW1'
 obtain ⟨N, hN⟩ : ∃ N, (parts.flatMap sf).length = N := ⟨_, rfl⟩
 rw [hN]
 have HN := Lib.hid hN
 have HW1 := Lib.hid hW1'; have HJ := Lib.hid hJ; have HJx := Lib.hid hJx; have HY := Lib.hid hY; have Hfr := Lib.hid hfr; have Hj1 := Lib.hid hj1; have Hpe := Lib.hid hpe; have HIH := Lib.hid IH; have HSg := Lib.hid hSg; have Hn0 := Lib.hid (And.intro hn0 hal.size); have Hkq := Lib.hid kq
 rw [hpe]
 clear hJ hJx hY hfr hj1 IH hSg hpq ky kv kq kr hal h0 hS hs1 hW1 hn0 hpe hN
 refine callsIn_of_wp_marks (F := Fence.wide) (n := 0) Tryz.func67 rfl trivial ((wpIn_wide (n := 0)).2 ?_) rfl
 simp only [Tryz.ntmps67, List.size_toArray, List.length_cons, List.length_nil, Nat.reduceAdd, Nat.reduceSub, Array.replicate_succ, Array.replicate_zero, List.push_toArray, List.append_toArray, List.nil_append, List.cons_append]
 rcases hkk with rfl | rfl
 all_goals
  go_wp2_with fail
  clear q0 q1 q2 q3 hW1'
  go_loopw [29] (fun iv wr => ∃ (k : Nat) (T : Nat → Prop), k ≤ pl ∧ iv = .int .i64 (k : Int) ∧ FrP gy gv g2 l f W.heap.size (.slice A pl c) parts T wr ∧ J (offP sf parts k) T wr ∧ g2 < wr.heap.size) (fun iv _ => pl - (intOf iv).toNat)
  case atStart => exact ⟨0, S, Nat.zero_le _, rfl, Hfr.out, Hj1.out, Hfr.out.2.2.2.1.1.lt⟩
  case round =>
   obtain ⟨k, T, hk, rfl, hfr, hj, hg2l⟩ := hrel
   obtain ⟨wo, rfl⟩ : ∃ W, W = wr := ⟨_, rfl⟩
   by_cases hlt : k < pl
   ·have hki : (k : Int) < (pl : Int) := by omega
    have hk0 : (0 : Int) ≤ (k : Int) := by omega
    have hkl : k < parts.length := by rw [Hpe.out]; exact hlt
    obtain ⟨b, off, g, A2, c2, hA, hf, hM, hbl, p0, p1, p2, p3, hqa⟩ := hfr.1.qAt hkl
    subst hA hf
    obtain ⟨V1, g7, hV1, hg7, hs7, k7, hal7⟩ := boxAV wo #[.int .i64 parts[k].kind, .string (bs parts[k].text), .int .i64 parts[k].num, .slice A2 parts[k].parts.length c2] 28
    have hfr7 := hfr.ext hal7
    have hJ' := HJ.out
    have hj7 : J (offP sf parts k) T V1 := HJ.out _ _ _ _ hj (Kept.of_below hal7)
    have hvis := HIH.out g rfl parts[k] (List.getElem_mem hkl) (.agg #[.int .i64 parts[k].kind, .string (bs parts[k].text), .int .i64 parts[k].num, .slice A2 parts[k].parts.length c2]) gy gv l
     (fun i S' V => J (offP sf parts k + i) S' V ∧ FrP gy gv g2 l (g + 1) W.heap.size (.slice (some ⟨b, off, none⟩) pl c) parts S' V) (fun i S' V => (∃ i', Jx i' S' V) ∧ FrP gy gv g2 l (g + 1) W.heap.size (.slice (some ⟨b, off, none⟩) pl c) parts S' V) T V1 V1.heap.size (Nat.le_refl _)
     hfr7.2.1.1 hfr7.2.1.2 hfr7.2.2.1.1 hfr7.2.2.1.2 ((hqa.ext hal7).subR fun b _ h => .inl h) hfr7.2.2.2.2.1
     (fun i S' V V' h hkp => ⟨HJ.out _ _ _ _ h.1 ⟨hkp.os, hkp.tape, hkp.output, hkp.size, fun b hb ho => hkp.same b hb (ho.imp (fun h => by have := Hn0.out; have := hfr7.2.2.2.2.2; omega) id)⟩, h.2.kept hkp hfr7.2.2.2.2.2 hfr7.2.1.1.lt hfr7.2.2.1.1.lt hfr7.2.2.2.1.1.lt⟩)
     (fun i S' V V' h hkp => ⟨h.1.imp fun i' h' => HJx.out _ _ _ _ h' ⟨hkp.os, hkp.tape, hkp.output, hkp.size, fun b hb ho => hkp.same b hb (ho.imp (fun h => by have := Hn0.out; have := hfr7.2.2.2.2.2; omega) id)⟩, h.2.kept hkp hfr7.2.2.2.2.2 hfr7.2.1.1.lt hfr7.2.2.1.1.lt hfr7.2.2.2.1.1.lt⟩)
     (fun i hi S' V hjj hsz => by
      obtain ⟨hh, he⟩ := offP_at sf parts hkl hi
      have hy := HY.out (offP sf parts k + i) hh S' V hjj.1 (by have := Hn0.out; have := hfr7.2.2.2.2.2; omega)
      rw [he] at hy
      obtain ⟨fn, tmps, assign, body, h1, h2⟩ := hy
      refine ⟨fn, tmps, assign, body, h1, h2.mono ?_⟩
      rintro e W' ⟨S'', hchg, hor⟩
      exact ⟨S'', hchg, hor.imp (fun h => ⟨h.1, h.2, hjj.2.chg hchg⟩) (fun h => ⟨h.1, ⟨_, h.2⟩, hjj.2.chg hchg⟩)⟩)
     ⟨hj7, hfr7⟩
    obtain ⟨y0, y1, y2, y3, _⟩ := k7.fourV
    have Kgv := Lib.hid hfr.2.2.1.1
    have hg27 : g2 < V1.heap.size := by have := hal7.size; omega
    have Hvis := Lib.hid (callsIn_wide.1 hvis); have HV1 := Lib.hid hV1; have Hoff := Lib.hid (offP_succ sf parts hkl)
    obtain ⟨kd, hkd⟩ : ∃ x, parts[k].kind = x := ⟨_, rfl⟩
    obtain ⟨tx, htx⟩ : ∃ x, bs parts[k].text = x := ⟨_, rfl⟩
    obtain ⟨nm, hnm⟩ : ∃ x, parts[k].num = x := ⟨_, rfl⟩
    obtain ⟨ql, hql⟩ : ∃ x, parts[k].parts.length = x := ⟨_, rfl⟩
    rw [hkd, htx, hnm, hql] at Hvis HV1
    rw [hkd] at p0 y0; rw [htx] at p1 y1; rw [hnm] at p2 y2; rw [hql] at p3 y3
    clear hvis hqa hV1 hfr hj hj7 hal7 k7 hJ' hkd htx hnm hql hs7 hbl hM
    obtain ⟨v0, v1, _⟩ := (Kgv.out.alloc (.cells #[.int .i64 kd, .string tx, .int .i64 nm, .slice A2 ql c2] 28)).one
    go_wp2_with fail
    rw [HV1.out]
    refine Hvis.out.mono ?_
    clear Hvis v0 v1 p0 p1 p2 p3 y0 y1 y2 y3 hg7 hfr7
    rintro e w5 h5
    rcases h5 with ⟨rfl, S', hj5, hfr5⟩ | ⟨rfl, k', S', hx5, hfr5⟩
    ·have Hj5 := Lib.hid hj5; have Hfr5 := Lib.hid hfr5
     clear hj5 hfr5
     go_wp2_with fail
     go_roundw
     case rel => exact ⟨k + 1, S', by omega, by go_num, Hfr5.out, by rw [Hoff.out]; exact Hj5.out, Hfr5.out.2.2.2.1.1.lt⟩
     case measure => simp [intOf]; omega
    ·obtain ⟨z0, z1, _⟩ := hfr5.2.2.2.1.1.one
     have Hx5 := Lib.hid hx5; have Hfr5 := Lib.hid hfr5
     clear hx5 hfr5
     have k9 := Hfr5.out.2.2.2.1.1.set_ 0 (.bool false)
     have hx9 : ∃ i', Jx i' S' (w5.setCell ⟨g2, 0, none⟩ (.bool false)) := Hx5.out.imp fun i' h' => HJx.out _ _ _ _ h' (kept_setCell hng2 Hfr5.out.2.2.2.1.2 0 _)
     have Hk9 := Lib.hid k9; have Hx9 := Lib.hid hx9
     clear k9 hx9
     go_wp2_with fail
     obtain ⟨V, hV⟩ : ∃ V, w5.setCell ⟨g2, 0, none⟩ (.bool false) = V := ⟨_, rfl⟩
     have k10 : Blk V g2 4 #[.bool false] := by rw [← hV]; simpa using Hk9.out
     have hx10 := Hx9.out
     rw [hV] at hx10 ⊢
     obtain ⟨c0, _, _⟩ := k10.one
     obtain ⟨i', hx11⟩ := hx10
     exact bodyPostM_none (v := .bool false) (by simp [results, Tryz.results67, go_sem, c0]) (.inr ⟨rfl, i', S', hx11⟩)
   ·have hki : ¬ (k : Int) < (pl : Int) := by omega
    obtain ⟨z0, z1, _⟩ := hfr.2.2.2.1.1.one
    have Hj := Lib.hid hj; have Hfrk := Lib.hid hfr
    have hkn : offP sf parts k = N := by
     rw [← HN.out]
     unfold offP
     rw [List.take_of_length_le (by rw [Hpe.out]; omega)]
    have k9 := Hfrk.out.2.2.2.1.1.set_ 0 (.bool true)
    have hx9 : J N T (wo.setCell ⟨g2, 0, none⟩ (.bool true)) := HJ.out _ _ _ _ (hkn ▸ Hj.out) (kept_setCell hng2 Hfrk.out.2.2.2.1.2 0 _)
    have Hk9 := Lib.hid k9; have Hx9 := Lib.hid hx9
    clear k9 hx9 hj hfr hkn
    go_wp2_with fail
    obtain ⟨V, hV⟩ : ∃ V, wo.setCell ⟨g2, 0, none⟩ (.bool true) = V := ⟨_, rfl⟩
    have k10 : Blk V g2 4 #[.bool true] := by rw [← hV]; simpa using Hk9.out
    have hx10 := Hx9.out
    rw [hV] at hx10 ⊢
    obtain ⟨c0, _, _⟩ := k10.one
    exact bodyPostM_none (v := .bool true) (by simp [results, Tryz.results67, go_sem, c0]) (.inl ⟨rfl, T, hx10⟩)
end Go.Proofs.YtnlhocbaighedaaGreatDoor
namespace Go.Proofs.YtnlhocbaighedaaGreatDoor
open Go.RowKit
set_option linter.unusedVariables false
set_option maxRecDepth 100000 in
set_option maxHeartbeats 8000000 in
theorem visit_none (kk : Int) (t : Str) (nv : Int) (parts : List Q) (f : Nat) (h2 : ¬ kk = 2) (h4 : ¬ kk = 4) (h5 : ¬ kk = 5) (h6 : ¬ kk = 6) (h7 : ¬ kk = 7) : VisitC (.node kk t nv parts) f [] := by
 intro v gy gv l J Jx S W n0 hn0 ky hSy kv hSv hq hS hJ hJx hY h0
 obtain ⟨A, c, rfl, _, _, _, hpq⟩ := hq
 dsimp only [Q.kind, Q.text, Q.num, Q.parts] at hpq ⊢
 obtain ⟨W1, g1, hW1, hg1, hs1, kq, kr, hal⟩ := boxPairV W #[.int .i64 kk, .string (bs t), .int .i64 nv, .slice A parts.length c] 28 #[.bool false] 4
 obtain ⟨q0, q1, q2, q3, _⟩ := kq.fourV
 obtain ⟨r0, r1, _⟩ := kr.one
 have hj1 : J 0 S W1 := hJ _ _ _ _ h0 (Kept.of_below hal)
 obtain ⟨g2, hg2⟩ : ∃ g, g1 + 1 = g := ⟨_, rfl⟩
 rw [hg2] at r0 r1 kr
 have hng2 : n0 ≤ g2 := by omega
 have hSg : ¬ S g2 := fun h => by have := hS g2 h; omega
 have hx9 : J 0 S (W1.setCell ⟨g2, 0, none⟩ (.bool true)) := hJ _ _ _ _ hj1 (kept_setCell hng2 hSg 0 _)
 have k9 := kr.set_ 0 (.bool true)
 have Hk9 := Lib.hid k9; have Hx9 := Lib.hid hx9
 clear hJ hJx hY hj1 ky kv kq kr hal h0 hS hs1 hn0 hpq k9 hx9
 refine callsIn_of_wp_marks (F := Fence.wide) (n := 0) Tryz.func67 rfl trivial ((wpIn_wide (n := 0)).2 ?_) rfl
 simp only [Tryz.ntmps67, List.size_toArray, List.length_cons, List.length_nil, Nat.reduceAdd, Nat.reduceSub, Array.replicate_succ, Array.replicate_zero, List.push_toArray, List.append_toArray, List.nil_append, List.cons_append]
 go_wp2_with fail
 obtain ⟨V, hV⟩ : ∃ V, W1.setCell ⟨g2, 0, none⟩ (.bool true) = V := ⟨_, rfl⟩
 have k10 : Blk V g2 4 #[.bool true] := by rw [← hV]; simpa using Hk9.out
 have hx10 := Hx9.out
 rw [hV] at hx10 ⊢
 obtain ⟨c0, _, _⟩ := k10.one
 exact bodyPostM_none (v := .bool true) (by simp [results, Tryz.results67, go_sem, c0]) (.inl ⟨rfl, S, hx10⟩)
namespace Rk
/-- the stems that count of a query of f levels -/
def stemsQ : Nat → Q → List Str
 | 0, q => if q.kind = 2 ∨ q.kind = 4 ∨ q.kind = 5 then (splitS q.text).map Sm.stem else []
 | f + 1, q => if q.kind = 2 ∨ q.kind = 4 ∨ q.kind = 5 then (splitS q.text).map Sm.stem else if q.kind = 6 ∨ q.kind = 7 then q.parts.flatMap (stemsQ f) else []
end Rk
theorem visit_words (kk : Int) (hk : kk = 2 ∨ kk = 4 ∨ kk = 5) (t : Str) (ht : t.length ≤ 4000000) (nv : Int) (parts : List Q) (f : Nat) : VisitC (.node kk t nv parts) f ((splitS t).map Sm.stem) := by
 intro v gy gv l J Jx S W n0 hn0 ky hSy kv hSv hq hS hJ hJx hY h0
 obtain ⟨A, c, rfl, _, _, _, hpq⟩ := hq
 dsimp only [Q.kind, Q.text, Q.num, Q.parts]
 have hY' : ∀ k (h : k < (splitS t).length) S W1, J k S W1 → n0 ≤ W1.heap.size → YieldAt Fence.wide 0 Tryz.prog l (encW (Sm.stem (splitS t)[k])) W1 fun e W' => ∃ S', Chg S S' W1 W' ∧ ((e = .returned (.bool true) ∧ J (k + 1) S' W') ∨ (e = .returned (.bool false) ∧ Jx (k + 1) S' W')) := fun k h S1 W1 h1 h2 => by
  have := hY k (by rw [List.length_map]; exact h) S1 W1 h1 h2
  rw [List.getElem_map] at this
  exact this
 rw [List.length_map]
 rcases hk with rfl | rfl | rfl
 ·exact visit_leaf gy gv t ht nv A parts.length c l J Jx S W n0 hn0 ky hSy hS hJ hJx hY' h0
 ·exact visit_leaf4 gy gv t ht nv A parts.length c l J Jx S W n0 hn0 ky hSy hS hJ hJx hY' h0
 ·exact visit_leaf5 gy gv t ht nv A parts.length c l J Jx S W n0 hn0 ky hSy hS hJ hJx hY' h0
theorem parts_bulk : ∀ l : List Q, l.length ≤ Q.bulks l
 | [] => Nat.zero_le _
 | .node k t n ps :: l => by
  have := parts_bulk l
  simp only [Q.bulks, Q.bulk, List.length_cons]
  omega
theorem visit_any : ∀ (f : Nat) (q : Q), q.bulk ≤ 4000000 → VisitC q f (Rk.stemsQ f q)
 | f, .node kk t nv parts => fun hb => by
  have ht : t.length ≤ 4000000 := by simp only [Q.bulk] at hb; omega
  have hp : parts.length ≤ 4000000 := by have := parts_bulk parts; simp only [Q.bulk] at hb; omega
  have hbp : ∀ p ∈ parts, p.bulk ≤ 4000000 := fun p hpm => by have := Q.bulks_mem hpm; simp only [Q.bulk] at hb; omega
  by_cases h1 : kk = 2 ∨ kk = 4 ∨ kk = 5
  ·have e : Rk.stemsQ f (.node kk t nv parts) = (splitS t).map Sm.stem := by
    cases f <;> rw [Rk.stemsQ] <;> exact if_pos h1
   rw [e]
   exact visit_words kk h1 t ht nv parts f
  ·by_cases h2 : kk = 6 ∨ kk = 7
   ·cases f with
    | zero =>
     have e : Rk.stemsQ 0 (.node kk t nv parts) = parts.flatMap fun _ => [] := by
      rw [Rk.stemsQ]
      refine (if_neg h1).trans ?_
      simp
     rw [e]
     exact visit_parts kk h2 t nv parts 0 (fun _ => []) hp (fun g h => by omega)
    | succ f =>
     have e : Rk.stemsQ (f + 1) (.node kk t nv parts) = parts.flatMap (Rk.stemsQ f) := by
      rw [Rk.stemsQ]
      exact (if_neg h1).trans (if_pos h2)
     rw [e]
     exact visit_parts kk h2 t nv parts (f + 1) (Rk.stemsQ f) hp (fun g h p hpm => by
      obtain rfl : f = g := by omega
      exact visit_any f p (hbp p hpm))
   ·have e : Rk.stemsQ f (.node kk t nv parts) = [] := by
     cases f with
     | zero => rw [Rk.stemsQ]; exact if_neg h1
     | succ f => rw [Rk.stemsQ]; exact (if_neg h1).trans (if_neg h2)
    rw [e]
    exact visit_none kk t nv parts f (fun h => h1 (.inl h)) (fun h => h1 (.inr (.inl h))) (fun h => h1 (.inr (.inr h))) (fun h => h2 (.inl h)) (fun h => h2 (.inr h))
/-- What the iterator reads: the query. -/
def stFQ (gq : Nat) (cs : Array Value) (f : Nat) (q : Q) (S : Nat → Prop) (w : World) : Prop := Blk w gq 28 cs ∧ ¬ S gq ∧ QAt f S w (.agg cs) q
set_option maxRecDepth 100000 in
set_option maxHeartbeats 8000000 in
theorem stems_iterQ (gq : Nat) (a b c d : Value) (f : Nat) (q : Q) (hbk : q.bulk ≤ 4000000) :
  Iter Tryz.prog 66 #[.pointer (some ⟨gq, 0, none⟩)] encW (Rk.stemsQ f q) (stFQ gq #[a, b, c, d] f q) := by
 intro ll J Jx S W hFP hS hJ hJx hY h0
 have hmf : ∀ (fn : Fn) (first cap : Array Value) (w : World), (Instr.makeFunc fn first cap).run Tryz.prog w = .ok (.func fn first cap) w := fun _ _ _ _ => rfl
 refine callsIn_of_wp Tryz.func66 rfl trivial ?_ rfl
 simp only [Tryz.ntmps66, List.size_toArray, List.length_cons, List.length_nil, Nat.reduceAdd, Nat.reduceSub, Array.replicate_succ, Array.replicate_zero, List.push_toArray, List.append_toArray, List.nil_append, List.cons_append]
 have hF1 : Fence.wide.fn 67 := trivial
 have hF3 : Fence.wide.depth = none := rfl
 have hF4 : Fence.wide.round = none := rfl
 obtain ⟨W1, gy, hW1, hgy, hs1, ky, kv, hal⟩ := boxPairV W #[.func (.yield ll) #[] #[]] 79 #[.nilFunc] 103
 obtain ⟨gv, hgv⟩ : ∃ g, gy + 1 = g := ⟨_, rfl⟩
 rw [hgv] at kv
 obtain ⟨v0, v1, _⟩ := kv.one
 obtain ⟨V, hV⟩ : ∃ V, W1.setCell ⟨gv, 0, none⟩ (.func (.func 67) #[] #[.pointer (some ⟨gy, 0, none⟩), .pointer (some ⟨gv, 0, none⟩)]) = V := ⟨_, rfl⟩
 have kv9 : Blk V gv 103 #[.func (.func 67) #[] #[.pointer (some ⟨gy, 0, none⟩), .pointer (some ⟨gv, 0, none⟩)]] := by
  rw [← hV]
  have := kv.set_ 0 (.func (.func 67) #[] #[.pointer (some ⟨gy, 0, none⟩), .pointer (some ⟨gv, 0, none⟩)])
  simpa using this
 have ky9 : Blk V gy 79 #[.func (.yield ll) #[] #[]] := by rw [← hV]; exact ky.far (p := ⟨gv, 0, none⟩) (by show gy ≠ gv; omega) _
 have hbV : Below W.heap.size W V := by rw [← hV]; exact hal.setCell (p := ⟨gv, 0, none⟩) (by show W.heap.size ≤ gv; omega) _
 obtain ⟨q0, q1, q2, q3, _⟩ := (hFP.1.ext hbV).fourV
 obtain ⟨u0, u1, _⟩ := kv9.one
 have hvis := visit_any f q hbk (.agg #[a, b, c, d]) gy gv ll J Jx S V W.heap.size hbV.size ky9 (fun h => by have := hS _ h; omega) kv9 (fun h => by have := hS _ h; omega) (hFP.2.2.ext hbV) (fun b hb => Nat.lt_of_lt_of_le (hS b hb) hbV.size) hJ hJx
  (fun k hk S1 W2 hj hsz => hY k hk S1 W2 hj hsz) (hJ _ _ _ _ h0 (Kept.of_below hbV))
 have Hvis := Lib.hid hvis; have HV := Lib.hid hV; have HW1 := Lib.hid hW1
 clear hvis ky kv kv9 ky9 hY hJ hJx hS h0 hFP hs1 hal hbV
 gi_wp2_with fail
 refine Hvis.out.mono ?_
 rintro e w5 hv5
 obtain ⟨tt, rfl⟩ : ∃ tt, e = .returned (.bool tt) := hv5.elim (fun h => ⟨_, h.1⟩) (fun h => ⟨_, h.1⟩)
 have hres : ((∃ S', J (Rk.stemsQ f q).length S' w5) ∨ ∃ k S', Jx k S' w5) := hv5.elim (fun h => .inl h.2) fun h => .inr h.2
 clear hv5
 gi_wp2
 exact bodyPost_end (results_none rfl _ _ _) rfl ⟨⟨_, rfl⟩, hres⟩
theorem stemsIt_any (cs : Array Value) (f : Nat) (q : Q) (hbk : q.bulk ≤ 4000000) (w : World) (hq : QAt f M0 w (.agg cs) q) : StemsIt cs (Rk.stemsQ f q) w := by
 obtain ⟨a, b, c, d, rfl⟩ : ∃ a b c d, cs = #[a, b, c, d] := by
  obtain ⟨A, c, e, _⟩ := hq
  injection e with e
  exact ⟨_, _, _, _, e⟩
 intro gq V hb kb hg
 refine ⟨_, stems_iterQ gq a b c d f q hbk, fun S' W hS' hW => ⟨kb.ext hW, fun h => ?_, ?_⟩⟩
 ·have h1 := hS' _ h
  have h2 := kb.lt
  omega
 ·have h3 : QAt f (fun b => V.heap.size ≤ b) V (.agg #[a, b, c, d]) q := (hq.ext hb).subR fun b hlt h => by omega
  exact (h3.ext hW).subR fun b hlt h => hS' b h
end Go.Proofs.YtnlhocbaighedaaGreatDoor
namespace Go.Proofs.YtnlhocbaighedaaGreatDoor
open Go.RowKit
set_option linter.unusedVariables false
/-- only the own block of a slice has turned among the elder ones -/
def KeepsBut (w w' : World) (v : Value) : Prop := ∀ b, b < w.heap.size → v.ownBlock ≠ some b → w'.heap[b]? = w.heap[b]?
/-- a slice's own block: the one of another slice, or a new one -/
def Turns (w : World) (v v' : Value) : Prop := ∀ b, v'.ownBlock = some b → v.ownBlock = some b ∨ w.heap.size ≤ b
theorem Turns.refl (w : World) (v : Value) : Turns w v v := fun b h => .inl h
theorem Turns.trans {w w1 : World} {v v1 v2 : Value} (h : Turns w v v1) (h2 : Turns w1 v1 v2) (hs : w.heap.size ≤ w1.heap.size) : Turns w v v2 := fun b hb => by
 rcases h2 b hb with e | e
 ·exact h b e
 ·exact .inr (by omega)
theorem KeepsBut.refl (w : World) (v : Value) : KeepsBut w w v := fun _ _ _ => rfl
theorem KeepsBut.trans {w w1 w2 : World} {v v1 : Value} (h : KeepsBut w w1 v) (t : Turns w v v1) (h2 : KeepsBut w1 w2 v1) (hs : w.heap.size ≤ w1.heap.size) : KeepsBut w w2 v := fun b hb hv => by
 rw [h2 b (by omega) fun e => ?_]
 ·exact h b hb hv
 ·rcases t b e with e | e
  ·exact hv e
  ·omega
theorem KeepsBut.grown {w w' : World} {v : Value} (h : w.grownBy w' v.ownBlock) : KeepsBut w w' v := fun b hb hv => h.block b hb fun e => hv e.symm
theorem KeepsBut.set {w : World} {g n c i : Nat} (u : Value) : KeepsBut w (w.setCell ⟨g, i, none⟩ u) (.slice (some ⟨g, 0, none⟩) n c) := fun b hb hv => Below.heap_setCell w ⟨g, i, none⟩ u b fun e => hv (by rw [e]; rfl)
def lenOf : Value → Nat
 | .slice _ n _ => n
 | _ => 0
theorem padded_more {L : List Str} {j n : Nat} (h : (L ++ List.replicate j ([] : Str)).length = max L.length (n + 1)) : L ++ List.replicate j ([] : Str) = Sr.padded L n := by
 unfold Sr.padded
 rw [List.length_append, List.length_replicate] at h
 rw [show j = n + 1 - L.length by omega]
set_option maxRecDepth 100000 in
set_option maxHeartbeats 4000000 in
theorem placed_ok (B : Nat) (A : Option Addr) (c : Nat) (L : List Str) (n : Nat) (v : Str) (w : World) (own : Own strC M0 w B 9 (.slice A L.length c) L) (hB : B ≤ w.heap.size) (hn : n ≤ 9223372036854775807) (hL : L.length ≤ 5001) (ht : Sr.tot L + v.length + 1 ≤ 4611686018427387904) :
  Calls Tryz.prog 51 #[.slice A L.length c, .int .i64 (n : Int), .string (bs v)] w fun e w' => ∃ (A' : Option Addr) (c' : Nat) (L' : List Str), e = .returned (.slice A' L'.length c') ∧ Hid (L' = Sr.placedF L n v) ∧ Own strC M0 w' B 9 (.slice A' L'.length c') L' ∧ Below B w w' ∧ KeepsBut w w' (.slice A L.length c) ∧ Turns w (.slice A L.length c) (.slice A' L'.length c') := by
 by_cases h5 : 5000 < n
 ·have h5i : (5000 : Int) < (n : Int) := by omega
  have hf : Sr.placedF L n v = L := by unfold Sr.placedF; rw [if_pos h5]
  have Hf := Lib.hid hf
  clear hf
  go_enter Tryz.func51, Tryz.ntmps51
  go_wp2
  go_ret
  exact ⟨A, c, L, rfl, Lib.hid Hf.out.symm, own, Below.refl _ _, KeepsBut.refl _ _, Turns.refl _ _⟩
 ·have h5i : ¬ (5000 : Int) < (n : Int) := by omega
  have hf : Sr.placedF L n v = (Sr.padded L n).set n ((if (Sr.padded L n).getD n [] = [] then [] else (Sr.padded L n).getD n [] ++ [32]) ++ v) := by unfold Sr.placedF; rw [if_neg h5]
  have htp := Sr.tot_padded L n
  have hpl := Sr.padded_len L n
  have hnp : n < (Sr.padded L n).length := by omega
  have Hf := Lib.hid hf; have Htp := Lib.hid htp; have Hpl := Lib.hid hpl
  clear hf htp hpl hnp
  obtain ⟨v0, hv0⟩ : ∃ v0, Value.slice A L.length c = v0 := ⟨_, rfl⟩
  have Hv0 := Lib.hid hv0
  clear hv0
  go_enter Tryz.func51, Tryz.ntmps51
  go_wp2
  go_loopw [0] (fun o wr => ∃ (j : Nat) (A' : Option Addr) (c' : Nat) (L' : List Str), o = .slice A' L'.length c' ∧ Hid (L' = L ++ List.replicate j []) ∧ L'.length ≤ max L.length (n + 1) ∧ Own strC M0 wr B 9 (.slice A' L'.length c') L' ∧ Below B w wr ∧ KeepsBut w wr v0 ∧ Turns w v0 (.slice A' L'.length c') ∧ w.heap.size ≤ wr.heap.size) (fun o _ => n + 1 - lenOf o)
  case atStart => exact ⟨0, A, c, L, rfl, Lib.hid (by simp), by omega, own, Below.refl _ _, KeepsBut.refl _ _, by rw [← Hv0.out]; exact Turns.refl _ _, Nat.le_refl _⟩
  case round =>
   obtain ⟨j, A1, c1, L1, rfl, hL1, hl1, own1, hb1, hkb, htn, hsz1⟩ := hrel
   have hbs : B ≤ wr.heap.size := by omega
   by_cases hlt : L1.length ≤ n
   ·have hli : (L1.length : Int) ≤ (n : Int) := by omega
    go_wp2_with (at_builtin; refine wpList_push_Own strC (M := M0) (B := B) TStrs rfl (.tmp 14) (.tmp 15) rfl rfl own1 rfl (cs := [.string ⟨#[]⟩]) (y := []) ⟨rfl, Nat.zero_le _⟩ (fun _ h => h.elim) ?a1 ?b1 hbs ?_)
    case a1 => unfold maxLen; omega
    case b1 => omega
    intro A4 c4 L4 w4 hL4 own4 hb4 hg4 ho4
    have hl4 : L4.length = L1.length + 1 := by rw [hL4.out, List.length_append]; rfl
    have ht4 : Turns wr (.slice A1 L1.length c1) (.slice A4 L4.length c4) := fun b hb => by
     rcases ho4 with e | e
     ·exact .inl (by rw [← e]; exact hb)
     ·rw [hb] at e; injection e with e; exact .inr (by omega)
    have hkb4 := hkb.trans htn (KeepsBut.grown hg4) hsz1
    have htn4 := htn.trans ht4 hsz1
    have hs4 := hg4.size
    clear ho4 hg4
    go_wp2
    go_roundw
    case rel => exact ⟨j + 1, A4, c4, L4, rfl, Lib.hid (by rw [hL4.out, hL1.out, List.append_assoc, List.replicate_succ']), by omega, own4, hb1.trans hb4, hkb4, htn4, by omega⟩
    case measure => simp [lenOf]; omega
   ·have hli : ¬ (L1.length : Int) ≤ (n : Int) := by omega
    have hnl : n < L1.length := by omega
    obtain ⟨g, c9, cur, hv, hlc, hcm, hBg, hblk, hsz⟩ := own1.blk (by omega)
    injection hv with hv1 hv2 hv3
    subst hv1 hv3
    have hpe : L1 = Sr.padded L n := by
     rw [hL1.out]
     have hj : L1.length = L.length + j := by rw [hL1.out, List.length_append, List.length_replicate]
     refine padded_more ?_
     rw [← hL1.out]
     omega
    obtain ⟨b, off, hA, _, _, p0, _⟩ := own1.read0.strAt (k := n) hnl
    injection hA with hA
    injection hA with hA1 hA2
    subst hA1 hA2
    rw [Nat.zero_add] at p0
    have hyt : L1[n].length ≤ Sr.tot L := by
     have h1 := Sr.tot_mem (List.getElem_mem hnl)
     have h2 : Sr.tot L1 = Sr.tot L := by rw [hpe, Htp.out]
     omega
    have hfin := Hf.out
    rw [← hpe, Ix.getD_get hnl] at hfin
    obtain ⟨y, hy⟩ : ∃ y, y = L1[n] := ⟨_, rfl⟩
    rw [← hy] at p0 hyt hfin
    have hf0 := hblk.frozen n
    have hgl := hblk.lt
    have hni : (n : Int) < (L1.length : Int) := by omega
    have hkb2 := fun u => hkb.trans htn (KeepsBut.set (w := wr) (g := g) (n := L1.length) (c := c1) (i := n) u) hsz1
    by_cases hye : y = []
    ·subst hye
     rw [if_pos rfl, List.nil_append] at hfin
     have hset := own1.put1 rfl (k := n) hnl (u := .string (bs v)) (a := v) ⟨rfl, by unfold maxLen; omega⟩
     rw [← hfin] at hset
     have hl9 : (Sr.placedF L n v).length = L1.length := by rw [hfin, List.length_set]
     have hcat : ((0 : Nat) + v.length ≤ 9223372036854775807) = True := by simp; omega
     have Hset := Lib.hid hset; have Hfin := Lib.hid hfin; have Hhl9 := Lib.hid hl9; have Hkb := Lib.hid hkb2
     clear hset hfin own1 hL1 hpe hy hblk hl9 hkb2 hkb
     go_wp2
     go_ret
     exact ⟨some ⟨g, 0, none⟩, c1, Sr.placedF L n v, by rw [Hhl9.out]; rfl, Lib.hid rfl, by rw [Hhl9.out]; exact Hset.out, hb1.setCell (p := ⟨g, n, none⟩) hBg _, by rw [Hv0.out]; exact Hkb.out _, by rw [Hv0.out]; exact htn⟩
    ·have hyb : (y == []) = false := by simpa using hye
     rw [if_neg hye] at hfin
     have hset := own1.put1 rfl (k := n) hnl (u := .string (bs (y ++ [32]))) (a := y ++ [32]) ⟨rfl, by unfold maxLen; simp; omega⟩
     have hset2 := Own.put1 rfl (w := wr.setCell ⟨g, n, none⟩ (.string (bs (y ++ [32])))) (g := g) (n := L1.length) (c := c1) hset (k := n) (by rw [List.length_set]; exact hnl) (u := .string (bs ((y ++ [32]) ++ v))) (a := (y ++ [32]) ++ v) ⟨rfl, by unfold maxLen; simp; omega⟩
     rw [List.set_set, ← hfin] at hset2
     have hl9 : (Sr.placedF L n v).length = L1.length := by rw [hfin, List.length_set]
     have hcat : (y.length + [(32 : UInt8)].length ≤ 9223372036854775807) = True := by simp; omega
     have hcat2 : ((y ++ [32]).length + v.length ≤ 9223372036854775807) = True := by simp; omega
     have Hset := Lib.hid hset2; have Hfin := Lib.hid hfin; have Hhl9 := Lib.hid hl9; have Hkb := Lib.hid (hkb2 (.string (bs (y ++ [32])))); have Hhb := Lib.hid (And.intro hgl (And.intro hBg htn))
     clear hset hset2 hfin own1 hL1 hpe hy hl9 hkb2 hkb
     go_wp2
     go_ret
     exact ⟨some ⟨g, 0, none⟩, c1, Sr.placedF L n v, by rw [Hhl9.out]; rfl, Lib.hid rfl, by rw [Hhl9.out]; exact Hset.out, (hb1.setCell (p := ⟨g, n, none⟩) hBg _).setCell (p := ⟨g, n, none⟩) hBg _, by rw [Hv0.out]; exact Hkb.out.trans htn (KeepsBut.set _) (by simp; omega), by rw [Hv0.out]; exact htn⟩
end Go.Proofs.YtnlhocbaighedaaGreatDoor

/-
  Contracts and plain facts, one after another: The two texts of the law: the index is good; the weights are positive; Queries built by the laws; searchExample; rankExample.
-/
import Derived.Test.YtiohhajkegpebaaGreatDoorR24
import Derived.Test.YtiohhajkegpebaaGreatDoorIxMd
import Derived.Test.YtiohhajkegpebaaGreatDoorR19
import Derived.Test.YtiohhajkegpebaaGreatDoorR13
import Derived.Test.YtiohhajkegpebaaGreatDoorR20
namespace Go.Proofs.YtiohhajkegpebaaGreatDoor
open Go.RowKit
set_option linter.unusedVariables false
namespace Rk
open Ix
theorem stemsD_fst (docs : List (Int × Str)) : (stemsD docs).map (fun d => d.1) = docs.map fun d => d.1 := by unfold stemsD; rw [List.map_map]; rfl
theorem canon_none : Canon ([], []) := (indexF_zero ([], [])).1 rfl
theorem addR_of' {x : Idx} {id : Int} {t : Str} (hc : Canon x) (hr : 1 ≤ id ∧ id ≤ 1000000) (ht : t.length ≤ 4000) (hid : id ∉ x.1) (hn : x.1.length ≠ 300) (hm : (putAll id (Sm.stems t) 0 x.2).length ≤ 1000000) : addR x id t = (addF x id (Sm.stems t), 0, 0) := by
  unfold addR
  rw [if_neg (by simpa using (indexF_zero x).2 hc), if_neg (by omega), if_neg (by omega), if_neg (by omega), if_neg hid, if_neg hn, if_neg (by omega)]
/-- one text more, under a greater number -/
theorem made_step {docs : List (Int × Str)} {d : Int × Str} (hs : ((docs ++ [d]).map fun d => d.1).Pairwise (· < ·)) (hall : ∀ e ∈ docs ++ [d], e.2.length ≤ 4000) (hn : docs.length < 100) (hid : 1 ≤ d.1 ∧ d.1 ≤ 1000000) (hc : Canon (madeF (stemsD docs))) : Canon (madeF (stemsD (docs ++ [d]))) := by
  have hst : stemsD (docs ++ [d]) = stemsD docs ++ [(d.1, Sm.stems d.2)] := by unfold stemsD; rw [List.map_append]; rfl
  have hsn : madeF (stemsD (docs ++ [d])) = addF (madeF (stemsD docs)) d.1 (Sm.stems d.2) := by
    rw [hst]
    refine made_snoc ?_
    rw [← hst, stemsD_fst]
    exact hs
  have hids : (madeF (stemsD docs)).1 = docs.map fun d => d.1 := by rw [made_eq]
  have hnot : d.1 ∉ (madeF (stemsD docs)).1 := by
    rw [hids]
    intro hm
    rw [List.map_append, List.pairwise_append] at hs
    have := hs.2.2 _ hm d.1 (by simp)
    omega
  have hterms : (putAll d.1 (Sm.stems d.2) 0 (madeF (stemsD docs)).2).length ≤ 1000000 := by
    have : (madeF (stemsD (docs ++ [d]))).2 = putAll d.1 (Sm.stems d.2) 0 (madeF (stemsD docs)).2 := by rw [hsn]; rfl
    rw [← this, made_eq]
    show (termsD _ _).length ≤ _
    unfold termsD
    rw [List.length_map]
    have := wordsD_len (docs ++ [d]) hall (by simp; omega)
    omega
  have h := addR_of' hc hid (hall d (by simp)) hnot (by rw [hids, List.length_map]; omega) hterms
  have hg := addR_good (x := madeF (stemsD docs)) (id := d.1) (t := d.2) (by rw [h])
  rw [hsn]
  exact hg.2.2.2.2
theorem sub_len : ∀ (a b : List Int), a.Pairwise (· < ·) → b.Pairwise (· < ·) → (∀ x ∈ a, x ∈ b) → a.length ≤ b.length
  | [], b, _, _, _ => Nat.zero_le _
  | x :: a, b, ha, hb, hs => by
    obtain ⟨p, q, rfl⟩ := List.append_of_mem (hs x (.head _))
    rw [List.pairwise_cons] at ha
    rw [List.pairwise_append, List.pairwise_cons] at hb
    have h := sub_len a q ha.2 hb.2.1.2 fun y hy => by
      have h1 := ha.1 y hy
      rcases List.mem_append.1 (hs y (.tail _ hy)) with h2 | h2
      · have := hb.2.2 y h2 x (.head _); omega
      · rcases List.mem_cons.1 h2 with h3 | h3
        · omega
        · exact h3
    simp only [List.length_append, List.length_cons]
    omega
/-- a term has no more postings than there are texts -/
theorem few_posts {x : Idx} (h : Canon x) (s : Str) : ((Al.look x.2 s).getD []).length ≤ x.1.length := by
  cases hk : Al.look x.2 s with
  | none => simp
  | some ps =>
    obtain ⟨_, h2, h3⟩ := h.post _ (Al.look_mem hk)
    have := sub_len (ps.map fun p => p.1) x.1 ((pair_sorted ps).2 h2) h.ids fun y hy => by
      obtain ⟨p, hp, rfl⟩ := List.mem_map.1 hy
      exact (h3 p hp).1
    rw [List.length_map] at this
    exact this
theorem weight_pos' {x : Idx} (h : Canon x) (s : Str) : 0 < weight x s := weight_pos (by have := few_posts h s; omega)
theorem two_canon {t u : Str} (ht : t.length ≤ 4000) (hu : u.length ≤ 4000) {i j : Int} (hi : 1 ≤ i ∧ i < j ∧ j ≤ 1000000) : Canon (madeF (stemsD [(i, t), (j, u)])) := by
  have h1 : Canon (madeF (stemsD ([] ++ [(i, t)]))) := made_step (by simp) (by simpa using ht) (by simp) (by simp; omega) canon_none
  exact made_step (docs := [(i, t)]) (d := (j, u)) (by simp; omega) (by simp; exact ⟨ht, hu⟩) (by simp) (by simp; omega) h1
theorem canon_sz {x : Idx} (h : Canon x) : SzIx x.2 := fun t ht => by
  have := (h.small.posts _ ht).1
  omega
end Rk
end Go.Proofs.YtiohhajkegpebaaGreatDoor
namespace Go.Proofs.YtiohhajkegpebaaGreatDoor
open Go.RowKit
set_option linter.unusedVariables false
theorem qleaf (w : World) (f : Nat) (k : Int) (t : Str) (hk : -9223372036854775808 ≤ k ∧ k ≤ 9223372036854775807) (ht : t.length ≤ maxLen) : QAt f M0 w (.agg #[.int .i64 k, .string (bs t), .int .i64 0, .slice none 0 0]) (.node k t 0 []) :=
  ⟨none, 0, rfl, hk, ht, by simp, SlR.nil _ _ _⟩
theorem qnode {w : World} {f : Nat} {A : Option Addr} {n c : Nat} {l : List Q} (k : Int) (h : SlR (qF f) M0 w (.slice A n c) l) (hn : l.length = n) (hk : -9223372036854775808 ≤ k ∧ k ≤ 9223372036854775807) : QAt f M0 w (.agg #[.int .i64 k, .string ⟨#[]⟩, .int .i64 0, .slice A n c]) (.node k [] 0 l) := by
  subst hn
  exact ⟨A, c, rfl, hk, by simp, by simp, h⟩
theorem SlR.of_blk {α : Type} {C : Codec α} {w : World} {g : Nat} {T : TypeId} {cs : List Value} {l : List α} (k : Blk w g T cs.toArray) (he : Els C M0 w cs l) (hm : l.length ≤ maxLen) {n : Nat} (hn : l.length = n) : SlR C M0 w (.slice (some ⟨g, 0, none⟩) n n) l := by
  subst hn
  exact ⟨_, _, _, cs, rfl, rfl, Nat.le_refl _, hm, he, fun _ => ⟨g, 0, rfl, fun h => h.elim, k.lt, fun j u hu => by rw [Nat.zero_add, k.cell]; simpa using hu⟩⟩
theorem qrow1 {w : World} {f : Nat} {cs : List Value} {q : Q} (h : QAt f M0 w (.agg cs.toArray) q) : SlR (qF (f + 1)) M0 (w.alloc (.cells cs.toArray 25)) (.slice (some ⟨w.heap.size, 0, none⟩) 1 1) [q] :=
  (Own.built (M := M0) (B := w.heap.size) (C := qF (f + 1)) 25 (cs := cs) (l := [q]) (Els.single (by have := h.rd; simpa [Value.cells] using this)) (Nat.le_refl _) (by simp [maxLen])).read0
theorem qrow2 {w : World} {f : Nat} {cs ds : List Value} {q r : Q} (h : QAt f M0 w (.agg cs.toArray) q) (h' : QAt f M0 w (.agg ds.toArray) r) : SlR (qF (f + 1)) M0 (w.alloc (.cells (cs ++ ds).toArray 25)) (.slice (some ⟨w.heap.size, 0, none⟩) 2 2) [q, r] :=
  (Own.built (M := M0) (B := w.heap.size) (C := qF (f + 1)) 25 (cs := cs ++ ds) (l := [q] ++ [r]) ((Els.single (by have := h.rd; simpa [Value.cells] using this)).append (Els.single (by have := h'.rd; simpa [Value.cells] using this))) (Nat.le_refl _) (by simp [maxLen])).read0
theorem docs2 (w : World) (a b : Int) (s t : Str) (ha : -9223372036854775808 ≤ a ∧ a ≤ 9223372036854775807) (hb : -9223372036854775808 ≤ b ∧ b ≤ 9223372036854775807) (hs : s.length ≤ maxLen) (ht : t.length ≤ maxLen) :
    SlR docC M0 (w.alloc (.cells #[.int .i64 a, .string (bs s), .int .i64 b, .string (bs t)] 35)) (.slice (some ⟨w.heap.size, 0, none⟩) 2 2) [(a, s), (b, t)] :=
  (Own.built (M := M0) (B := w.heap.size) (C := docC) 35 (cs := [.int .i64 a, .string (bs s)] ++ [.int .i64 b, .string (bs t)]) (l := [(a, s)] ++ [(b, t)])
    ((Els.single (C := docC) (a := (a, s)) ⟨[.int .i64 a], [.string (bs s)], rfl, ⟨rfl, ha⟩, rfl, hs⟩).append (Els.single (C := docC) (a := (b, t)) ⟨[.int .i64 b], [.string (bs t)], rfl, ⟨rfl, hb⟩, rfl, ht⟩)) (Nat.le_refl _) (by simp [maxLen])).read0
abbrev seD1 : Str := [109, 97, 105, 108, 32, 105, 115, 32, 115, 101, 110, 116]
abbrev seD2 : Str := [109, 97, 105, 108, 32, 97, 110, 100, 32, 106, 117, 110, 107]
abbrev seMail : Str := [109, 97, 105, 108]
abbrev seJunk : Str := [106, 117, 110, 107]
def seX : Ix.Idx := Ix.madeF (Ix.stemsD [(1, seD1), (2, seD2)])
def seQ : Q := .node 6 [] 0 [.node 2 seMail 0 [], .node 8 [] 0 [.node 2 seJunk 0 []]]
theorem se_i1 : seX.1 = [1, 2] := by decide +kernel
theorem se_1 : ((Sr.findR seX seQ).1 == [1]) = true := by decide +kernel
theorem se_2 : (Sr.findR seX seQ).2.1 = 0 := by decide +kernel
theorem se_3 : (Sr.findR seX seQ).2.2 = 0 := by decide +kernel
theorem se_find : Sr.findR seX seQ = ([1], 0, 0) := Prod.ext (by simpa using se_1) (Prod.ext se_2 se_3)
theorem se_sz : (seX.2.all fun t => decide (t.2.length ≤ 2)) = true := by decide +kernel
theorem se_len : seX.2.length = 5 := by decide +kernel
theorem se_bulk : seQ.bulk ≤ 4000000 := by decide +kernel
end Go.Proofs.YtiohhajkegpebaaGreatDoor
namespace Go.Proofs.YtiohhajkegpebaaGreatDoor
open Go.RowKit
set_option linter.unusedVariables false
namespace Rk
abbrev dog : Str := [100, 111, 103]
abbrev dogs : Str := [100, 111, 103, 32, 100, 111, 103, 32, 99, 97, 116]
def rkX : Ix.Idx := Ix.madeF (Ix.stemsD [(1, dog), (2, dogs)])
def rkQ : Q := .node 2 dog 0 []
def rkS : List Str := (splitS dog).map Sm.stem
theorem rk_s : rkS = [Sm.stem dog] := by decide +kernel
theorem rk_1 : ((Sr.findR rkX rkQ).1 == [1, 2]) = true := by decide +kernel
theorem rk_2 : (Sr.findR rkX rkQ).2.1 = 0 := by decide +kernel
theorem rk_3 : (Sr.findR rkX rkQ).2.2 = 0 := by decide +kernel
theorem rk_find : Sr.findR rkX rkQ = ([1, 2], 0, 0) := Prod.ext (by simpa using rk_1) (Prod.ext rk_2 rk_3)
theorem rk_c1 : scoreF rkX [Sm.stem dog] 1 = 1000 := by decide +kernel
theorem rk_c2 : scoreF rkX [Sm.stem dog] 2 = 2000 := by decide +kernel
theorem rk_canon : Ix.Canon rkX := two_canon (by simp) (by simp) (by omega)
theorem rk_bulk : rkQ.bulk ≤ 4000000 := by decide +kernel
theorem rk_i : rkX.1.contains 2 = true := by decide +kernel
theorem rk_score : scoreR rkX rkQ rkS 2 = (2000, 0, 0) := by
  unfold scoreR
  rw [rk_find, if_neg (by simp), if_pos rk_i, rk_s, count_one, rk_c2]
theorem rk_order : orderR rkX rkQ rkS = ([2, 1], 0, 0) := by
  unfold orderR
  rw [rk_find, if_neg (by simp), rk_s, count_one]
  show (sinkF (ordF rkX [Sm.stem dog]) [1, 2], (0 : Int), (0 : Int)) = _
  have h : ordF rkX [Sm.stem dog] 2 1 < 0 := by unfold ordF; rw [rk_c1, rk_c2]; omega
  simp [sinkF, insR, h]
end Rk
set_option maxRecDepth 100000 in
set_option maxHeartbeats 4000000 in
theorem rankExample_ok (w : World) (hT : TabsU w) : Calls Tryz.prog 4 #[] w fun e w' => e = .returned (.bool true) ∧ Below w.heap.size w w' := by
  obtain ⟨W1, g1, hW1, hg1, hs1, k1, hal1⟩ := boxA w #[.int .i64 1, .string ⟨#[100, 111, 103]⟩, .int .i64 2, .string ⟨#[100, 111, 103, 32, 100, 111, 103, 32, 99, 97, 116]⟩] 35
  have hd : SlR docC M0 (w.alloc (.cells #[.int .i64 1, .string ⟨#[100, 111, 103]⟩, .int .i64 2, .string ⟨#[100, 111, 103, 32, 100, 111, 103, 32, 99, 97, 116]⟩] 35)) (.slice (some ⟨w.heap.size, 0, none⟩) 2 2) [(1, Rk.dog), (2, Rk.dogs)] := docs2 w 1 2 Rk.dog Rk.dogs (by omega) (by omega) (by simp [maxLen]) (by simp [maxLen])
  rw [hW1, hg1] at hd
  have hmade := refMade_ok _ _ W1 hd (by simp) (fun d hd => by simp at hd; rcases hd with rfl | rfl <;> simp) (hT.ext hal1)
  rw [show Ix.madeF (Ix.stemsD [(1, Rk.dog), (2, Rk.dogs)]) = Rk.rkX from rfl] at hmade
  have HW1 := Lib.hid hW1; have Hmade := Lib.hid hmade; have Hal1 := Lib.hid hal1; have HT := Lib.hid hT
  clear hW1 hmade hal1 hd k1 hs1 hT
  go_enter Tryz.func4, Tryz.ntmps4
  go_wp2_with fail
  rw [HW1.out]
  refine Hmade.out.mono ?_
  rintro e w2 ⟨a, b, rfl, ha, hb, hb2⟩
  obtain ⟨A0, c0, rfl, _, _⟩ := ha.form
  obtain ⟨A1, c1, rfl, _, _⟩ := hb.form
  have hbw := Hal1.out.trans (hb2.mono Hal1.out.size)
  obtain ⟨n0, hn0⟩ : ∃ n, Rk.rkX.1.length = n := ⟨_, rfl⟩
  obtain ⟨n1, hn1⟩ : ∃ n, Rk.rkX.2.length = n := ⟨_, rfl⟩
  rw [hn0] at ha ⊢
  rw [hn1] at hb ⊢
  clear hg1 hb2 Hal1 HW1 Hmade
  obtain ⟨W, g, hW, hg, hs, kI, kQ, hal⟩ := boxPair w2 #[.slice A0 n0 c0, .slice A1 n1 c1] 32 #[.int .i64 2, .string ⟨#[100, 111, 103]⟩, .int .i64 0, .slice none 0 0] 25
  obtain ⟨x0, x1, _⟩ := kI.two
  obtain ⟨q0, q1, q2, q3, _⟩ := kQ.fourV
  have hqa : QAt 0 M0 W (.agg #[.int .i64 2, .string (bs Rk.dog), .int .i64 0, .slice none 0 0]) Rk.rkQ := qleaf W 0 2 Rk.dog (by omega) (by simp [maxLen])
  have hbW := hbw.trans (hal.mono hbw.size)
  have hit : ∀ (W0 V : World) (cs : Array Value), Below W0.heap.size W0 V → (Value.agg #[.int .i64 2, .string (bs Rk.dog), .int .i64 0, .slice none 0 0]) = .agg cs → StemsIt cs Rk.rkS V := by
    intro W0 V cs _ e
    injection e with e
    subst e
    exact stemsIt_leaf Rk.dog (by simp) 0 none 0 0 V
  have hx : ∀ s ∈ Rk.rkS, s.length ≤ maxLen := by
    rw [Rk.rk_s]
    intro s hs
    rw [List.mem_singleton.1 hs]
    have : (Sm.stem Rk.dog).length ≤ 100 := by decide +kernel
    unfold maxLen; omega
  have hn : Rk.rkS.length ≤ 10000 := by rw [Rk.rk_s]; simp
  have hsco := rankScore_ok (.slice A0 n0 c0) (.slice A1 n1 c1) _ Rk.rkX Rk.rkQ 0 Rk.rkS 2 W (ha.ext hal) (hb.ext hal) hqa Rk.rk_canon (Rk.canon_sz Rk.rk_canon) Rk.rk_bulk (HT.out.ext hbW) (hit W) hx hn
  rw [Rk.rk_score] at hsco
  dsimp only at hsco
  have hord := fun V (hV : Below W.heap.size W V) => rankOrder_ok (.slice A0 n0 c0) (.slice A1 n1 c1) _ Rk.rkX Rk.rkQ 0 Rk.rkS V ((ha.ext hal).ext hV) ((hb.ext hal).ext hV) (hqa.ext hV) Rk.rk_canon (Rk.canon_sz Rk.rk_canon) Rk.rk_bulk ((HT.out.ext hbW).ext hV) (hit V) hx hn (sortsFew _ _ (by rw [Rk.rk_find]; simp))
  simp only [Rk.rk_order] at hord
  have HW := Lib.hid hW; have Hsco := Lib.hid hsco; have Hord := Lib.hid hord; have HbW := Lib.hid hbW; have HI := Lib.hid kI; have HQ := Lib.hid kQ
  clear hW hsco hord hbW kI kQ hqa hit hx hn hs hal ha hb hn0 hn1 hbw HT
  go_wp2_with fail
  rw [HW.out]
  refine Hsco.out.mono ?_
  clear Hsco HW
  rintro e w3 ⟨rfl, hb3⟩
  obtain ⟨U, gu, hU, hgu, hsu, kU, halU⟩ := boxA w3 #[.int .i64 0, .int .i64 0] 27
  have hbWU := hb3.trans (halU.mono hb3.size)
  clear x0 x1 q0 q1 q2 q3
  obtain ⟨x0, x1, _⟩ := ((HI.out.ext hb3).alloc (.cells #[.int .i64 0, .int .i64 0] 27)).two
  obtain ⟨q0, q1, q2, q3, _⟩ := ((HQ.out.ext hb3).alloc (.cells #[.int .i64 0, .int .i64 0] 27)).fourV
  have Hor := Lib.hid (Hord.out U hbWU)
  have HU := Lib.hid hU; have HkU := Lib.hid kU; have HbU := Lib.hid (HbW.out.trans (hbWU.mono HbW.out.size))
  clear hU kU hbWU halU hb3 hsu Hord
  go_wp2_with fail
  rw [HU.out]
  refine Hor.out.mono ?_
  clear Hor HU hgu x0 x1 q0 q1 q2 q3
  rintro e w4 ⟨v, rfl, hv, hb4⟩
  obtain ⟨A4, c4, rfl, _, _⟩ := hv.form
  have kU4 := HkU.out.ext hb4
  have hbw4 := HbU.out.trans (hb4.mono HbU.out.size)
  obtain ⟨V, gV, hV, hgV, hsV, kV, kL, halV⟩ := boxPair w4 #[.int .i64 0, .int .i64 0] 27 #[.int .i64 2, .int .i64 1] 3
  have hl1 : SlR intC M0 V (.slice (some ⟨gV + 1, 0, none⟩) 2 2) [2, 1] := SlR.of_blk (cs := [.int .i64 2] ++ [.int .i64 1]) kL ((Els.single (C := intC) (a := 2) ⟨rfl, by omega⟩).append (Els.single (C := intC) (a := 1) ⟨rfl, by omega⟩)) (by simp [maxLen]) rfl
  have hin := ints_ok _ _ [2, 1] [2, 1] V (hv.ext halV) hl1
  rw [show (([2, 1] : List Int) == [2, 1]) = true by rfl] at hin
  have hbV := hbw4.trans (halV.mono hbw4.size)
  have k5 : Blk (w4.alloc (.cells #[.int .i64 0, .int .i64 0] 27)) w4.heap.size 27 #[.int .i64 0, .int .i64 0] := Blk.new w4 _ _
  obtain ⟨u0, u1, _, _, _⟩ := k5.two
  obtain ⟨v0, v1, _, _, _⟩ := (kU4.alloc (.cells #[.int .i64 0, .int .i64 0] 27)).two
  have HV := Lib.hid hV; have Hin := Lib.hid hin; have HbV := Lib.hid hbV
  clear hV hin kV kL hl1 hbV hbw4 hb4 halV hsV hv k5 kU4
  rw [hgV] at u0 u1
  go_wp2_with fail
  rw [HV.out]
  refine Hin.out.mono ?_
  rintro e w5 ⟨rfl, hb5⟩
  clear u0 u1 v0 v1
  go_wp2_with fail
  go_ret
  exact ⟨rfl, HbV.out.trans (hb5.mono HbV.out.size)⟩
end Go.Proofs.YtiohhajkegpebaaGreatDoor

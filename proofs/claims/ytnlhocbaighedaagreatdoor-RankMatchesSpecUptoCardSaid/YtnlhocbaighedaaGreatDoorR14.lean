/-
  Contracts and plain facts, one after another: The reference Made: its plain steps, and the states of its walk; Scores, plain: what rank.Score computes; one word more does not lower it; rank.score; slices.Collect of ints, over an iterator; Searching: what a query finds; plain.
-/
import Derived.Test.YtnlhocbaighedaaGreatDoorR2
import Derived.Test.YtnlhocbaighedaaGreatDoorR13
import Derived.Test.YtnlhocbaighedaaGreatDoorR12
import Derived.Test.YtnlhocbaighedaaGreatDoorIxB
import Derived.Test.YtnlhocbaighedaaGreatDoorQyNd
import Derived.Test.YtnlhocbaighedaaGreatDoorR7
import Derived.Test.YtnlhocbaighedaaGreatDoorR9
import Derived.Test.YtnlhocbaighedaaGreatDoorR4
namespace Go.Proofs.YtnlhocbaighedaaGreatDoor
open Go.RowKit
set_option linter.unusedVariables false
namespace Ix
theorem occ_snoc (w a : Str) : ∀ (s : List Str) (n : Nat), occ w (s ++ [a]) n = occ w s n ++ if a = w then [((n + s.length : Nat) : Int)] else []
 | [], n => by
  rw [List.nil_append, occ, occ]
  split <;> simp [occ]
 | b :: s, n => by
  rw [List.cons_append, occ, occ, occ_snoc w a s (n + 1), List.length_cons, show n + 1 + s.length = n + (s.length + 1) by omega]
  split <;> simp
theorem occ_take (w : Str) (s : List Str) {k : Nat} (hk : k < s.length) : occ w (s.take (k + 1)) 0 = occ w (s.take k) 0 ++ if s[k] = w then [(k : Int)] else [] := by
 rw [List.take_succ_eq_append_getElem hk, occ_snoc, List.length_take, Nat.min_eq_left (by omega), Nat.zero_add]
/-- texts as lists of stems -/
def stemsD (docs : List (Int × Str)) : List Doc := docs.map fun d => (d.1, Sm.stems d.2)
theorem stemsD_take (docs : List (Int × Str)) {k : Nat} (hk : k < docs.length) : stemsD (docs.take (k + 1)) = stemsD (docs.take k) ++ [(docs[k].1, Sm.stems docs[k].2)] := by
 unfold stemsD
 rw [List.take_succ_eq_append_getElem hk, List.map_append]
 rfl
theorem postsOf_take (docs : List (Int × Str)) (w : Str) {k : Nat} (hk : k < docs.length) : postsOf (stemsD (docs.take (k + 1))) w = postsOf (stemsD (docs.take k)) w ++ if occ w (Sm.stems docs[k].2) 0 = [] then [] else [(docs[k].1, occ w (Sm.stems docs[k].2) 0)] := by
 unfold postsOf
 rw [stemsD_take docs hk, List.filterMap_append]
 congr 1
 by_cases h : occ w (Sm.stems docs[k].2) 0 = []
 ·simp [h]
 ·simp [h]
def wordsD (docs : List (Int × Str)) : List Str := wordsOf ((stemsD docs).flatMap fun d => d.2)
theorem wordsD_take (docs : List (Int × Str)) {k : Nat} (hk : k < docs.length) : wordsD (docs.take (k + 1)) = (Sm.stems docs[k].2).foldl putW (wordsD (docs.take k)) := by
 unfold wordsD wordsOf
 rw [stemsD_take docs hk, List.flatMap_append, List.foldl_append]
 simp
theorem putW_len (l : List Str) (s : Str) : (putW l s).length ≤ l.length + 1 := by
 unfold putW
 split
 ·omega
 ·unfold insW
  have := congrArg List.length (List.takeWhile_append_dropWhile (p := fun a => ltS a s) (l := l))
  rw [List.length_append] at this
  rw [List.length_append, List.length_cons]
  omega
theorem foldW_len : ∀ (ws l : List Str), (ws.foldl putW l).length ≤ l.length + ws.length
 | [], l => Nat.le_refl _
 | w :: ws, l => by
  have := foldW_len ws (putW l w)
  have := putW_len l w
  rw [List.foldl_cons, List.length_cons]
  omega
theorem wordsD_len (docs : List (Int × Str)) (h : ∀ d ∈ docs, d.2.length ≤ 4000) (hn : docs.length ≤ 100) : (wordsD docs).length ≤ 400000 := by
 have h1 := foldW_len ((stemsD docs).flatMap fun d => d.2) []
 have h2 : ∀ l : List (Int × Str), (∀ d ∈ l, d.2.length ≤ 4000) → ((stemsD l).flatMap fun d => d.2).length ≤ 4000 * l.length := by
  intro l
  induction l with
  | nil => intro _; simp [stemsD]
  | cons d l ih =>
   intro h
   have := ih fun d hd => h d (.tail _ hd)
   have := stems_count d.2
   have := h d (.head _)
   unfold stemsD at *
   rw [List.map_cons, List.flatMap_cons, List.length_append, List.length_cons]
   simp only at *
   omega
 have := h2 docs h
 unfold wordsD wordsOf
 simp only [List.length_nil] at h1
 omega
/-- the terms of the first words -/
def termsD (docs : List (Int × Str)) (words : List Str) : List Term := words.map fun w => (w, postsOf (stemsD docs) w)
theorem made_eq (docs : List (Int × Str)) : madeF (stemsD docs) = (docs.map fun d => d.1, termsD docs (wordsD docs)) := by
 unfold madeF termsD wordsD
 congr 1
 unfold stemsD
 rw [List.map_map]
 rfl
end Ix
/-! ### the states -/
def docC : Codec (Int × Str) := pairC intC strC
theorem SlR.docAt {M : Nat → Prop} {w : World} {A : Option Addr} {n c : Nat} {l : List (Int × Str)} (h : SlR docC M w (.slice A n c) l) {k : Nat} (hk : k < l.length) :
  ∃ b off, A = some ⟨b, off, none⟩ ∧ b < w.heap.size ∧ w.cell? ⟨b, off + k * 2, none⟩ = some (.int .i64 l[k].1) ∧ w.cell? ⟨b, off + k * 2 + 1, none⟩ = some (.string (bs l[k].2)) ∧ -9223372036854775808 ≤ l[k].1 ∧ l[k].1 ≤ 9223372036854775807 := by
 obtain ⟨b, off, cs, rfl, hM, hb, ⟨c1, d1, rfl, ⟨rfl, hr⟩, ⟨rfl, _⟩⟩, hc⟩ := h.at_ hk
 exact ⟨b, off, rfl, hb, hc 0 _ rfl, hc 1 _ rfl, hr.1, hr.2⟩
/-- the blocks below B are as they were, but for one -/
structure Sav (B g : Nat) (w w' : World) : Prop where
 os : w'.os = w.os
 tape : w'.tape = w.tape
 output : w'.output = w.output
 size : w.heap.size ≤ w'.heap.size
 block : ∀ b, b < B → b ≠ g → w'.heap[b]? = w.heap[b]?
theorem Sav.refl (B g : Nat) (w : World) : Sav B g w w := ⟨rfl, rfl, rfl, Nat.le_refl _, fun _ _ _ => rfl⟩
theorem Sav.below {B g : Nat} {w w' w'' : World} (h : Sav B g w w') (hb : Below B w' w'') : Sav B g w w'' :=
 ⟨hb.os.trans h.os, hb.tape.trans h.tape, hb.output.trans h.output, Nat.le_trans h.size hb.size, fun b h1 h2 => (hb.block b h1).trans (h.block b h1 h2)⟩
theorem Sav.set {B g : Nat} {w w' : World} (h : Sav B g w w') (i : Nat) (u : Value) : Sav B g w (w'.setCell ⟨g, i, none⟩ u) :=
 ⟨h.os, h.tape, h.output, by simpa using h.size, fun b h1 h2 => (heap_set_ne _ _ _ h2).trans (h.block b h1 h2)⟩
theorem Sav.whole {B B0 g : Nat} {w w1 w' : World} (h : Sav B g w1 w') (h0 : Below B0 w w1) (h1 : B0 ≤ B) (h2 : B0 ≤ g) : Below B0 w w' :=
 ⟨h.os.trans h0.os, h.tape.trans h0.tape, h.output.trans h0.output, Nat.le_trans h0.size h.size, fun b hb => (h.block b (by omega) (by omega)).trans (h0.block b hb)⟩
theorem SlR.apart {α : Type} {C : Codec α} {w w' : World} {v : Value} {l : List α} {g : Nat} (h : SlR C (fun b => b ≤ g) w v l) (ha : Sav w.heap.size g w w') : SlR C (fun b => b ≤ g) w' v l :=
 h.keep (fun b h1 h2 => ha.block b h1 (by omega)) ha.size
/-- the words under way -/
structure Mk1 (B g3 : Nat) (vI vW : Value) (ids : List Int) (words : List Str) (w1 wr : World) : Prop where
 kx : Blk wr g3 25 #[vI, .slice none 0 0]
 ownI : Own intC M0 wr B 3 vI ids
 ownW : Own strC M0 wr B 9 vW words
 ne : ∀ b, vW.ownBlock = some b → vI.ownBlock ≠ some b
 apart : Sav B g3 w1 wr
 big : B ≤ wr.heap.size
variable {B g3 : Nat} {vI vW : Value} {ids : List Int} {words : List Str} {w1 wr : World}
theorem Mk1.ext (h : Mk1 B g3 vI vW ids words w1 wr) {w' : World} (hb : Below wr.heap.size wr w') : Mk1 B g3 vI vW ids words w1 w' :=
 ⟨h.kx.ext hb, h.ownI.ext hb, h.ownW.ext hb, h.ne, h.apart.below (hb.mono h.big), Nat.le_trans h.big hb.size⟩
theorem Mk1.word (h : Mk1 B g3 vI vW ids words w1 wr) {w' : World} {vW' : Value} {words' : List Str} (hb : Below wr.heap.size wr w') (ho : Own strC M0 w' wr.heap.size 9 vW' words') : Mk1 B g3 vI vW' ids words' w1 w' :=
 ⟨h.kx.ext hb, h.ownI.ext hb, ho.lower h.big, fun b h1 h2 => by have := ho.base b h1; have := h.ownI.lt b h2; omega, h.apart.below (hb.mono h.big), Nat.le_trans h.big hb.size⟩
theorem Mk1.push (h : Mk1 B g3 vI vW ids words w1 wr) (hg : g3 < B) {V1 V2 W : World} {vI' : Value} {ids' : List Int} (hV : Below wr.heap.size wr V1) (hgr : V1.grownBy V2 vI.ownBlock) (hown : Own intC M0 V2 B 3 vI' ids') (hor : vI'.ownBlock = vI.ownBlock ∨ vI'.ownBlock = some V1.heap.size) (hW : V2.setCell ⟨g3, 0, none⟩ vI' = W) : Mk1 B g3 vI' vW ids' words w1 W := by
 have hs := hV.size
 have same : ∀ b, b < wr.heap.size → vI.ownBlock ≠ some b → V2.heap[b]? = wr.heap[b]? := fun b h1 h2 => (hgr.block b (by omega) fun e => h2 e.symm).trans (hV.block b h1)
 have hbI : ∀ b, vI.ownBlock = some b → B ≤ b := h.ownI.base
 have k3 : Blk V2 g3 25 #[vI, .slice none 0 0] := h.kx.keep (same g3 h.kx.lt fun e => by have := hbI g3 e; omega)
 refine ⟨hW ▸ k3.set_ 0 vI', hown.flatC flatC_int fun b hb => ?_, h.ownW.flatC flatC_str fun b hb => ?_, fun b h1 h2 => ?_, ?_, ?_⟩
 ·rw [← hW]; exact heap_set_ne _ _ _ (by have := hown.base b hb; omega)
 ·rw [← hW, heap_set_ne _ _ _ (by have := h.ownW.base b hb; omega)]; exact same b (h.ownW.lt b hb) (h.ne b hb)
 ·rcases hor with e | e
  ·exact h.ne b h1 (e ▸ h2)
  ·rw [e] at h2; injection h2 with h2; have := h.ownW.lt b h1; omega
 ·rw [← hW]
  have hb2 : Below B wr V2 := ⟨hgr.os.trans hV.os, hgr.tape.trans hV.tape, hgr.output.trans hV.output, Nat.le_trans hs hgr.size, fun b hb => same b (by have := h.big; omega) fun e => by have := hbI b e; omega⟩
  exact (h.apart.below hb2).set 0 vI'
 ·rw [← hW]; have := h.big; have := hgr.size; simp; omega
/-- the terms under way -/
structure Mk2 (g3 : Nat) (vI vT : Value) (ts : List Ix.Term) (w2 wr : World) : Prop where
 kx : Blk wr g3 25 #[vI, vT]
 own : Own termC (fun b => b ≤ g3) wr w2.heap.size 62 vT ts
 apart : Sav w2.heap.size g3 w2 wr
variable {vT : Value} {ts : List Ix.Term} {w2 : World}
theorem Mk2.ext (h : Mk2 g3 vI vT ts w2 wr) {w' : World} (hb : Below wr.heap.size wr w') : Mk2 g3 vI vT ts w2 w' :=
 ⟨h.kx.ext hb, h.own.ext hb, h.apart.below (hb.mono h.apart.size)⟩
theorem Mk2.push (h : Mk2 g3 vI vT ts w2 wr) (hg : g3 < w2.heap.size) {V2 W : World} {vT' : Value} {ts' : List Ix.Term} (hb : Below w2.heap.size wr V2) (hgr : wr.grownBy V2 vT.ownBlock) (hown : Own termC (fun b => b ≤ g3) V2 w2.heap.size 62 vT' ts') (hW : V2.setCell ⟨g3, 1, none⟩ vT' = W) : Mk2 g3 vI vT' ts' w2 W := by
 have k3 : Blk V2 g3 25 #[vI, vT] := h.kx.keep (hgr.block g3 h.kx.lt fun e => by have := h.own.base g3 e.symm; omega)
 refine ⟨hW ▸ k3.set_ 1 vT', hown.keep (fun b _ hor => ?_) (by rw [← hW]; simp) (fun b hb (e : b ≤ g3) => by have := hown.base b hb; omega), ?_⟩
 ·rw [← hW]
  refine heap_set_ne _ _ _ ?_
  rcases hor with h1 | h1
  ·omega
  ·have := hown.base b h1; omega
 ·rw [← hW]; exact (h.apart.below hb).set 1 vT'
end Go.Proofs.YtnlhocbaighedaaGreatDoor
namespace Go.Proofs.YtnlhocbaighedaaGreatDoor
set_option linter.unusedVariables false
namespace Rk
/-- what a text with a stem counts -/
def weight (x : Ix.Idx) (s : Str) : Int := 1000 * ((x.1.length : Int) + 1) / ((((Al.look x.2 s).getD []).length : Int) + 1)
/-- the score of a text by some stems -/
def scoreF (x : Ix.Idx) (l : List Str) (id : Int) : Int := (l.map fun s => weight x s * min ((Ix.cont x.2 s id).length : Int) 10).sum
/-- the two texts of the law -/
def two (t w : Str) : Ix.Idx := Ix.madeF (Ix.stemsD [(5, t), (9, t ++ 46 :: 32 :: w)])
end Rk
end Go.Proofs.YtnlhocbaighedaaGreatDoor
namespace Go.Proofs.YtnlhocbaighedaaGreatDoor
open Go.RowKit
set_option linter.unusedVariables false
namespace Rk
/-- what some postings count for a text -/
def postSum (W id : Int) (ps : List Ix.Post) : Int := (ps.map fun p => if p.1 = id then W * min (p.2.length : Int) 10 else 0).sum
def scoreG (x : Ix.Idx) (l : List Str) (id : Int) : Int := (l.map fun s => postSum (weight x s) id ((Al.look x.2 s).getD [])).sum
theorem postSum_bound {W id : Int} (hW : 0 ≤ W) : ∀ ps : List Ix.Post, 0 ≤ postSum W id ps ∧ postSum W id ps ≤ (ps.length : Int) * (W * 10)
 | [] => by simp [postSum]
 | p :: ps => by
  have ih := postSum_bound (W := W) (id := id) hW ps
  unfold postSum at ih ⊢
  rw [List.map_cons, List.sum_cons, List.length_cons]
  have h1 : 0 ≤ W * min (p.2.length : Int) 10 := Int.mul_nonneg hW (by omega)
  have h2 : W * min (p.2.length : Int) 10 ≤ W * 10 := Int.mul_le_mul_of_nonneg_left (by omega) hW
  have h3 : ((ps.length + 1 : Nat) : Int) * (W * 10) = (ps.length : Int) * (W * 10) + W * 10 := by rw [Int.natCast_add, Int.add_mul]; simp
  rw [h3]
  split <;> omega
theorem postSum_zero {W id : Int} : ∀ ps : List Ix.Post, (∀ p ∈ ps, p.1 ≠ id) → postSum W id ps = 0
 | [], _ => rfl
 | p :: ps, h => by
  have ih := postSum_zero (W := W) ps fun q hq => h q (.tail _ hq)
  unfold postSum at ih ⊢
  rw [List.map_cons, List.sum_cons, ih, if_neg (h p (.head _))]
  rfl
theorem postSum_look {W id : Int} : ∀ ps : List Ix.Post, Al.Sorted Ix.ltI ps → postSum W id ps = W * min ((((Al.look ps id).getD []).length : Nat) : Int) 10
 | [], _ => by
  show (0 : Int) = W * min 0 10
  rw [show min (0 : Int) 10 = 0 by decide, Int.mul_zero]
 | p :: ps, h => by
  unfold Al.Sorted at h
  rw [List.pairwise_cons] at h
  rw [Al.look]
  by_cases hp : p.1 = id
  ·have h0 : postSum W id ps = 0 := postSum_zero ps fun q hq e => by
    have := h.1 q hq
    rw [hp, e] at this
    simp [Ix.ltI] at this
   rw [if_pos hp]
   unfold postSum at h0 ⊢
   rw [List.map_cons, List.sum_cons, h0, if_pos hp]
   simp
  ·have ih := postSum_look (W := W) (id := id) ps h.2
   rw [if_neg hp, ← ih]
   unfold postSum
   rw [List.map_cons, List.sum_cons, if_neg hp]
   simp
theorem score_same {x : Ix.Idx} (h : Ix.Wf x.2) (l : List Str) (id : Int) : scoreG x l id = scoreF x l id := by
 unfold scoreG scoreF
 congr 1
 refine List.map_congr_left fun s _ => ?_
 unfold Ix.cont
 cases hl : Al.look x.2 s with
 | none =>
  show (0 : Int) = weight x s * min 0 10
  rw [show min (0 : Int) 10 = 0 by decide, Int.mul_zero]
 | some ps =>
  have hm := Al.look_mem hl
  have hs := (h.post _ hm).2.1
  exact postSum_look ps hs
end Rk
namespace Rk
theorem postSum_take (W id : Int) (ps : List Ix.Post) {m : Nat} (h : m < ps.length) : postSum W id (ps.take (m + 1)) = postSum W id (ps.take m) + (if ps[m].1 = id then W * min (ps[m].2.length : Int) 10 else 0) := by
 unfold postSum
 rw [List.take_succ_eq_append_getElem h, List.map_append, List.sum_append]
 simp
theorem weight_eq (n k : Nat) : Int.tdiv (1000 * ((n : Int) + 1)) ((k : Int) + 1) = 1000 * ((n : Int) + 1) / ((k : Int) + 1) := Int.tdiv_eq_ediv_of_nonneg (by omega)
theorem weight_le (n k : Nat) (h : n ≤ 300) : 0 ≤ 1000 * ((n : Int) + 1) / ((k : Int) + 1) ∧ 1000 * ((n : Int) + 1) / ((k : Int) + 1) ≤ 301000 := by
 refine ⟨Int.ediv_nonneg (by omega) (by omega), Int.le_trans (Int.ediv_le_self _ (by omega)) (by omega)⟩
end Rk
set_option maxRecDepth 100000 in
set_option maxHeartbeats 8000000 in
theorem rscore_ok (a b : Value) (x : Ix.Idx) (lv : Value) (l : List Str) (id : Int) (w : World) (h0 : SlR intC M0 w a x.1) (h1 : SlR termC M0 w b x.2) (hl : SlR strC M0 w lv l) (hcan : Ix.Canon x) (hln : l.length ≤ 2000000) :
  Calls Tryz.prog 22 #[.agg #[a, b], lv, .int .i64 id] w fun e w' => e = .returned (.int .i64 (Rk.scoreF x l id)) ∧ Below w.heap.size w w' := by
 rw [← Rk.score_same hcan.wf]
 obtain ⟨A0, c0, rfl, _, _⟩ := h0.form
 obtain ⟨A1, c1, rfl, _, _⟩ := h1.form
 obtain ⟨Aq, cl, rfl, _, _⟩ := hl.form
 have hfew := hcan.few
 have hps : ∀ s, ((Al.look x.2 s).getD []).length ≤ 1000000 := fun s => by
  cases hk : Al.look x.2 s with
  | none => simp
  | some ps => exact (hcan.small.posts _ (Al.look_mem hk)).1
 obtain ⟨W, g, hW, hg, hs, kb, hal⟩ := boxA w #[.slice A0 x.1.length c0, .slice A1 x.2.length c1] 25
 have hof := fun s V (hb : Below W.heap.size W V) => indexOf_ok (.slice A0 x.1.length c0) (.slice A1 x.2.length c1) x.2 s V (h1.ext (hal.trans (hb.mono hal.size))) hcan.srt hcan.many hcan.small.posts
 obtain ⟨n0, hn0⟩ : ∃ n, x.1.length = n := ⟨_, rfl⟩
 obtain ⟨n1, hn1⟩ : ∃ n, x.2.length = n := ⟨_, rfl⟩
 have hwt : ∀ s, Rk.weight x s = 1000 * ((n0 : Int) + 1) / ((((Al.look x.2 s).getD []).length : Int) + 1) := fun s => by unfold Rk.weight; rw [hn0]
 rw [hn0, hn1] at hof kb hW ⊢
 rw [hn0] at hfew
 obtain ⟨f, hf⟩ : ∃ f : Str → Int, (fun s => Rk.postSum (Rk.weight x s) id ((Al.look x.2 s).getD [])) = f := ⟨_, rfl⟩
 have hscore : Rk.scoreG x l id = (l.map f).sum := by unfold Rk.scoreG; rw [hf]
 rw [hscore]
 have hfb : ∀ s, 0 ≤ f s ∧ f s ≤ 3010000000000 := fun s => by
  rw [← hf]
  dsimp only
  have h3 := Rk.weight_le n0 ((Al.look x.2 s).getD []).length hfew
  have h4 := Rk.postSum_bound (W := Rk.weight x s) (id := id) (by rw [hwt]; exact h3.1) ((Al.look x.2 s).getD [])
  have h5 := hps s
  rw [hwt] at h4 ⊢
  generalize 1000 * ((n0 : Int) + 1) / ((((Al.look x.2 s).getD []).length : Int) + 1) = Wt at h3 h4 ⊢
  refine ⟨h4.1, Int.le_trans h4.2 ?_⟩
  have h6 : (((Al.look x.2 s).getD []).length : Int) * (Wt * 10) ≤ 1000000 * (Wt * 10) := Int.mul_le_mul_of_nonneg_right (by omega) (by omega)
  omega
 have hsb : ∀ k, k ≤ l.length → 0 ≤ ((l.take k).map f).sum ∧ ((l.take k).map f).sum ≤ (k : Int) * 3010000000000 := by
  intro k
  induction k with
  | zero => intro _; simp
  | succ k ih =>
   intro hk
   have h1 := ih (by omega)
   have h2 := hfb (l[k]'(by omega))
   rw [List.take_succ_eq_append_getElem (by omega), List.map_append, List.sum_append]
   simp only [List.map_cons, List.map_nil, List.sum_cons, List.sum_nil]
   omega
 have HW := Lib.hid hW; have Hkb := Lib.hid kb; have Hof := Lib.hid hof; have Hal := Lib.hid hal; have Hl := Lib.hid (hl.ext hal); have Hwt := Lib.hid hwt; have Hf := Lib.hid hf; have Hps := Lib.hid hps; have Hsb := Lib.hid hsb; have Hfb := Lib.hid hfb
 clear hW hs kb hof hal h0 h1 hl hwt hf hps hsb hfb hcan hscore hn0 hn1
 go_enter Tryz.func22, Tryz.ntmps22
 go_wp2_with fail
 rw [HW.out]
 try rw [hg]
 clear hg
 go_loopw [7, 16] (fun sv iv wr => ∃ k : Nat, k ≤ l.length ∧ iv = .int .i64 (k : Int) ∧ sv = .int .i64 (((l.take k).map f).sum) ∧ Below W.heap.size W wr) (fun _ iv _ => l.length - (intOf iv).toNat)
 case atStart => exact ⟨0, Nat.zero_le _, rfl, rfl, Below.refl _ _⟩
 case round =>
  obtain ⟨k, hk, rfl, rfl, hb⟩ := hrel
  obtain ⟨wo, rfl⟩ : ∃ W, W = wr := ⟨_, rfl⟩
  have hsk := Hsb.out k hk
  by_cases hlt : k < l.length
  ·have hki : (k : Int) < (l.length : Int) := by omega
   have hk0 : (0 : Int) ≤ (k : Int) := by omega
   obtain ⟨lb, lo, rfl, _, _, p0, _⟩ := (Hl.out.ext hb).strAt hlt
   obtain ⟨q0, q1, _⟩ := (Hkb.out.ext hb).two
   have htk : ((l.take (k + 1)).map f).sum = ((l.take k).map f).sum + f l[k] := by
    rw [List.take_succ_eq_append_getElem hlt, List.map_append, List.sum_append]; simp
   obtain ⟨s, hs⟩ : ∃ s, l[k] = s := ⟨_, rfl⟩
   rw [hs] at p0 htk
   have hof := Hof.out s wo hb
   obtain ⟨ps, hpsq⟩ : ∃ ps, (Al.look x.2 s).getD [] = ps := ⟨_, rfl⟩
   have hpl := Hps.out s
   have hwq := Hwt.out s
   have hfs : f s = Rk.postSum (Rk.weight x s) id ps := by rw [← Hf.out, ← hpsq]
   rw [hpsq] at hof hpl hwq
   obtain ⟨Wt, hWt⟩ : ∃ W, Rk.weight x s = W := ⟨_, rfl⟩
   rw [hWt] at hwq hfs
   have hwl := Rk.weight_le n0 ps.length hfew
   rw [← hwq] at hwl
   have htd : Int.tdiv (1000 * ((n0 : Int) + 1)) ((ps.length : Int) + 1) = Wt := by rw [Rk.weight_eq, hwq]
   obtain ⟨S0, hS0⟩ : ∃ S, ((l.take k).map f).sum = S := ⟨_, rfl⟩
   rw [hS0] at hsk htk ⊢
   have Hof2 := Lib.hid hof; have Htk := Lib.hid htk; have Hfs := Lib.hid hfs; have Hb := Lib.hid hb
   have hw1 : IntKind.i64.wrap ((n0 : Int) + 1) = (n0 : Int) + 1 := IntWalk.i64_in _ (by omega)
   have hw2 : IntKind.i64.wrap (1000 * ((n0 : Int) + 1)) = 1000 * ((n0 : Int) + 1) := IntWalk.i64_in _ (by omega)
   have hw3 : IntKind.i64.wrap ((ps.length : Int) + 1) = (ps.length : Int) + 1 := IntWalk.i64_in _ (by omega)
   have hw4 : IntKind.i64.wrap Wt = Wt := IntWalk.i64_in _ (by omega)
   have hw5 : ¬ ((ps.length : Int) + 1) = 0 := by omega
   clear hof htk hfs hb hs hpsq hwq hWt hS0
   go_wp2_with fail
   refine Hof2.out.mono ?_
   clear Hof2 p0
   rintro e w1 ⟨v, rfl, hv, hb1⟩
   obtain ⟨A2, c2, rfl, _, _⟩ := hv.form
   have hb01 := Hb.out.trans (hb1.mono Hb.out.size)
   clear q0 q1
   obtain ⟨q0, q1, _⟩ := (Hkb.out.ext hb01).two
   have Hv := Lib.hid hv.zero; have Hb01 := Lib.hid hb01
   clear hv hb1 hb01
   go_wp2_with fail
   clear q0 q1
   go_loopw [7, 34] (fun sv jv wr => ∃ m : Nat, m ≤ ps.length ∧ jv = .int .i64 (m : Int) ∧ sv = .int .i64 (S0 + Rk.postSum Wt id (ps.take m)) ∧ Below w1.heap.size w1 wr) (fun _ jv _ => ps.length - (intOf jv).toNat)
   case atStart => exact ⟨0, Nat.zero_le _, rfl, by simp [Rk.postSum], Below.refl _ _⟩
   case round =>
    obtain ⟨m, hm, rfl, rfl, hb2⟩ := hrel
    obtain ⟨wi, rfl⟩ : ∃ W, W = wr := ⟨_, rfl⟩
    have hpb := Rk.postSum_bound (W := Wt) (id := id) hwl.1 (ps.take m)
    have hml : ((ps.take m).length : Int) * (Wt * 10) ≤ 1000000 * (Wt * 10) := Int.mul_le_mul_of_nonneg_right (by rw [List.length_take]; omega) (by omega)
    by_cases hml2 : m < ps.length
    ·have hmi : (m : Int) < (ps.length : Int) := by omega
     have hm0 : (0 : Int) ≤ (m : Int) := by omega
     obtain ⟨pb, po, A4, c4, rfl, _, _, r0, r1, _, _, _⟩ := (Hv.out.ext hb2).postAt hml2
     have htk2 := Rk.postSum_take Wt id ps hml2
     obtain ⟨pi, hpi⟩ : ∃ i, ps[m].1 = i := ⟨_, rfl⟩
     obtain ⟨pn, hpn⟩ : ∃ n, ps[m].2.length = n := ⟨_, rfl⟩
     rw [hpi] at r0 htk2
     rw [hpn] at r1 htk2
     obtain ⟨mn, hmn⟩ : ∃ mn : Int, min (pn : Int) 10 = mn := ⟨_, rfl⟩
     have hmb : 0 ≤ mn ∧ mn ≤ 10 := by omega
     rw [hmn] at htk2
     obtain ⟨S1, hS1⟩ : ∃ S, Rk.postSum Wt id (ps.take m) = S := ⟨_, rfl⟩
     rw [hS1] at htk2 hpb ⊢
     have hpr : 0 ≤ Wt * mn ∧ Wt * mn ≤ Wt * 10 := ⟨Int.mul_nonneg hwl.1 hmb.1, Int.mul_le_mul_of_nonneg_left hmb.2 hwl.1⟩
     have hv1 : IntKind.i64.wrap (Wt * mn) = Wt * mn := IntWalk.i64_in _ (by omega)
     have hv2 : IntKind.i64.wrap (S0 + S1 + Wt * mn) = S0 + S1 + Wt * mn := IntWalk.i64_in _ (by omega)
     obtain ⟨V, gV, hV, hgV, hsV, kV, hbV⟩ := boxA wi #[.int .i64 pi, .slice A4 pn c4] 64
     obtain ⟨y0, y1, _⟩ := kV.two
     have Htk2 := Lib.hid htk2; have HbV := Lib.hid (hb2.trans (hbV.mono hb2.size))
     clear htk2 hpi hpn hS1 hsV kV hbV hb2 hml hpb
     by_cases hpid : pi = id
     ·subst hpid
      go_wp2_with fail
      go_roundw
      case rel => exact ⟨m + 1, by omega, by go_num, by rw [Htk2.out, if_pos rfl, Int.add_assoc], HbV.out⟩
      case measure => simp [intOf]; omega
     ·have hpe : (pi == id) = false := by simpa using hpid
      have Hpid := Lib.hid hpid
      clear hpid
      go_wp2_with fail
      go_roundw
      case rel => exact ⟨m + 1, by omega, by go_num, by rw [Htk2.out, if_neg Hpid.out, Int.add_zero], HbV.out⟩
      case measure => simp [intOf]; omega
    ·have hmi : ¬ (m : Int) < (ps.length : Int) := by omega
     have hme : ps.take m = ps := List.take_of_length_le (by omega)
     rw [hme]
     have hend : S0 + Rk.postSum Wt id ps = ((l.take (k + 1)).map f).sum := by rw [Htk.out, Hfs.out]
     rw [hend]
     have Hb2 := Lib.hid (Hb01.out.trans (hb2.mono Hb01.out.size))
     clear hme hend hb2
     go_wp2_with fail
     go_roundw
     case rel => exact ⟨k + 1, by omega, by go_num, rfl, Hb2.out⟩
     case measure => simp [intOf]; omega
  ·have hki : ¬ (k : Int) < (l.length : Int) := by omega
   have hke : l.take k = l := List.take_of_length_le (by omega)
   rw [hke]
   have Hb := Lib.hid hb
   clear hke hb
   go_wp2_with fail
   go_ret
   exact ⟨rfl, Hal.out.trans (Hb.out.mono Hal.out.size)⟩
end Go.Proofs.YtnlhocbaighedaaGreatDoor
namespace Go.Proofs.YtnlhocbaighedaaGreatDoor
open Go.RowKit
set_option linter.unusedVariables false
theorem wpListIn_append_run {F : Fence} {nF : Nat} {P : Program} {w : World} {ops : Array Oper} {rest : List Oper} {o : Oper} {a : Act} {Q : Exit → Act → World → Prop} (hgd : o.guard = none) (s x : Operand) (t : TypeId)
  (ho : o.op = .call { callee := .builtin .append, args := #[s, x], argTypes := #[t, t] }) {vs vx v : Value} {w' : World} (hs : a.eval s = vs) (hx : a.eval x = vx) (hrun : (Builtin.append_ #[t, t] o.type #[vs, vx]).run P w = .ok v w')
  (h : wpListIn F nF P ops Q rest (a.put o.dst v) w') : wpListIn F nF P ops Q (o :: rest) a w := by
 refine wpListIn_plain hgd fun K hK => ?_
 unfold Oper.wpIn
 refine ⟨by simp [Oper.about, ho, resolve, Target.leads, Sem.run_pure], ?_⟩
 rw [Oper.semAt_plain F _ _ (by rw [ho]; intro c hc'; cases hc')]
 simp [execOp, ho, resolve, invoke, builtin, hs, hx, hrun, Result.andThen]
 exact hK _ _ h
def encI1 (x : Int) : Array Value := #[.int .i64 x]
set_option maxRecDepth 100000 in
set_option maxHeartbeats 4000000 in
theorem appendSeq_ok (gf : FuncId) (lb : Array Value) (xs : List Int) (FP : (Nat → Prop) → World → Prop) (hit : Iter Tryz.prog gf lb encI1 xs FP) (eg : ∀ args w, (callFunc gf args).run Tryz.prog w = .ok (.enter gf args) w) (hx : ∀ x ∈ xs, -9223372036854775808 ≤ x ∧ x ≤ 9223372036854775807) (hn : xs.length ≤ 1000000) (w : World)
  (hFP : ∀ S' W, (∀ b, S' b → w.heap.size ≤ b) → Below w.heap.size w W → FP S' W) :
  Calls Tryz.prog 58 #[.slice none 0 0, .func (.func gf) #[] lb] w fun e w' => ∃ (A : Option Addr) (c : Nat) (L : List Int), e = .returned (.slice A L.length c) ∧ Hid (L = xs) ∧ Own intC M0 w' w.heap.size 3 (.slice A L.length c) L ∧ Below w.heap.size w w' := by
 obtain ⟨W0, hW0⟩ : ∃ W0, w.alloc (.cells #[.slice none 0 0] 22) = W0 := ⟨_, rfl⟩
 have hbw : Below w.heap.size w W0 := by rw [← hW0]; exact (Below.refl _ w).alloc (Nat.le_refl _) _
 have k1 : Blk W0 w.heap.size 22 #[.slice none 0 0] := by rw [← hW0]; exact Blk.new w _ _
 have hs1 : W0.heap.size = w.heap.size + 1 := by rw [← hW0]; simp
 have HW := Lib.hid hW0
 clear hW0
 refine calls_of_wp_marks Tryz.func58 rfl ?_
 simp only [Tryz.ntmps58, List.size_toArray, List.length_cons, List.length_nil, Nat.reduceAdd, Nat.reduceSub, Array.replicate_succ, Array.replicate_zero, List.push_toArray, List.append_toArray, List.nil_append, List.cons_append]
 obtain ⟨g, hg⟩ : ∃ g, w.heap.size = g := ⟨_, rfl⟩
 have Hs1 := Lib.hid hs1
 rw [hg] at k1
 clear hs1
 go_wp2
 rw [HW.out]
 refine wp_rangeFunc_iter hit rfl eg (fun _ => rfl)
  (fun k S W => S g ∧ (∀ b, S b → g ≤ b) ∧ Below w.heap.size w W ∧ ∃ A' c' L, Hid (L = xs.take k) ∧ Blk W g 22 #[.slice A' L.length c'] ∧ Own intC M0 W (g + 1) 3 (.slice A' L.length c') L ∧
   (∀ b, (Value.slice A' L.length c').ownBlock = some b → S b)) (fun _ _ _ _ => False) (fun b => b = g) ?_ ?_ ?_ (fun _ _ _ _ _ h _ => h)
  ⟨rfl, fun b hb => by rw [hb]; exact Nat.le_refl _, hbw, none, 0, [], Lib.hid (by simp), k1, Own.nil _ _ _ _ _, fun b hb => by simp [Value.ownBlock] at hb⟩
  (fun x => { tmps := #[.slice none 0 0, .func (.func gf) #[] lb, .pointer (some ⟨g, 0, none⟩), undef, .slice none 0 0, .int .i64 x, .func (.func gf) #[] lb, .int .i64 x, undef, undef, undef, undef, undef], defers := [] }) ?_ ?_ ?_ ?_
 ·rintro b rfl; have := Hs1.out; omega
 ·intro S' W hS' hbW
  exact hFP S' W (fun b hb => by rcases hS' b hb with h | h; omega; have := Hs1.out; omega) (hbw.trans (hbW.mono hbw.size))
 ·rintro k S W W' ⟨h1, h2, h3, A', c', L, hL, h4, h5, h6⟩ hkept
  exact ⟨h1, h2, hkept.below (by have := Hs1.out; omega) h3 h3.size, A', c', L, hL, h4.keep (hkept.same _ h4.lt (.inr h1)), h5.flatC flatC_int (fun b hb => hkept.same b (h5.lt b hb) (.inr (h6 b hb))), h6⟩
 ·intro l' x W K hK
  simp only [encI1]
  gi_wp2_with (rw [Oper.semAt_eq _ _ _ (fun c h => by cases h)]; go_simp)
  exact hK
 ·rintro l' k hk S W ⟨h1, h2, h3, A', c', L, hL, h4, h5, h6⟩ hlt hsz
  obtain ⟨hc, hz, hb⟩ := h4.one
  obtain ⟨r, hr⟩ : ∃ r, r = xs[k] := ⟨_, rfl⟩
  have hrx := hx _ (List.getElem_mem hk)
  rw [← hr] at hrx ⊢
  have Hr := Lib.hid hr
  clear hr
  obtain ⟨i, hi, hzz, q1, q2⟩ := info_parts (by kernel_rfl : (Tryz.prog.info? 3).map (fun i => (i.zero, i.size, i.bytes)) = some (some (.int .i64 0), 1, 8))
  have hal := (Below.refl W.heap.size W).alloc (Nat.le_refl _) (.cells #[.int .i64 r] 3)
  have kn := Blk.new W 3 #[.int .i64 r]
  have hLk : L.length ≤ 1000000 := by rw [hL.out, List.length_take]; omega
  have hgsz : w.heap.size + 1 ≤ W.heap.size := by have := Hs1.out; omega
  obtain ⟨v', W9, hrun, hown', hgr, hor⟩ := run_append_Own (P := Tryz.prog) intC (w := W.alloc (.cells #[.int .i64 r] 3)) (M := M0) 22 22 3 i (.int .i64 0) 8 Tryz.underlying22 hi hzz q1 q2 rfl (h5.ext hal) (some ⟨W.heap.size, 0, none⟩) 1 1 [.int .i64 r] (l' := [r]) (Els.single ⟨rfl, hrx⟩) rfl
   (fun _ => ⟨W.heap.size, 0, rfl, fun j u hu => by rw [Nat.zero_add, kn.cell]; simpa using hu⟩) (by simp [maxLen]; omega) (by simp; omega) (by simp; omega)
  obtain ⟨A9, c9, rfl, _, _⟩ := hown'.shape
  have hne : some g ≠ (Value.slice A' L.length c').ownBlock := fun e => by have := h5.base _ e.symm; omega
  have h49 := (h4.ext hal).grown hgr hne
  obtain ⟨x0, x1, _⟩ := h49.one
  have hbg := hgr.size
  rw [World.size_alloc] at hbg
  have Hown := Lib.hid hown'; have Hgr := Lib.hid hgr; have Hor := Lib.hid hor; have H49 := Lib.hid h49
  have Hrun := Lib.hid hrun
  clear hown' hgr hor h49 kn hrun
  gi_wp2_with (first | (gi_at_builtin; refine wpListIn_append_run rfl (.tmp 8) (.tmp 10) 22 rfl rfl rfl Hrun.out ?_) | (rw [Oper.semAt_eq _ _ _ (fun c h => by cases h)]; go_simp))
  have hown' := Hown.out
  have hgr := Hgr.out
  have hblk : ∀ b, b < W.heap.size → some b ≠ (Value.slice A' L.length c').ownBlock → W9.heap[b]? = W.heap[b]? := fun b hb1 hb2 => (hgr.block b (by rw [World.size_alloc]; omega) hb2).trans (hal.block b hb1)
  have hown4 : ∀ b, (Value.slice A9 (L ++ [r]).length c9).ownBlock = some b → (S b ∨ (W.heap.size ≤ b ∧ b < W9.heap.size)) ∧ b ≠ g := fun b ho => by
   refine ⟨?_, by have := hown'.base b ho; omega⟩
   rcases Hor.out with e | e
   ·exact .inl (h6 b (e ▸ ho))
   ·have h7 := hown'.lt b ho
    rw [e, World.size_alloc] at ho; injection ho with ho
    exact .inr ⟨by omega, h7⟩
  refine ⟨fun b => S b ∨ (W.heap.size ≤ b ∧ b < W9.heap.size), ⟨hgr.os.trans hal.os, hgr.tape.trans hal.tape, hgr.output.trans hal.output, by simp; omega, fun b hb1 hnS => ?_, fun b hb1 => ?_⟩, .inl h1, fun b hb1 => ?_, ?_, A9, c9, L ++ [r], ?_, ?_, ?_, fun b ho => (hown4 b ho).1⟩
  ·exact (Below.heap_setCell _ _ _ _ fun e => hnS (by rw [e]; exact h1)).trans (hblk b hb1 fun e => hnS (h6 b e.symm))
  ·rcases hb1 with h7 | h7
   ·exact ⟨by have := hlt b h7; simp; omega, .inl h7⟩
   ·exact ⟨by simp; omega, .inr h7.1⟩
  ·rcases hb1 with h7 | h7
   ·exact h2 b h7
   ·omega
  ·refine Below.setCell (p := ⟨g, 0, none⟩) (h3.trans ⟨hgr.os.trans hal.os, hgr.tape.trans hal.tape, hgr.output.trans hal.output, by omega, fun b hb1 => hblk b (by omega) fun e => by have := h5.base _ e.symm; omega⟩) (by show w.heap.size ≤ g; omega) _
  ·exact Lib.hid (by rw [hL.out, List.take_succ_eq_append_getElem hk, ← Hr.out])
  ·have := H49.out.set_ 0 (Value.slice A9 (L ++ [r]).length c9); simpa using this
  ·exact hown'.flatC flatC_int fun b hb => Below.heap_setCell _ _ _ _ (hown4 b hb).2
 ·rintro D S W hD hSD ⟨h1, h2, h3, A', c', L, hL, h4, h5, h6⟩ hWD
  obtain ⟨hc, hz, hb⟩ := h4.one
  go_wp2
  have hLe : L = xs := by rw [hL.out, List.take_length]
  have hDg : D ≠ g := fun e => hSD (e ▸ h1)
  have hDw : w.heap.size ≤ D := by have := Hs1.out; omega
  refine bodyPostM_one hWD (v := .slice A' L.length c') (by simp [results, Tryz.results58, go_sem]) ⟨A', c', L, rfl, Lib.hid hLe, ?_, ⟨h3.os, h3.tape, h3.output, by rw [World.putObj_size]; exact h3.size, fun k hk => (World.putObj_heap_other (by omega)).trans (h3.block k hk)⟩⟩
  have h11 : Own intC M0 (W.putObj D (.deferred none)) (g + 1) 3 (.slice A' L.length c') L := h5.flatC flatC_int fun b ho => World.putObj_heap_other (fun e => hSD (e ▸ h6 b ho))
  exact h11.weak (by omega) (fun _ h => h)
 ·rintro D c' k S W _ _ h
  exact h.elim
theorem collect_ok (gf : FuncId) (lb : Array Value) (xs : List Int) (FP : (Nat → Prop) → World → Prop) (hit : Iter Tryz.prog gf lb encI1 xs FP) (eg : ∀ args w, (callFunc gf args).run Tryz.prog w = .ok (.enter gf args) w) (hx : ∀ x ∈ xs, -9223372036854775808 ≤ x ∧ x ≤ 9223372036854775807) (hn : xs.length ≤ 1000000) (w : World)
  (hFP : ∀ S' W, (∀ b, S' b → w.heap.size ≤ b) → Below w.heap.size w W → FP S' W) :
  Calls Tryz.prog 35 #[.func (.func gf) #[] lb] w fun e w' => ∃ (A : Option Addr) (c : Nat) (L : List Int), e = .returned (.slice A L.length c) ∧ Hid (L = xs) ∧ Own intC M0 w' w.heap.size 3 (.slice A L.length c) L ∧ Below w.heap.size w w' := by
 have hc := appendSeq_ok gf lb xs FP hit eg hx hn w hFP
 have Hc := Lib.hid hc
 clear hc hit hFP
 go_enter Tryz.func35, Tryz.ntmps35
 go_wp2_with fail
 refine Hc.out.mono ?_
 rintro e w1 ⟨A, c, L, rfl, hL, hown, hb⟩
 go_wp2_with fail
 go_ret
 exact ⟨A, c, L, rfl, hL, hown, hb⟩
end Go.Proofs.YtnlhocbaighedaaGreatDoor
namespace Go.Proofs.YtnlhocbaighedaaGreatDoor
set_option linter.unusedVariables false
namespace Sr
open Q
/-- where the stem of a word occurs in a text -/
def places (x : Ix.Idx) (word : Str) (id : Int) : List Int := Ix.cont x.2 (Sm.stem word) id
theorem places_eq (x : Ix.Idx) (word : Str) (id : Int) : places x word id = (Al.look ((Al.look x.2 (Sm.stem word)).getD []) id).getD [] := by
 unfold places Ix.cont
 cases Al.look x.2 (Sm.stem word) <;> rfl
def prefixF (x : Ix.Idx) (s : Str) (id : Int) : Bool := x.2.any fun t => s.isPrefixOf t.1 && t.2.any fun p => p.1 == id
/-- words at consecutive places, from one on -/
def rowAt (x : Ix.Idx) (id at_ : Int) : List Str → Int → Bool
 | [], _ => true
 | w :: l, k => (places x w id).contains (at_ + k) && rowAt x id at_ l (k + 1)
def phraseF (x : Ix.Idx) (l : List Str) (id : Int) : Bool := (places x (l.headD []) id).any fun a => rowAt x id a l 0
def nearF (x : Ix.Idx) (a b : Str) (most id : Int) : Bool := (places x a id).any fun i => (places x b id).any fun k => (!(k == i) && decide (k - i ≤ most)) && decide (i - k ≤ most)
def findsF : Nat → Ix.Idx → Q → Int → Bool
 | 0, _, _, _ => true
 | f + 1, x, q, id =>
  if q.kind = 2 then decide (0 < (places x q.text id).length)
  else if q.kind = 3 then prefixF x q.text id
  else if q.kind = 4 then phraseF x (splitS q.text) id
  else if q.kind = 5 then nearF x ((splitS q.text).headD []) ((splitS q.text).getD 1 []) q.num id
  else if q.kind = 6 then !(q.parts.any fun p => !findsF f x p id)
  else if q.kind = 7 then q.parts.any fun p => findsF f x p id
  else if q.kind = 8 then !findsF f x (q.parts.headD (.node 0 [] 0 [])) id
  else true
theorem any_same {α : Type} {l : List α} {f g : α → Bool} (h : ∀ a ∈ l, f a = g a) : l.any f = l.any g := by
 induction l with
 | nil => rfl
 | cons a l ih => rw [List.any_cons, List.any_cons, h a (.head _), ih fun b hb => h b (.tail _ hb)]
theorem findsF_fits : ∀ {f : Nat} {q : Q} (x : Ix.Idx) (id : Int), Fits f q → (q.kind = 8 → q.parts ≠ []) → (∀ p ∈ pre f q, p.kind = 8 → p.parts ≠ []) → findsF (f + 1) x q id = findsF f x q id
 | 0, q, x, id, h, _, _ => h.elim
 | f + 1, q, x, id, h, h8, ha => by
  have hp : ∀ p ∈ q.parts, findsF (f + 1) x p id = findsF f x p id := fun p hp => by
   have hin : ∀ r ∈ pre f p, r ∈ pre (f + 1) q := fun r hr => by
    rw [pre]; exact .tail _ (List.mem_flatMap.2 ⟨p, hp, hr⟩)
   have hself : p ∈ pre f p := by
    match f, h p hp with
    | f + 1, _ => rw [pre]; exact .head _
   exact findsF_fits x id (h p hp) (ha p (hin p hself)) fun r hr => ha r (hin r hr)
  rw [findsF, any_same hp, any_same fun p hq => by rw [hp p hq]]
  by_cases e : q.kind = 8
  ·have hne := h8 e
   obtain ⟨a, l, hl⟩ : ∃ a l, q.parts = a :: l := by
    cases hh : q.parts with
    | nil => exact absurd hh hne
    | cons a l => exact ⟨a, l, rfl⟩
   have := hp a (by rw [hl]; exact .head _)
   have hh : q.parts.headD (.node 0 [] 0 []) = a := by rw [hl]; rfl
   rw [hh, this, findsF, hh]
  ·rw [if_neg e, findsF, if_neg e]
/-- the texts that a query finds -/
def foundF (x : Ix.Idx) (q : Q) : List Int := x.1.filter fun id => findsF 8 x q id
def findR (x : Ix.Idx) (q : Q) : List Int × Int × Int :=
 if (Ix.indexF x).1 ≠ 0 then ([], Ix.indexF x) else if (fault q).1 ≠ 0 then ([], (fault q).1, -5) else (foundF x q, 0, 0)
theorem notempty {q : Q} (h : (fault q).1 = 0) : ∀ p ∈ pre 8 q, p.kind = 8 → p.parts ≠ [] := fun p hp hk hn => by
 have he := (fault_zero.1 h).2.2 p hp
 unfold errOf at he
 rw [hk, hn] at he
 simp [least] at he
theorem pre_self {f : Nat} {q : Q} (h : Fits f q) : q ∈ pre f q := by
 match f, h with
 | f + 1, _ => rw [pre]; exact .head _
/-- a valid query finds the same at all levels that are enough -/
theorem finds_up {q : Q} (h : (fault q).1 = 0) {f : Nat} (hf : 8 ≤ f) (x : Ix.Idx) (id : Int) : findsF f x q id = findsF 8 x q id := by
 have hg := fault_zero.1 h
 have key : ∀ n, Fits (8 + n) q ∧ pre (8 + n) q = pre 8 q ∧ findsF (8 + n) x q id = findsF 8 x q id := by
  intro n
  induction n with
  | zero => exact ⟨hg.1, rfl, rfl⟩
  | succ n ih =>
   obtain ⟨h1, h2, h3⟩ := ih
   have hne := notempty h
   refine ⟨h1.succ, (pre_fits h1).trans h2, (findsF_fits x id h1 (hne q (pre_self hg.1)) (by rw [h2]; exact hne)).trans h3⟩
 obtain ⟨n, rfl⟩ : ∃ n, f = 8 + n := ⟨f - 8, by omega⟩
 exact (key n).2.2
end Sr
end Go.Proofs.YtnlhocbaighedaaGreatDoor

/-
  Contracts and plain facts, one after another: slices.Sorted of an iterator of texts; rank.stems; rank.counted; A place of a word is added: the second half, plain; index.Add: what it computes; plain; index.Add: the state in which places are added; index.Of: the postings of a term.
-/
import Derived.Test.YtnlhocbaighedaaGreatDoorR10
import Derived.Test.YtnlhocbaighedaaGreatDoorQyNd
import Derived.Test.YtnlhocbaighedaaGreatDoorR11
import Derived.Test.YtnlhocbaighedaaGreatDoorR2
import Derived.Test.YtnlhocbaighedaaGreatDoorR6
import Derived.Test.YtnlhocbaighedaaGreatDoorR9
import Derived.Test.YtnlhocbaighedaaGreatDoorR12
import Derived.Deep.QuietTactic
import Derived.BigQuiet
namespace Go.Proofs.YtnlhocbaighedaaGreatDoor
open Go.RowKit
set_option linter.unusedVariables false
set_option maxRecDepth 100000 in
set_option maxHeartbeats 8000000 in
theorem sortedS_ok (gf : FuncId) (lb : Array Value) (xs : List Str) (FP : (Nat → Prop) → World → Prop) (hit : Iter Tryz.prog gf lb encW xs FP) (eg : ∀ args w, (callFunc gf args).run Tryz.prog w = .ok (.enter gf args) w) (hx : ∀ x ∈ xs, x.length ≤ maxLen) (hn : xs.length ≤ 2000000) (w : World)
  (hFP : ∀ S' W, (∀ b, S' b → w.heap.size ≤ b) → Below w.heap.size w W → FP S' W) :
  Calls Tryz.prog 46 #[.func (.func gf) #[] lb] w fun e w' => ∃ v, e = .returned v ∧ Own strC M0 w' w.heap.size 9 v (Rk.sortF xs) ∧ Below w.heap.size w w' := by
 have Hc := Lib.hid (collectS_ok gf lb xs FP hit eg hx hn w hFP)
 clear hit hFP
 go_enter Tryz.func46, Tryz.ntmps46
 go_wp2_with fail
 refine Hc.out.mono ?_
 clear Hc
 rintro e w1 ⟨A, c, L, rfl, hL, hown, hb⟩
 obtain rfl := hL.out
 clear hL
 have Hown := Lib.hid hown; have Hb := Lib.hid hb
 have Hs := Lib.hid (sortS_ok L (.slice A L.length c) w1 _ hown hn)
 clear hown hb
 go_wp2_with fail
 refine Hs.out.mono ?_
 rintro e w2 ⟨rfl, hown2, hg2⟩
 go_wp2_with fail
 go_ret
 refine ⟨_, rfl, hown2, ?_⟩
 exact Hb.out.grown hg2 (Hb.out.size) fun k hk => Hown.out.base k hk
set_option maxRecDepth 100000 in
set_option maxHeartbeats 8000000 in
theorem stems_ok (cs : Array Value) (w : World) : Calls Tryz.prog 47 #[.agg cs] w fun e w' => ∃ g, w.heap.size = g ∧ e = .returned (.func (.func 66) #[] #[.pointer (some ⟨g, 0, none⟩)]) ∧ Blk w' g 28 cs ∧ Below w.heap.size w w' := by
 obtain ⟨W, g, hW, hg, hs, kb, hal⟩ := boxA w cs 28
 have Hkb := Lib.hid kb; have Hal := Lib.hid hal
 have hmf : ∀ (fn : Fn) (first cap : Array Value) (w : World), (Instr.makeFunc fn first cap).run Tryz.prog w = .ok (.func fn first cap) w := fun _ _ _ _ => rfl
 clear kb hal
 go_enter Tryz.func47, Tryz.ntmps47
 go_wp2_with fail
 go_ret
 exact ⟨g, hg, rfl, Hkb.out, Hal.out⟩
/-- what the stems of a query are: the iterator, wherever the query lies -/
def StemsIt (cs : Array Value) (xs : List Str) (w : World) : Prop :=
 ∀ gq V, Below w.heap.size w V → Blk V gq 28 cs → w.heap.size ≤ gq → ∃ FP, Iter Tryz.prog 66 #[.pointer (some ⟨gq, 0, none⟩)] encW xs FP ∧ ∀ S' W, (∀ b, S' b → V.heap.size ≤ b) → Below V.heap.size V W → FP S' W
theorem stemsIt_leaf (t : Str) (ht : t.length ≤ 4000000) (nv : Int) (A : Option Addr) (n c : Nat) (w : World) : StemsIt #[.int .i64 2, .string (bs t), .int .i64 nv, .slice A n c] ((splitS t).map Sm.stem) w := by
 intro gq V hb kb hg
 refine ⟨_, stems_iter gq t ht nv A n c, fun S' W hS' hW => ⟨kb.ext hW, fun h => ?_⟩⟩
 have h1 := hS' _ h
 have h2 := kb.lt
 omega
set_option maxRecDepth 100000 in
set_option maxHeartbeats 8000000 in
theorem counted_ok (a b c d : Value) (xs : List Str) (w : World) (hit : StemsIt #[a, b, c, d] xs w) (hx : ∀ x ∈ xs, x.length ≤ maxLen) (hn : xs.length ≤ 2000000) :
  Calls Tryz.prog 23 #[.agg #[a, b, c, d]] w fun e w' => ∃ v, e = .returned v ∧ Own strC M0 w' w.heap.size 9 v (Rk.countF xs) ∧ Below w.heap.size w w' := by
 obtain ⟨W, g, hW, hg, hs, kb, hal⟩ := boxA w #[a, b, c, d] 28
 obtain ⟨q0, q1, q2, q3, _⟩ := kb.fourV
 have Hst := Lib.hid (stems_ok #[a, b, c, d] W)
 have HW := Lib.hid hW; have Hg := Lib.hid hg; have Hal := Lib.hid hal; have Hit := Lib.hid hit
 clear hit hal hs
 have eg : ∀ args w, (callFunc 66 args).run Tryz.prog w = .ok (.enter 66 args) w := enters_of Tryz.func66 (by kernel_rfl) rfl
 go_enter Tryz.func23, Tryz.ntmps23
 go_wp2_with fail
 refine Hst.out.mono ?_
 clear Hst q0 q1 q2 q3
 rintro e w1 ⟨g1, hg1, rfl, kq, hb1⟩
 have hb01 := Hal.out.trans (hb1.mono Hal.out.size)
 have hge : w.heap.size ≤ g1 := by have := Hal.out.size; omega
 obtain ⟨FP, hit, hFP⟩ := Hit.out g1 w1 hb01 kq hge
 have Hso := Lib.hid (sortedS_ok 66 #[.pointer (some ⟨g1, 0, none⟩)] xs FP hit eg hx hn w1 hFP)
 have Hb01 := Lib.hid hb01
 clear hit hFP kq hb1 hb01 hge hg1
 go_wp2_with fail
 refine Hso.out.mono ?_
 clear Hso
 rintro e w2 ⟨v, rfl, hown, hb2⟩
 have hb02 := Hb01.out.trans (hb2.mono Hb01.out.size)
 have hown' := hown.lower Hb01.out.size
 have Hco := Lib.hid (compactS_ok (Rk.sortF xs) v w2 _ hown' (by rw [Rk.sort_len]; exact hn))
 have Hown := Lib.hid hown'; have Hb02 := Lib.hid hb02
 obtain ⟨A2, c2, rfl, _, _⟩ := hown.read0.form
 clear hown hown' hb2 hb02
 go_wp2_with fail
 refine Hco.out.mono ?_
 clear Hco
 rintro e w3 ⟨u, rfl, hown3, hg3⟩
 go_wp2_with fail
 go_ret
 exact ⟨u, rfl, hown3, Hb02.out.grown hg3 Hb02.out.size fun k hk => Hown.out.base k hk⟩
end Go.Proofs.YtnlhocbaighedaaGreatDoor
namespace Go.Proofs.YtnlhocbaighedaaGreatDoor
open Go.RowKit
set_option linter.unusedVariables false
/-- behind the second search: the posting is there -/
def PutMid2 (o0 : Nat → Owner) (W : World) (B bx : Nat) (a tv : Value) (wd : Str) (n place : Int) (Y : List Ix.Term) (i k : Nat) (wc : World) : Prop :=
 ∃ (o : Nat → Owner) (X : List RTerm) (hi : i < X.length) (hk : k < X[i].2.2.length), TreeAt ixT o wc B tv X ∧ Blk wc bx 25 #[a, tv] ∧ X[i].1 = wd ∧ X[i].2.2[k].1 = n ∧
  Y = (X.map pt).set i (wd, (X[i].2.2.map pp).set k (n, X[i].2.2[k].2.2 ++ [place])) ∧ (∀ (j : Nat) (hj : j < X.length), X[j].1 = X[i].1 → j = i) ∧ (∀ (j : Nat) (hj : j < X[i].2.2.length), X[i].2.2[j].1 = X[i].2.2[k].1 → j = k) ∧ X[i].2.2[k].2.2.length ≤ 2000000 ∧
  Turn o0 bx W wc ∧ ∀ b, b < W.heap.size → o b = o0 b
theorem ids_distinct {ps : List RPost} (h : Al.Sorted Ix.ltI (ps.map pp)) {j k : Nat} (hj : j < ps.length) (hk : k < ps.length) (e : ps[j].1 = ps[k].1) : j = k := by
 have hp := List.pairwise_iff_getElem.1 h
 rcases Nat.lt_trichotomy j k with h1 | h1 | h1
 ·have := hp j k (by simpa using hj) (by simpa using hk) h1
  simp only [List.getElem_map, pp, Ix.ltI, decide_eq_true_eq] at this
  omega
 ·exact h1
 ·have := hp k j (by simpa using hk) (by simpa using hj) h1
  simp only [List.getElem_map, pp, Ix.ltI, decide_eq_true_eq] at this
  omega
section
variable {o0 o : Nat → Owner} {W wc wd' : World} {B bx : Nat} {a tv : Value} {wd : Str} {n place : Int} {Y : List Ix.Term} {X : List RTerm} {i k : Nat}
theorem PutMid2.found (hi : i < X.length) (hT : TreeAt ixT o wc B tv X) (hbx : Blk wc bx 25 #[a, tv]) (hw : X[i].1 = wd) (hY : Y = (X.map pt).set i (wd, Ix.putP n place (X[i].2.2.map pp))) (hs : Al.Sorted Ix.ltI (X[i].2.2.map pp)) (hd : ∀ (j : Nat) (hj : j < X.length), X[j].1 = X[i].1 → j = i)
  (hb : ∀ p ∈ X[i].2.2, p.2.2.length ≤ 2000000) (ht : Turn o0 bx W wc) (ha : ∀ b, b < W.heap.size → o b = o0 b) (hsa : SearchAt Ix.ltI (X[i].2.2.map rp) n k true) {w2 : World} (hbl : Below wc.heap.size wc w2) : PutMid2 o0 W B bx a tv wd n place Y i k w2 := by
 have hsa2 : SearchAt Ix.ltI (X[i].2.2.map pp) n k true := searchAt_keys (by simp [rp, pp]) hsa
 rcases upd_hit Ix.totI hs hsa2 (fun q => q.getD [] ++ [place]) with ⟨_, hk, hkn, hu⟩ | ⟨h, _⟩
 ·have hk' : k < X[i].2.2.length := by simpa using hk
  refine ⟨o, X, hi, hk', hT.ext hbl, hbx.ext hbl, hw, by simpa [pp] using hkn, ?_, hd, fun j hj e => ids_distinct hs hj hk' e, hb _ (List.getElem_mem hk'), ht.trans (o' := o) (Turn.of_below hbl) (fun b hb => ha b hb), ha⟩
  rw [hY, show Ix.putP n place (X[i].2.2.map pp) = _ from hu]
  simp [pp]
 ·cases h
theorem PutMid2.added (hi : i < X.length) (hT : TreeAt ixT o wc B tv X) (hbx : Blk wc bx 25 #[a, tv]) (hbo : o bx = .no) (hw : X[i].1 = wd) (hY : Y = (X.map pt).set i (wd, Ix.putP n place (X[i].2.2.map pp))) (hs : Al.Sorted Ix.ltI (X[i].2.2.map pp)) (hd : ∀ (j : Nat) (hj : j < X.length), X[j].1 = X[i].1 → j = i)
  (ht : Turn o0 bx W wc) (ha : ∀ b, b < W.heap.size → o b = o0 b) (hsa : SearchAt Ix.ltI (X[i].2.2.map rp) n k false) {w1 w2 : World} {pv' : Value} {g nn c : Nat} (hg : tv = .slice (some ⟨g, 0, none⟩) nn c) (hbl : Below wc.heap.size wc w1)
  (hown : Own rpC M0 w2 B 64 pv' ((X[i].2.2.map rp).take k ++ (n, .slice none 0 0) :: (X[i].2.2.map rp).drop k)) (hgr : w1.grownBy w2 X[i].2.1.ownBlock) (hor : pv'.ownBlock = X[i].2.1.ownBlock ∨ pv'.ownBlock = some w1.heap.size) :
  PutMid2 o0 W B bx a tv wd n place Y i k (w2.setCell ⟨g, i * 2 + 1, none⟩ pv') := by
 have hsa2 : SearchAt Ix.ltI (X[i].2.2.map pp) n k false := searchAt_keys (by simp [rp, pp]) hsa
 rcases upd_hit Ix.totI hs hsa2 (fun q => q.getD [] ++ [place]) with ⟨h, _⟩ | ⟨_, hu⟩
 ·cases h
 have hkl : k ≤ X[i].2.2.length := by have := hsa.1; simpa using this
 have hT1 := hT.ext hbl
 obtain ⟨ps', hps'⟩ : ∃ ps' : List RPost, ps' = X[i].2.2.take k ++ (n, .slice none 0 0, []) :: X[i].2.2.drop k := ⟨_, rfl⟩
 have hpm : ps'.map rp = (X[i].2.2.map rp).take k ++ (n, .slice none 0 0) :: (X[i].2.2.map rp).drop k := by rw [hps', List.map_append, List.map_cons, List.map_take, List.map_drop]; rfl
 have hkp : k < ps'.length := by rw [hps', List.length_append, List.length_cons, List.length_take]; omega
 have hpk : ps'[k] = (n, .slice none 0 0, []) := by
  subst hps'
  rw [List.getElem_append_right (by rw [List.length_take]; omega)]
  simp [List.length_take, Nat.min_eq_left hkl]
 obtain ⟨hT2, hol⟩ := hT1.postings (w1 := w2) hi hd hg (tv' := pv') (ps' := ps') hgr (by rw [hpm]; exact hown) (hor.imp (fun h => h) fun h => ⟨_, Nat.le_refl _, h⟩) (own_oneCell hown) (fun p hp => by
  rw [hps'] at hp
  rcases List.mem_append.1 hp with hp | hp
  ·exact .inl (List.mem_of_mem_take hp)
  ·rcases List.mem_cons.1 hp with e | hp
   ·rw [e]; exact .inr ⟨rfl, rfl⟩
   ·exact .inl (List.mem_of_mem_drop hp))
 have hPi := hT.posts _ (List.getElem_mem hi)
 have hog := hT.mine g (slice_block hg)
 have hgx : g ≠ bx := fun e => by rw [e, hbo] at hog; cases hog
 have hbx1 := hbx.ext hbl
 have hbx2 : Blk w2 bx 25 #[a, tv] := hbx1.keep (hgr.block bx hbx1.lt fun e => by have := hPi.mine bx e.symm; rw [hbo] at this; cases this)
 have hmp : ps'.map pp = (X[i].2.2.map pp).take k ++ (n, []) :: (X[i].2.2.map pp).drop k := by rw [hps', List.map_append, List.map_cons, List.map_take, List.map_drop]; rfl
 have hsN : Al.Sorted Ix.ltI (ps'.map pp) := by
  rw [hmp]
  have h1 := hsa2.2.1
  have h2 := hsa2.2.2.1
  have h4 := hsa2.2.2.2
  have hsplit : Al.Sorted Ix.ltI ((X[i].2.2.map pp).take k ++ (X[i].2.2.map pp).drop k) := by rw [List.take_append_drop]; exact hs
  unfold Al.Sorted at hsplit ⊢
  rw [List.pairwise_append] at hsplit ⊢
  refine ⟨hsplit.1, List.pairwise_cons.2 ⟨fun q hq => ?_, hsplit.2.1⟩, fun p hp q hq => ?_⟩
  ·obtain ⟨m, hm, rfl⟩ := List.mem_iff_getElem.1 hq
   rw [List.length_drop] at hm
   rw [List.getElem_drop]
   have h5 := h2 (k + m) (by omega) (by omega)
   rw [List.getElem?_eq_getElem (show k < (X[i].2.2.map pp).length by omega)] at h4
   have h6 : (X[i].2.2.map pp)[k].1 ≠ n := by simpa using h4
   have h7 := h2 k (by omega) (Nat.le_refl _)
   simp only [Ix.ltI, decide_eq_false_iff_not, decide_eq_true_eq] at h5 h7 ⊢
   by_cases e : m = 0
   ·subst e; simp only [Nat.add_zero]; omega
   ·have h8 := List.pairwise_iff_getElem.1 hs k (k + m) (by omega) (by omega) (by omega)
    simp only [Ix.ltI, decide_eq_true_eq] at h8
    omega
  ·rcases List.mem_cons.1 hq with e | hq
   ·rw [e]
    obtain ⟨m, hm, rfl⟩ := List.mem_iff_getElem.1 hp
    rw [List.length_take] at hm
    rw [List.getElem_take]
    exact h1 m (by omega) (by omega)
   ·exact hsplit.2.2 p hp q hq
 have hXi : i < (X.set i (X[i].1, pv', ps')).length := by rw [List.length_set]; exact hi
 have hgi : (X.set i (X[i].1, pv', ps'))[i] = (X[i].1, pv', ps') := List.getElem_set_self hXi
 have hag : ∀ b, b < W.heap.size → own1 o pv' (.row X[i].1) b = o0 b := fun b hb' => by rw [hol b (Nat.lt_of_lt_of_le (Nat.lt_of_lt_of_le hb' ht.size) hbl.size)]; exact ha b hb'
 refine ⟨own1 o pv' (.row X[i].1), X.set i (X[i].1, pv', ps'), hXi, by rw [hgi]; exact hkp, hT2, hbx2.far (p := ⟨g, i * 2 + 1, none⟩) (fun e => hgx e.symm) _, by rw [hgi]; exact hw, by simp only [hgi]; rw [hpk], ?_, fun j hj e => ?_, fun j hj e => ?_, by simp only [hgi]; rw [hpk]; exact Nat.zero_le _, ?_, hag⟩
 ·simp only [hgi]
  rw [hY, show Ix.putP n place (X[i].2.2.map pp) = _ from hu, List.map_set, List.set_set, hpk, hmp, List.set_append_right _ _ (by rw [List.length_take]; omega), List.length_take, List.length_map, Nat.min_eq_left hkl, Nat.sub_self, List.set_cons_zero]
  rfl
 ·rw [hgi] at e
  rw [List.length_set] at hj
  by_cases hji : j = i
  ·exact hji
  ·rw [List.getElem_set_ne (fun e' => hji e'.symm)] at e
   exact hd j hj e
 ·simp only [hgi] at hj e
  exact ids_distinct hsN hj hkp e
 ·refine ((ht.trans (o' := o) (Turn.of_below hbl) (fun b hb => ha b hb)).trans (o' := o) (Turn.of_grown (x := .row X[i].1) hgr (fun b hb => hPi.mine b hb) (by simp)) (fun b hb => ha b hb)).set ?_ (i * 2 + 1) pv'
  by_cases hgW : g < W.heap.size
  ·exact .inr (.inl (by rw [← ha g hgW, hog]; simp))
  ·exact .inr (.inr (by omega))
/-- the end: the place is there -/
theorem PutMid2.fin (hi : i < X.length) (hk : k < X[i].2.2.length) (hT : TreeAt ixT o wc B tv X) (hbx : Blk wc bx 25 #[a, tv]) (hbo : o bx = .no) (hw : X[i].1 = wd) (hn : X[i].2.2[k].1 = n) (hY : Y = (X.map pt).set i (wd, (X[i].2.2.map pp).set k (n, X[i].2.2[k].2.2 ++ [place]))) (hd : ∀ (j : Nat) (hj : j < X.length), X[j].1 = X[i].1 → j = i)
  (hid : ∀ (j : Nat) (hj : j < X[i].2.2.length), X[i].2.2[j].1 = X[i].2.2[k].1 → j = k) (ht : Turn o0 bx W wc) (ha : ∀ b, b < W.heap.size → o b = o0 b) {w1 w2 : World} {lv' : Value} {g nn c : Nat} (hg : X[i].2.1 = .slice (some ⟨g, 0, none⟩) nn c) (hbl : Below wc.heap.size wc w1)
  (hown : Own intC M0 w2 B 3 lv' (X[i].2.2[k].2.2 ++ [place])) (hgr : w1.grownBy w2 X[i].2.2[k].2.1.ownBlock) (hor : lv'.ownBlock = X[i].2.2[k].2.1.ownBlock ∨ ∃ b, w1.heap.size ≤ b ∧ lv'.ownBlock = some b) :
  ∃ (o' : Nat → Owner) (X' : List RTerm), TreeAt ixT o' (w2.setCell ⟨g, k * 2 + 1, none⟩ lv') B tv X' ∧ Blk (w2.setCell ⟨g, k * 2 + 1, none⟩ lv') bx 25 #[a, tv] ∧ X'.map pt = Y ∧ Turn o0 bx W (w2.setCell ⟨g, k * 2 + 1, none⟩ lv') ∧ ∀ b, b < W.heap.size → o' b = o0 b := by
 have hT1 := hT.ext hbl
 obtain ⟨hT2, hol⟩ := hT1.place hi hk hd hid hg hgr hown hor (own_oneCell hown)
 have hPi := hT.posts _ (List.getElem_mem hi)
 have hLi := hPi.pl _ (List.getElem_mem hk)
 have hog := hPi.mine g (slice_block hg)
 have hgx : g ≠ bx := fun e => by rw [e, hbo] at hog; cases hog
 have hbx1 := hbx.ext hbl
 have hbx2 : Blk w2 bx 25 #[a, tv] := hbx1.keep (hgr.block bx hbx1.lt fun e => by have := hLi.2 bx e.symm; rw [hbo] at this; cases this)
 refine ⟨_, _, hT2, hbx2.far (p := ⟨g, k * 2 + 1, none⟩) (fun e => hgx e.symm) _, ?_, ?_, fun b hb' => by rw [hol b (Nat.lt_of_lt_of_le (Nat.lt_of_lt_of_le hb' ht.size) hbl.size)]; exact ha b hb'⟩
 ·rw [hY, List.map_set]
  congr 1
  show (X[i].1, (X[i].2.2.set k _).map pp) = _
  rw [hw, List.map_set, ← hn]
  rfl
 ·refine ((ht.trans (o' := o) (Turn.of_below hbl) (fun b hb => ha b hb)).trans (o' := o) (Turn.of_grown (x := .pl X[i].1 X[i].2.2[k].1) hgr (fun b hb => hLi.2 b hb) (by simp)) (fun b hb => ha b hb)).set ?_ (k * 2 + 1) lv'
  by_cases hgW : g < W.heap.size
  ·exact .inr (.inl (by rw [← ha g hgW, hog]; simp))
  ·exact .inr (.inr (by omega))
end
end Go.Proofs.YtnlhocbaighedaaGreatDoor
namespace Go.Proofs.YtnlhocbaighedaaGreatDoor
open Go.RowKit
set_option linter.unusedVariables false
theorem rise_len : ∀ {l : List Int} {lo hi : Int}, l.Pairwise (· < ·) → (∀ n ∈ l, lo ≤ n ∧ n ≤ hi) → lo ≤ hi + 1 → (l.length : Int) ≤ hi - lo + 1
  | [], lo, hi, _, _, h => by simp; omega
  | n :: r, lo, hi, hp, hb, h => by
    rw [List.pairwise_cons] at hp
    have h1 := hb n List.mem_cons_self
    have := rise_len (l := r) (lo := n + 1) (hi := hi) hp.2 (fun m hm => ⟨by have := hp.1 m hm; omega, (hb m (.tail _ hm)).2⟩) (by omega)
    rw [List.length_cons]; omega
theorem posts_len {ps : List Ix.Post} (h : Al.Sorted Ix.ltI ps) (hr : ∀ p ∈ ps, 1 ≤ p.1 ∧ p.1 ≤ 1000000) : ps.length ≤ 1000000 := by
  have := rise_len (lo := 1) (hi := 1000000) ((Ix.pair_sorted ps).2 h) (fun n hn => by obtain ⟨p, hp, rfl⟩ := List.mem_map.1 hn; exact hr p hp) (by omega)
  rw [List.length_map] at this
  omega
theorem places_len {l : List Int} (h : l.Pairwise (· < ·)) (hr : ∀ n ∈ l, 0 ≤ n ∧ n ≤ 1000000) : l.length ≤ 1000001 := by
  have := rise_len (lo := 0) (hi := 1000000) h hr (by omega)
  omega
theorem Ix.Canon.small {x : Ix.Idx} (h : Ix.Canon x) : Small x.1 x.2 :=
  ⟨by have := h.few; omega, h.many, fun t ht => by
    obtain ⟨_, h2, h3⟩ := h.post t ht
    exact ⟨posts_len h2 fun p hp => h.idr _ (h3 p hp).1, fun p hp => places_len (h3 p hp).2.2.1 (h3 p hp).2.2.2⟩⟩
/-! ### the words of a text -/
theorem lowN_ascii {r : Nat} (h : r < 128) : Sm.lowN r < 128 := by
  have h1 : (List.range 128).all (fun r => decide ((Sm.lower2 r).toNat < 128)) = true := by decide +kernel
  unfold Sm.lowN
  rw [Sm.lower_eq]
  exact of_decide_eq_true (List.all_eq_true.1 h1 r (List.mem_range.2 h))
theorem enc_small (r : Nat) : 1 ≤ (Go.Lib.encodeRune (r : Int)).length ∧ (Go.Lib.encodeRune (r : Int)).length ≤ 4 := by
  rw [← Go.Lib.runeCells_length]
  exact Go.Lib.runeCells_le _
theorem enc_low (r : Nat) : (Go.Lib.encodeRune (Sm.lowN r : Int)).length ≤ 2 * (Go.Lib.encodeRune (r : Int)).length := by
  by_cases h : r < 128
  · have h2 := lowN_ascii h
    have e : ∀ n : Nat, n < 128 → (Go.Lib.encodeRune (n : Int)).length = 1 := by
      intro n hn
      rw [show Go.Lib.encodeRune (n : Int) = (Go.Lib.encodeRuneZ (n : Int)).map fun x => x.toNat.toUInt8 from rfl, Go.Lib.encodeRuneZ_one (by omega) (by omega)]
      rfl
    rw [e r h, e _ h2]
    omega
  · have h1 := (enc_small (Sm.lowN r)).2
    have h2 : 2 ≤ (Go.Lib.encodeRune (r : Int)).length := by
      unfold Go.Lib.encodeRune
      rw [List.length_map]
      unfold Go.Lib.encodeRuneZ
      rw [if_neg (by omega)]
      split
      · simp
      · split
        · simp
        · split <;> simp
    omega
theorem encs_low : ∀ rs : List Nat, (Sm.encs (rs.map Sm.lowN)).length ≤ 2 * (Sm.encs rs).length
  | [] => Nat.le_refl _
  | r :: rs => by
    have := encs_low rs
    have := enc_low r
    rw [List.map_cons, Sm.encs_cons, Sm.encs_cons, List.length_append, List.length_append]
    omega
theorem rawWords_len {s x : Str} (hx : x ∈ Sm.rawWords s) : x.length ≤ s.length := by
  have h := (Sm.words_sum s.length [] s (Nat.le_refl _)).1
  have : ∀ (l : List Nat) (n : Nat), n ∈ l → n ≤ l.sum := by
    intro l
    induction l with
    | nil => intro n hn; cases hn
    | cons a l ih => intro n hn; rw [List.sum_cons]; rcases List.mem_cons.1 hn with e | e; · omega
                     · have := ih n e; omega
  have := this _ _ (List.mem_map_of_mem (f := List.length) hx)
  unfold Sm.rawWords at this
  unfold Sm.wordsFrom at h
  simp only [List.length_nil] at h
  omega
theorem word_len {s x : Str} (hx : x ∈ Sm.words s) : x ≠ [] ∧ x.length ≤ 2 * s.length := by
  unfold Sm.words at hx
  obtain ⟨y, hy, rfl⟩ := List.mem_map.1 hx
  have hl := rawWords_len hy
  have hne := (Sm.words_sum s.length [] s (Nat.le_refl _)).2 y hy
  obtain ⟨rs, rfl, hr⟩ := Sm.words_encs s.length [] s (Nat.le_refl _) (fun r h => by cases h) y hy
  rw [Sm.lower_encs rs hr]
  have := encs_low rs
  refine ⟨fun e => ?_, by omega⟩
  cases rs with
  | nil => exact hne rfl
  | cons r rs =>
    rw [List.map_cons, Sm.encs_cons] at e
    have := (List.append_eq_nil_iff.1 e).1
    have h2 := (enc_small (Sm.lowN r)).1
    rw [this] at h2
    simp at h2
theorem stems_word {s w : Str} (h : w ∈ Sm.stems s) : w ≠ [] ∧ w.length ≤ 2 * s.length := by
  unfold Sm.stems at h
  obtain ⟨y, hy, rfl⟩ := List.mem_map.1 h
  have := word_len hy
  have h2 := Sm.stem_len y
  exact ⟨Sm.stem_ne this.1, by omega⟩
theorem len_le_sum' : ∀ {l : List Nat}, (∀ x ∈ l, 0 < x) → l.length ≤ l.sum
  | [], _ => Nat.le_refl _
  | a :: l, h => by
    have := len_le_sum' fun x hx => h x (.tail _ hx)
    have := h a (.head _)
    rw [List.length_cons, List.sum_cons]; omega
theorem stems_count (s : Str) : (Sm.stems s).length ≤ s.length := by
  have h1 := Sm.words_sum s.length [] s (Nat.le_refl _)
  have h2 := len_le_sum' (l := (Sm.rawWords s).map List.length) (fun x hx => by
    obtain ⟨y, hy, rfl⟩ := List.mem_map.1 hx
    exact List.length_pos_iff.2 (h1.2 y hy))
  rw [List.length_map] at h2
  have h3 := h1.1
  simp only [List.length_nil, Nat.zero_add] at h3
  unfold Sm.stems Sm.words
  rw [List.length_map, List.length_map]
  unfold Sm.rawWords at h2 ⊢
  unfold Sm.wordsFrom at h3
  omega
/-! ### what Add computes -/
namespace Ix
def addR (x : Idx) (id : Int) (t : Str) : Idx × Int × Int :=
  if (indexF x).1 ≠ 0 then (([], []), indexF x)
  else if 4000 < t.length then (([], []), 1, -1)
  else if id < 1 then (([], []), 3, -3)
  else if 1000000 < id then (([], []), 3, -3)
  else if id ∈ x.1 then (([], []), 7, -3)
  else if x.1.length = 300 then (([], []), 2, -3)
  else if 1000000 < (putAll id (Sm.stems t) 0 x.2).length then (([], []), 2, -2)
  else (addF x id (Sm.stems t), 0, 0)
theorem addR_good {x : Idx} {id : Int} {t : Str} (h : (addR x id t).2.1 = 0) : addR x id t = (addF x id (Sm.stems t), 0, 0) ∧ Canon x ∧ (1 ≤ id ∧ id ≤ 1000000) ∧ id ∉ x.1 ∧ Canon (addF x id (Sm.stems t)) := by
  unfold addR at h ⊢
  split at h
  · rename_i h0; exact absurd h h0
  rename_i h0
  split at h
  · simp at h
  rename_i h1
  split at h
  · simp at h
  rename_i h2
  split at h
  · simp at h
  rename_i h3
  split at h
  · simp at h
  rename_i h4
  split at h
  · simp at h
  rename_i h5
  split at h
  · simp at h
  rename_i h6
  have hc := (indexF_zero x).1 (by simpa using h0)
  have hr : 1 ≤ id ∧ id ≤ 1000000 := by omega
  rw [if_neg h0, if_neg h1, if_neg h2, if_neg h3, if_neg h4, if_neg h5, if_neg h6]
  exact ⟨rfl, hc, hr, h4, canon_add hc hr h4 (by have := hc.few; omega) (fun w hw => by have := stems_word hw; exact ⟨this.1, by omega⟩) (by have := stems_count t; omega) (by omega)⟩
end Ix
end Go.Proofs.YtnlhocbaighedaaGreatDoor
namespace Go.Proofs.YtnlhocbaighedaaGreatDoor
open Go.RowKit
set_option linter.unusedVariables false
/-- what lies in new blocks alone -/
def Old (n : Nat) : Nat → Prop := fun b => b < n
theorem PostsAt.readB {T : Tids} {o : Nat → Owner} {w : World} {B : Nat} {wd : Str} {v : Value} {ps : List RPost} (h : PostsAt T o w B wd v ps) : SlR postC (Old B) w v (ps.map pp) :=
 SlR.unraw (by simp) ((h.row.flatC (M' := Old B) flatC_rp fun _ _ => rfl).readB fun _ h => h) fun i h1 h2 => by
  have hi : i < ps.length := by simpa using h1
  simp only [List.getElem_map]
  exact ⟨rfl, ((h.pl _ (List.getElem_mem hi)).1.flatC (M' := Old B) flatC_int fun _ _ => rfl).readB fun _ h => h⟩
theorem SlR.weak {α : Type} {C : Codec α} {M : Nat → Prop} {w : World} {v : Value} {l : List α} (h : SlR C M w v l) : SlR C M0 w v l := h.sub fun _ _ h => h.elim
theorem SlR.older {α : Type} {C : Codec α} {w : World} {v : Value} {l : List α} {n m : Nat} (h : SlR C (Old n) w v l) (hm : m ≤ n) : SlR C (Old m) w v l := h.sub fun b _ hb => Nat.lt_of_lt_of_le (show b < m from hb) hm
theorem TreeAt.readB {T : Tids} {o : Nat → Owner} {w : World} {B : Nat} {v : Value} {X : List RTerm} (h : TreeAt T o w B v X) : SlR termC (Old B) w v (X.map pt) :=
 SlR.unraw (by simp) ((h.row.flatC (M' := Old B) flatC_rt fun _ _ => rfl).readB fun _ h => h) fun i h1 h2 => by
  have hi : i < X.length := by simpa using h1
  simp only [List.getElem_map]
  exact ⟨rfl, (h.posts _ (List.getElem_mem hi)).readB⟩
/-- the two results, an index under way, the words -/
structure AddSt (w0 : World) (o : Nat → Owner) (g3 g6 g7 : Nat) (a tv lv : Value) (ids : List Int) (X : List RTerm) (L : List Str) (W : World) : Prop where
 tree : TreeAt ixT o W w0.heap.size tv X
 k3 : Blk W g3 25 #[a, tv]
 k6 : Blk W g6 25 #[.slice none 0 0, .slice none 0 0]
 k7 : Blk W g7 30 #[.int .i64 0, .int .i64 0]
 ints : Own intC M0 W w0.heap.size 3 a ids
 intno : ∀ g, a.ownBlock = some g → o g = .no ∧ g ≠ g3 ∧ g ≠ g6 ∧ g ≠ g7
 list : Own strC M0 W w0.heap.size 9 lv L
 listno : ∀ g, lv.ownBlock = some g → o g = .no ∧ g ≠ g3
 n3 : o g3 = .no
 n6 : o g6 = .no ∧ g6 ≠ g3
 n7 : o g7 = .no ∧ g7 ≠ g3
 low : ∀ b, b < w0.heap.size → o b = .no
 base : w0.heap.size ≤ g3
 below : Below w0.heap.size w0 W
variable {w0 : World} {o : Nat → Owner} {g3 g6 g7 : Nat} {a tv lv : Value} {ids : List Int} {X : List RTerm} {L : List Str} {W : World}
theorem AddSt.step (h : AddSt w0 o g3 g6 g7 a tv lv ids X L W) {o' : Nat → Owner} {W' : World} {tv' : Value} {X' : List RTerm} (hT : TreeAt ixT o' W' w0.heap.size tv' X') (k3 : Blk W' g3 25 #[a, tv']) (ht : Turn o g3 W W') (ho : ∀ b, b < W.heap.size → o' b = o b) : AddSt w0 o' g3 g6 g7 a tv' lv ids X' L W' := by
 have hs := h.below.size
 refine ⟨hT, k3, h.k6.keep (ht.block g6 h.k6.lt h.n6.1 h.n6.2), h.k7.keep (ht.block g7 h.k7.lt h.n7.1 h.n7.2), h.ints.flatC flatC_int fun b hb => ?_, fun g hg => ?_, h.list.flatC flatC_str fun b hb => ?_, fun g hg => ?_, ?_, ?_, ?_, fun b hb => ?_, h.base, ?_⟩
 ·exact ht.block b (h.ints.lt b hb) (h.intno b hb).1 (h.intno b hb).2.1
 ·rw [ho g (h.ints.lt g hg)]; exact h.intno g hg
 ·exact ht.block b (h.list.lt b hb) (h.listno b hb).1 (h.listno b hb).2
 ·rw [ho g (h.list.lt g hg)]; exact h.listno g hg
 ·rw [ho g3 h.k3.lt]; exact h.n3
 ·rw [ho g6 h.k6.lt]; exact h.n6
 ·rw [ho g7 h.k7.lt]; exact h.n7
 ·rw [ho b (by omega)]; exact h.low b hb
 ·exact ⟨ht.os.trans h.below.os, ht.tape.trans h.below.tape, ht.output.trans h.below.output, Nat.le_trans hs ht.size, fun b hb => (ht.block b (by omega) (h.low b hb) (by have := h.base; omega)).trans (h.below.block b hb)⟩
/-- behind the two stores of the copy -/
theorem AddSt.start {w5 w6 : World} {g6 g7 : Nat} {a0 b0 a tv : Value} (hal5 : Below w0.heap.size w0 w5) (hb6 : Below w5.heap.size w5 w6) (k3 : Blk w5 g3 25 #[a0, b0]) (k6 : Blk w5 g6 25 #[.slice none 0 0, .slice none 0 0]) (k7 : Blk w5 g7 30 #[.int .i64 0, .int .i64 0])
  (hl : Own strC M0 w5 w0.heap.size 9 lv L) (hln : ∀ g, lv.ownBlock = some g → g ≠ g3) (ha : Own intC M0 w6 w5.heap.size 3 a ids) (hano : ∀ g, a.ownBlock = some g → o g = .no) (hT : TreeAt ixT o w6 w5.heap.size tv X) (hlo : ∀ g, g < w5.heap.size → o g = .no) (h36 : g6 ≠ g3) (h37 : g7 ≠ g3) (hB : w0.heap.size ≤ g3)
  (hW : (w6.setCell ⟨g3, 0, none⟩ a).setCell ⟨g3, 1, none⟩ tv = W) : AddSt w0 o g3 g6 g7 a tv lv ids X L W := by
 have hs := hal5.size
 have two : ∀ b, b ≠ g3 → W.heap[b]? = w6.heap[b]? := fun b hb => by rw [← hW, heap_set_ne _ _ _ hb, heap_set_ne _ _ _ hb]
 have h3 := k3.lt
 refine ⟨(hT.lower hs).move (fun b _ _ hb => two b fun e => hb (by rw [e]; exact hlo g3 h3)) (fun _ _ => rfl) (fun b hb => hT.fresh b (by rw [← hW] at hb; simpa using hb)), hW ▸ (((k3.ext hb6).set_ 0 a).set_ 1 tv), (k6.ext hb6).keep (two g6 h36), (k7.ext hb6).keep (two g7 h37), (ha.lower hs).flatC flatC_int fun b hb => two b fun e => (by have := ha.base b hb; omega), fun g hg => ⟨hano g hg, fun e => (by have := ha.base g hg; omega), fun e => (by have := ha.base g hg; have := k6.lt; omega), fun e => (by have := ha.base g hg; have := k7.lt; omega)⟩, (hl.ext hb6).flatC flatC_str fun b hb => two b (hln b hb), fun g hg => ⟨hlo g (hl.lt g hg), hln g hg⟩, hlo g3 h3, ⟨hlo g6 k6.lt, h36⟩, ⟨hlo g7 k7.lt, h37⟩, fun b hb => hlo b (by omega), hB, ?_⟩
 rw [← hW]
 exact ((hal5.trans (hb6.mono hs)).setCell (p := ⟨g3, 0, none⟩) hB _).setCell (p := ⟨g3, 1, none⟩) hB _
/-- behind the new number -/
theorem AddSt.insert (h : AddSt w0 o g3 g6 g7 a tv lv ids X L W) {V w7 W8 : World} {a' : Value} {ids' : List Int} (hV : Below W.heap.size W V) (hgr : V.grownBy w7 a.ownBlock) (hown : Own intC M0 w7 w0.heap.size 3 a' ids') (hor : a'.ownBlock = a.ownBlock ∨ a'.ownBlock = some V.heap.size) (hap : ∀ g, a.ownBlock = some g → g6 ≠ g ∧ g7 ≠ g ∧ ∀ b, lv.ownBlock = some b → b ≠ g) (hW : w7.setCell ⟨g3, 0, none⟩ a' = W8) : AddSt w0 o g3 g6 g7 a' tv lv ids' X L W8 := by
 have hs := h.below.size
 have hsV := hV.size
 have same : ∀ b, b < W.heap.size → b ≠ g3 → (∀ g, a.ownBlock = some g → b ≠ g) → W8.heap[b]? = W.heap[b]? := fun b hb h3 hg => by
  rw [← hW, heap_set_ne _ _ _ h3]
  exact (hgr.block b (by omega) fun e => hg b e.symm rfl).trans (hV.block b hb)
 have hsz : W.heap.size ≤ W8.heap.size := by have := hgr.size; rw [← hW]; simp; omega
 have hn : ∀ b, a'.ownBlock = some b → o b = .no ∧ b ≠ g3 ∧ b ≠ g6 ∧ b ≠ g7 := fun b hb => by
  rcases hor with e | e
  ·rw [e] at hb; exact h.intno b hb
  ·rw [e] at hb; injection hb with hb; exact ⟨h.tree.fresh b (by omega), by have := h.k3.lt; omega, by have := h.k6.lt; omega, by have := h.k7.lt; omega⟩
 refine ⟨h.tree.move (fun b hb _ hno => same b hb (fun e => hno (by rw [e]; exact h.n3)) fun g hg e => hno (by rw [e]; exact (h.intno g hg).1)) (fun _ _ => rfl) (fun b hb => h.tree.fresh b (by omega)), ?_, h.k6.keep (same g6 h.k6.lt h.n6.2 fun g hg => (hap g hg).1), h.k7.keep (same g7 h.k7.lt h.n7.2 fun g hg => (hap g hg).2.1), hown.flatC flatC_int fun b hb => ?_, hn, h.list.flatC flatC_str fun b hb => same b (h.list.lt b hb) (h.listno b hb).2 fun g hg => (hap g hg).2.2 b hb, h.listno, h.n3, h.n6, h.n7, h.low, h.base, ?_⟩
 ·rw [← hW]
  have k : Blk w7 g3 25 #[a, tv] := h.k3.keep ((hgr.block g3 (by have := h.k3.lt; omega) fun e => (h.intno g3 e.symm).2.1 rfl).trans (hV.block g3 h.k3.lt))
  exact k.set_ 0 a'
 ·rw [← hW]; exact heap_set_ne _ _ _ (hn b hb).2.1
 ·refine ⟨?_, ?_, ?_, Nat.le_trans hs hsz, fun b hb => (same b (by omega) (by have := h.base; omega) fun g hg e => ?_).trans (h.below.block b hb)⟩
  ·rw [← hW]; exact (hgr.os.trans hV.os).trans h.below.os
  ·rw [← hW]; exact (hgr.tape.trans hV.tape).trans h.below.tape
  ·rw [← hW]; exact (hgr.output.trans hV.output).trans h.below.output
  ·have := h.ints.base g hg; omega
/-- the word under way -/
theorem AddSt.word (h : AddSt w0 o g3 g6 g7 a tv lv ids X L W) {k : Nat} (hk : k < L.length) : ∃ g c, lv = .slice (some ⟨g, 0, none⟩) L.length c ∧ L.length ≤ c ∧ c ≤ maxLen ∧ W.cell? ⟨g, k, none⟩ = some (.string (bs L[k])) ∧ L[k].length ≤ maxLen := by
 obtain ⟨g, c, cs, hv, h1, h2, _, _, hrd, hc, _⟩ := h.list.cellsAt hk
 obtain ⟨rfl, hl⟩ := hrd
 have := hc 0 _ rfl
 exact ⟨g, c, hv, h1, h2, by simpa [strC] using this, hl⟩
/-- behind the return's stores -/
theorem AddSt.fin (h : AddSt w0 o g3 g6 g7 a tv lv ids X L W) {w8 W9 : World} (hb : Below W.heap.size W w8) (hk : ∀ b, b ≠ g6 → b ≠ g7 → W9.heap[b]? = w8.heap[b]?) (hs : W9.heap.size = w8.heap.size) : SlR intC (Old w0.heap.size) W9 a ids ∧ SlR termC (Old w0.heap.size) W9 tv (X.map pt) :=
 ⟨(((h.ints.ext hb).flatC (M' := Old w0.heap.size) flatC_int fun b hb => hk b (h.intno b hb).2.2.1 (h.intno b hb).2.2.2) : Own intC (Old w0.heap.size) W9 _ _ _ _).readB fun _ h => h,
  ((h.tree.ext hb).move (w' := W9) (o' := o) (fun b _ _ hn => hk b (fun e => hn (by rw [e]; exact h.n6.1)) fun e => hn (by rw [e]; exact h.n7.1)) (fun _ _ => rfl) fun b hb' => h.tree.fresh b (by have := hb.size; omega)).readB⟩
end Go.Proofs.YtnlhocbaighedaaGreatDoor
namespace Go.Proofs.YtnlhocbaighedaaGreatDoor
open Go.RowKit
set_option linter.unusedVariables false
theorem look_at {K V : Type} [DecidableEq K] {lt : K → K → Bool} (ht : Al.Tot lt) {l : List (K × V)} {k : Nat} (hs : Al.Sorted lt l) (hk : k < l.length) : Al.look l l[k].1 = some l[k].2 :=
 Al.look_of_mem ht hs (show (l[k].1, l[k].2) ∈ l from List.getElem_mem hk)
theorem look_of_search {ts : List Ix.Term} {raw : List (Str × Value)} {x : Str} {k : Nat} {hit : Bool} (hl : raw.length = ts.length) (hi : ∀ (i : Nat) (h1 : i < raw.length) (h2 : i < ts.length), raw[i].1 = ts[i].1) (hs : Al.Sorted ltS ts) (h : SearchAt ltS raw x k hit) :
  (hit = true → ∃ h : k < ts.length, Al.look ts x = some ts[k].2) ∧ (hit = false → Al.look ts x = none) := by
 obtain ⟨h1, h2, h3, h4⟩ := h
 constructor
 ·intro e
  rw [e] at h4
  by_cases hk : k < raw.length
  ·rw [List.getElem?_eq_getElem hk] at h4
   have hk' : k < ts.length := by omega
   have e2 : raw[k].1 = x := by simpa using h4.symm
   refine ⟨hk', ?_⟩
   rw [← e2, hi k hk hk']
   exact look_at tot_str hs hk'
  ·rw [List.getElem?_eq_none (by omega)] at h4
   cases h4
 ·intro e
  rw [e] at h4
  refine Al.look_none fun q hq e2 => ?_
  obtain ⟨m, hm, rfl⟩ := List.mem_iff_getElem.1 hq
  have hm' : m < raw.length := by omega
  rw [← hi m hm' hm] at e2
  rcases Nat.lt_trichotomy m k with e3 | e3 | e3
  ·exact tot_str.ne (h2 m hm' e3) e2
  ·subst e3
   rw [List.getElem?_eq_getElem hm'] at h4
   simp only at h4
   rw [decide_eq_true e2] at h4
   cases h4
  ·have h5 := h3 k (by omega) (Nat.le_refl _)
   have hp := List.pairwise_iff_getElem.1 hs k m (by omega) hm e3
   rw [← hi k (by omega) (by omega), ← hi m hm' hm, e2, h5] at hp
   cases hp
set_option maxRecDepth 20000 in
set_option maxHeartbeats 4000000 in
theorem indexOf_ok (a b : Value) (ts : List Ix.Term) (x : Str) (w : World) (h1 : SlR termC M0 w b ts) (hs : Al.Sorted ltS ts) (hln : ts.length ≤ 1000000) (hsm : ∀ t ∈ ts, t.2.length ≤ 1000000 ∧ ∀ p ∈ t.2, p.2.length ≤ 1000001) :
  Calls Tryz.prog 45 #[.agg #[a, b], .string (bs x)] w fun e w' => ∃ v, e = .returned v ∧ SlR postC (Old w.heap.size) w' v ((Al.look ts x).getD []) ∧ Below w.heap.size w w' := by
 obtain ⟨A1, c1, rfl, hlc, hcm⟩ := h1.form
 obtain ⟨raw, hrl, hraw, hri⟩ := h1.raw
 have hal := (Below.refl w.heap.size w).alloc (Nat.le_refl _) (.cells #[a, .slice A1 ts.length c1] 25)
 obtain ⟨g0, hg0⟩ : ∃ g, w.heap.size = g := ⟨_, rfl⟩
 obtain ⟨W, hW⟩ : ∃ W, w.alloc (.cells #[a, .slice A1 ts.length c1] 25) = W := ⟨_, rfl⟩
 have kb := Blk.new w 25 #[a, .slice A1 ts.length c1]
 obtain ⟨q0, q1, _, _, _⟩ := kb.two
 rw [hW] at hal kb
 rw [hg0] at kb
 have hsr : Al.Sorted ltS raw := by
  unfold Al.Sorted
  refine List.pairwise_iff_getElem.2 fun i j hi hj hij => ?_
  rw [(hri i hi (by omega)).1, (hri j hj (by omega)).1]
  exact List.pairwise_iff_getElem.1 hs i j (by omega) (by omega) hij
 have hf := find_ok a (.slice A1 ts.length c1) raw x W (hraw.ext hal) hsr (by omega)
 have hlk := fun k hit (h : SearchAt ltS raw x k hit) => look_of_search hrl (fun i h1 h2 => (hri i h1 h2).1) hs h
 have h1W := h1.ext hal
 have HW := Lib.hid (And.intro hW hg0); have Hf := Lib.hid hf; have Hlk := Lib.hid hlk; have Hsm := Lib.hid hsm
 clear hf hlk hri hraw hsr hs hsm hW hg0
 go_enter Tryz.func45, Tryz.ntmps45
 go_wp2_with fail
 rw [HW.out.1, HW.out.2]
 refine Hf.out.mono ?_
 rintro e w1 ⟨k, hit, rfl, hsa, hb1⟩
 have hl := Hlk.out k hit hsa
 clear hsa q0 q1 Hlk
 cases hit with
 | false =>
  have Hl := Lib.hid (hl.2 rfl)
  clear hl
  go_wp2
  go_ret
  refine ⟨_, rfl, ?_, below2 hal hb1⟩
  rw [Hl.out]
  exact SlR.nil _ _ _
 | true =>
  obtain ⟨hk, hl2⟩ := hl.1 rfl
  have Hl := Lib.hid hl2
  clear hl hl2
  obtain ⟨b, off, A2, c2, hA, _, _, p0, p1, _, hq⟩ := (h1W.ext hb1).termAt hk
  subst hA
  obtain ⟨_, q1, _⟩ := (kb.ext hb1).two
  have hk0 : (0 : Int) ≤ (k : Int) := by omega
  have hk1 : (k : Int) < (ts.length : Int) := by omega
  have hkw : IntKind.i64.wrap (k : Int) = (k : Int) := IntWalk.i64_in _ (by unfold maxLen at hcm; omega)
  have hmem := List.getElem_mem hk
  have hcp := copied_ok (fun _ => .no) [] (.slice A2 ts[k].2.length c2) ts[k].2 w1 hq (by have := (Hsm.out _ hmem).1; omega) (Hsm.out _ hmem).2 (fun _ _ => rfl)
  have Hcp := Lib.hid hcp
  clear hcp hq hmem
  go_wp2_with fail
  refine Hcp.out.mono ?_
  rintro e w2 ⟨v', o', ps, rfl, hps, hpp, _, _, hb2⟩
  have hb := below2 hal (hb1.trans (hb2.mono hb1.size))
  have hr := hps.readB.older (Nat.le_trans hal.size hb1.size)
  clear hb1 hb2
  rw [hpp] at hr
  clear hps hpp
  obtain ⟨A3, c3, rfl, _, _⟩ := hr.form
  go_wp2
  go_ret
  refine ⟨_, rfl, ?_, hb⟩
  rw [Hl.out]
  exact hr
end Go.Proofs.YtnlhocbaighedaaGreatDoor

/-
  Contracts and plain facts, one after another: A place of a word is added: what the two searches tell, plain; what the call keeps; A place of a word is added: the second half, plain; The tables of the library's, row by row: a binary search finds what a look at every row finds; Every letter's lower form is a letter and its own lower form: the rows of the case table, one after another; Every letter's lower form is a letter and its own lower form: the rows of the case table, one after another.
-/
import Derived.Test.YtiohhajkegpebaaGreatDoorR10
import Derived.Test.YtiohhajkegpebaaGreatDoorR7
import Derived.Test.YtiohhajkegpebaaGreatDoorR1
import Derived.Shelf.Unicode.CaseTo
namespace Go.Proofs.YtiohhajkegpebaaGreatDoor
open Go.RowKit
set_option linter.unusedVariables false
theorem searchAt_keys {K V V' : Type} [DecidableEq K] {lt : K → K → Bool} {l : List (K × V)} {l' : List (K × V')} {x : K} {k : Nat} {hit : Bool} (h : l.map (fun p => p.1) = l'.map fun p => p.1) (hs : SearchAt lt l x k hit) : SearchAt lt l' x k hit := by
  have hl : l.length = l'.length := by have := congrArg List.length h; simpa using this
  have hk : ∀ (m : Nat) (h1 : m < l.length) (h2 : m < l'.length), l[m].1 = l'[m].1 := fun m h1 h2 => by
    have h3 : (l.map fun p => p.1)[m]'(by simpa using h1) = (l'.map fun p => p.1)[m]'(by simpa using h2) := by simp only [h]
    simpa using h3
  obtain ⟨h1, h2, h3, h4⟩ := hs
  refine ⟨by omega, fun m hm hmk => ?_, fun m hm hmk => ?_, ?_⟩
  · rw [← hk m (by omega) hm]; exact h2 m (by omega) hmk
  · rw [← hk m (by omega) hm]; exact h3 m (by omega) hmk
  · rw [h4]
    by_cases hkl : k < l.length
    · rw [List.getElem?_eq_getElem hkl, List.getElem?_eq_getElem (show k < l'.length by omega)]
      simp only [hk k hkl (by omega)]
    · rw [List.getElem?_eq_none (by omega), List.getElem?_eq_none (by omega)]
theorem upd_hit {K V : Type} [DecidableEq K] {lt : K → K → Bool} (ht : Al.Tot lt) {l : List (K × V)} (hs : Al.Sorted lt l) {x : K} {k : Nat} {hit : Bool} (h : SearchAt lt l x k hit) (f : Option V → V) :
    (hit = true ∧ ∃ hk : k < l.length, l[k].1 = x ∧ Al.upd lt f x l = l.set k (x, f (some l[k].2))) ∨ (hit = false ∧ Al.upd lt f x l = l.take k ++ (x, f none) :: l.drop k) := by
  obtain ⟨h1, h2, h3, h4⟩ := h
  have hu := Al.upd_at ht (f := f) hs k h1 (fun m hm hmk => h2 m hm hmk) (fun hk => h3 k hk (Nat.le_refl _))
  by_cases hk : k < l.length
  · rw [List.getElem?_eq_getElem hk] at hu h4
    by_cases e : l[k].1 = x
    · left
      simp only [e, if_true] at hu
      refine ⟨by rw [h4]; simpa using e, hk, e, ?_⟩
      rw [hu, List.set_eq_take_append_cons_drop, if_pos hk]
    · right
      simp only [e, if_false] at hu
      exact ⟨by rw [h4]; simpa using e, hu⟩
  · rw [List.getElem?_eq_none (by omega)] at hu h4
    right
    refine ⟨h4, ?_⟩
    have hd : l.drop k = [] := List.drop_of_length_le (by omega)
    rw [hu, hd]
/-- what a call leaves alone: all but the tree's blocks, the box and new ones -/
structure Turn (o : Nat → Owner) (bx : Nat) (w w' : World) : Prop where
  os : w'.os = w.os
  tape : w'.tape = w.tape
  output : w'.output = w.output
  size : w.heap.size ≤ w'.heap.size
  block : ∀ b, b < w.heap.size → o b = .no → b ≠ bx → w'.heap[b]? = w.heap[b]?
theorem Turn.refl (o : Nat → Owner) (bx : Nat) (w : World) : Turn o bx w w := ⟨rfl, rfl, rfl, Nat.le_refl _, fun _ _ _ _ => rfl⟩
theorem Turn.trans {o o' : Nat → Owner} {bx : Nat} {w w1 w2 : World} (h : Turn o bx w w1) (h' : Turn o' bx w1 w2) (ho : ∀ b, b < w.heap.size → o' b = o b) : Turn o bx w w2 :=
  ⟨h'.os.trans h.os, h'.tape.trans h.tape, h'.output.trans h.output, Nat.le_trans h.size h'.size, fun b hb hn hx => (h'.block b (Nat.lt_of_lt_of_le hb h.size) (by rw [ho b hb]; exact hn) hx).trans (h.block b hb hn hx)⟩
theorem Turn.of_below {o : Nat → Owner} {bx : Nat} {w w' : World} (h : Below w.heap.size w w') : Turn o bx w w' := ⟨h.os, h.tape, h.output, h.size, fun b hb _ _ => h.block b hb⟩
theorem Turn.of_grown {o : Nat → Owner} {bx : Nat} {w w' : World} {v : Value} {x : Owner} (h : w.grownBy w' v.ownBlock) (hv : ∀ b, v.ownBlock = some b → o b = x) (hx : x ≠ .no) : Turn o bx w w' :=
  ⟨h.os, h.tape, h.output, h.size, fun b hb hn _ => h.block b hb fun e => hx (by rw [← hv b e.symm]; exact hn)⟩
theorem Turn.set {o : Nat → Owner} {bx : Nat} {w w' : World} (h : Turn o bx w w') {g : Nat} (hg : g = bx ∨ o g ≠ .no ∨ w.heap.size ≤ g) (i : Nat) (u : Value) : Turn o bx w (w'.setCell ⟨g, i, none⟩ u) :=
  ⟨h.os, h.tape, h.output, by simpa using h.size, fun b hb hn hx => by
    rw [heap_set_ne _ _ _ fun e => by subst e; rcases hg with e | e | e; · exact hx e
                                      · exact e hn
                                      · omega]
    exact h.block b hb hn hx⟩
/-- bounds under which places are added -/
structure Room (ts : List Ix.Term) : Prop where
  terms : ts.length ≤ 2000000
  posts : ∀ t ∈ ts, t.2.length ≤ 1000001 ∧ ∀ p ∈ t.2, p.2.length ≤ 2000000 ∧ 1 ≤ p.1 ∧ p.1 ≤ 1000000
end Go.Proofs.YtiohhajkegpebaaGreatDoor
namespace Go.Proofs.YtiohhajkegpebaaGreatDoor
open Go.RowKit
set_option linter.unusedVariables false
/-- behind the second search: the posting is there -/
def PutMid2 (o0 : Nat → Owner) (W : World) (B bx : Nat) (a tv : Value) (wd : Str) (n place : Int) (Y : List Ix.Term) (i k : Nat) (wc : World) : Prop :=
  ∃ (o : Nat → Owner) (X : List RTerm) (hi : i < X.length) (hk : k < X[i].2.2.length), TreeAt ixT o wc B tv X ∧ Blk wc bx 32 #[a, tv] ∧ X[i].1 = wd ∧ X[i].2.2[k].1 = n ∧
    Y = (X.map pt).set i (wd, (X[i].2.2.map pp).set k (n, X[i].2.2[k].2.2 ++ [place])) ∧ (∀ (j : Nat) (hj : j < X.length), X[j].1 = X[i].1 → j = i) ∧ (∀ (j : Nat) (hj : j < X[i].2.2.length), X[i].2.2[j].1 = X[i].2.2[k].1 → j = k) ∧ X[i].2.2[k].2.2.length ≤ 2000000 ∧
    Turn o0 bx W wc ∧ ∀ b, b < W.heap.size → o b = o0 b
theorem ids_distinct {ps : List RPost} (h : Al.Sorted Ix.ltI (ps.map pp)) {j k : Nat} (hj : j < ps.length) (hk : k < ps.length) (e : ps[j].1 = ps[k].1) : j = k := by
  have hp := List.pairwise_iff_getElem.1 h
  rcases Nat.lt_trichotomy j k with h1 | h1 | h1
  · have := hp j k (by simpa using hj) (by simpa using hk) h1
    simp only [List.getElem_map, pp, Ix.ltI, decide_eq_true_eq] at this
    omega
  · exact h1
  · have := hp k j (by simpa using hk) (by simpa using hj) h1
    simp only [List.getElem_map, pp, Ix.ltI, decide_eq_true_eq] at this
    omega
section
variable {o0 o : Nat → Owner} {W wc wd' : World} {B bx : Nat} {a tv : Value} {wd : Str} {n place : Int} {Y : List Ix.Term} {X : List RTerm} {i k : Nat}
theorem PutMid2.found (hi : i < X.length) (hT : TreeAt ixT o wc B tv X) (hbx : Blk wc bx 32 #[a, tv]) (hw : X[i].1 = wd) (hY : Y = (X.map pt).set i (wd, Ix.putP n place (X[i].2.2.map pp))) (hs : Al.Sorted Ix.ltI (X[i].2.2.map pp)) (hd : ∀ (j : Nat) (hj : j < X.length), X[j].1 = X[i].1 → j = i)
    (hb : ∀ p ∈ X[i].2.2, p.2.2.length ≤ 2000000) (ht : Turn o0 bx W wc) (ha : ∀ b, b < W.heap.size → o b = o0 b) (hsa : SearchAt Ix.ltI (X[i].2.2.map rp) n k true) {w2 : World} (hbl : Below wc.heap.size wc w2) : PutMid2 o0 W B bx a tv wd n place Y i k w2 := by
  have hsa2 : SearchAt Ix.ltI (X[i].2.2.map pp) n k true := searchAt_keys (by simp [rp, pp]) hsa
  rcases upd_hit Ix.totI hs hsa2 (fun q => q.getD [] ++ [place]) with ⟨_, hk, hkn, hu⟩ | ⟨h, _⟩
  · have hk' : k < X[i].2.2.length := by simpa using hk
    refine ⟨o, X, hi, hk', hT.ext hbl, hbx.ext hbl, hw, by simpa [pp] using hkn, ?_, hd, fun j hj e => ids_distinct hs hj hk' e, hb _ (List.getElem_mem hk'), ht.trans (o' := o) (Turn.of_below hbl) (fun b hb => ha b hb), ha⟩
    rw [hY, show Ix.putP n place (X[i].2.2.map pp) = _ from hu]
    simp [pp]
  · cases h
theorem PutMid2.added (hi : i < X.length) (hT : TreeAt ixT o wc B tv X) (hbx : Blk wc bx 32 #[a, tv]) (hbo : o bx = .no) (hw : X[i].1 = wd) (hY : Y = (X.map pt).set i (wd, Ix.putP n place (X[i].2.2.map pp))) (hs : Al.Sorted Ix.ltI (X[i].2.2.map pp)) (hd : ∀ (j : Nat) (hj : j < X.length), X[j].1 = X[i].1 → j = i)
    (ht : Turn o0 bx W wc) (ha : ∀ b, b < W.heap.size → o b = o0 b) (hsa : SearchAt Ix.ltI (X[i].2.2.map rp) n k false) {w1 w2 : World} {pv' : Value} {g nn c : Nat} (hg : tv = .slice (some ⟨g, 0, none⟩) nn c) (hbl : Below wc.heap.size wc w1)
    (hown : Own rpC M0 w2 B 56 pv' ((X[i].2.2.map rp).take k ++ (n, .slice none 0 0) :: (X[i].2.2.map rp).drop k)) (hgr : w1.grownBy w2 X[i].2.1.ownBlock) (hor : pv'.ownBlock = X[i].2.1.ownBlock ∨ pv'.ownBlock = some w1.heap.size) :
    PutMid2 o0 W B bx a tv wd n place Y i k (w2.setCell ⟨g, i * 2 + 1, none⟩ pv') := by
  have hsa2 : SearchAt Ix.ltI (X[i].2.2.map pp) n k false := searchAt_keys (by simp [rp, pp]) hsa
  rcases upd_hit Ix.totI hs hsa2 (fun q => q.getD [] ++ [place]) with ⟨h, _⟩ | ⟨_, hu⟩
  · cases h
  have hkl : k ≤ X[i].2.2.length := by have := hsa.1; simpa using this
  have hT1 := hT.ext hbl
  obtain ⟨ps', hps'⟩ : ∃ ps' : List RPost, ps' = X[i].2.2.take k ++ (n, .slice none 0 0, []) :: X[i].2.2.drop k := ⟨_, rfl⟩
  have hpm : ps'.map rp = (X[i].2.2.map rp).take k ++ (n, .slice none 0 0) :: (X[i].2.2.map rp).drop k := by rw [hps', List.map_append, List.map_cons, List.map_take, List.map_drop]; rfl
  have hkp : k < ps'.length := by rw [hps', List.length_append, List.length_cons, List.length_take]; omega
  have hpk : ps'[k] = (n, .slice none 0 0, []) := by
    subst hps'
    rw [List.getElem_append_right (by rw [List.length_take]; omega)]
    simp [List.length_take, Nat.min_eq_left hkl]
  obtain ⟨hT2, hol⟩ := hT1.postings (w1 := w2) hi hd hg (tv' := pv') (ps' := ps') hgr (by rw [hpm]; exact hown) (hor.imp (fun h => h) fun h => ⟨_, Nat.le_refl _, h⟩) (own_oneCell hown) (fun p hp => by
    rw [hps'] at hp
    rcases List.mem_append.1 hp with hp | hp
    · exact .inl (List.mem_of_mem_take hp)
    · rcases List.mem_cons.1 hp with e | hp
      · rw [e]; exact .inr ⟨rfl, rfl⟩
      · exact .inl (List.mem_of_mem_drop hp))
  have hPi := hT.posts _ (List.getElem_mem hi)
  have hog := hT.mine g (slice_block hg)
  have hgx : g ≠ bx := fun e => by rw [e, hbo] at hog; cases hog
  have hbx1 := hbx.ext hbl
  have hbx2 : Blk w2 bx 32 #[a, tv] := hbx1.keep (hgr.block bx hbx1.lt fun e => by have := hPi.mine bx e.symm; rw [hbo] at this; cases this)
  have hmp : ps'.map pp = (X[i].2.2.map pp).take k ++ (n, []) :: (X[i].2.2.map pp).drop k := by rw [hps', List.map_append, List.map_cons, List.map_take, List.map_drop]; rfl
  have hsN : Al.Sorted Ix.ltI (ps'.map pp) := by
    rw [hmp]
    have h1 := hsa2.2.1
    have h2 := hsa2.2.2.1
    have h4 := hsa2.2.2.2
    have hsplit : Al.Sorted Ix.ltI ((X[i].2.2.map pp).take k ++ (X[i].2.2.map pp).drop k) := by rw [List.take_append_drop]; exact hs
    unfold Al.Sorted at hsplit ⊢
    rw [List.pairwise_append] at hsplit ⊢
    refine ⟨hsplit.1, List.pairwise_cons.2 ⟨fun q hq => ?_, hsplit.2.1⟩, fun p hp q hq => ?_⟩
    · obtain ⟨m, hm, rfl⟩ := List.mem_iff_getElem.1 hq
      rw [List.length_drop] at hm
      rw [List.getElem_drop]
      have h5 := h2 (k + m) (by omega) (by omega)
      rw [List.getElem?_eq_getElem (show k < (X[i].2.2.map pp).length by omega)] at h4
      have h6 : (X[i].2.2.map pp)[k].1 ≠ n := by simpa using h4
      have h7 := h2 k (by omega) (Nat.le_refl _)
      simp only [Ix.ltI, decide_eq_false_iff_not, decide_eq_true_eq] at h5 h7 ⊢
      by_cases e : m = 0
      · subst e; simp only [Nat.add_zero]; omega
      · have h8 := List.pairwise_iff_getElem.1 hs k (k + m) (by omega) (by omega) (by omega)
        simp only [Ix.ltI, decide_eq_true_eq] at h8
        omega
    · rcases List.mem_cons.1 hq with e | hq
      · rw [e]
        obtain ⟨m, hm, rfl⟩ := List.mem_iff_getElem.1 hp
        rw [List.length_take] at hm
        rw [List.getElem_take]
        exact h1 m (by omega) (by omega)
      · exact hsplit.2.2 p hp q hq
  have hXi : i < (X.set i (X[i].1, pv', ps')).length := by rw [List.length_set]; exact hi
  have hgi : (X.set i (X[i].1, pv', ps'))[i] = (X[i].1, pv', ps') := List.getElem_set_self hXi
  have hag : ∀ b, b < W.heap.size → own1 o pv' (.row X[i].1) b = o0 b := fun b hb' => by rw [hol b (Nat.lt_of_lt_of_le (Nat.lt_of_lt_of_le hb' ht.size) hbl.size)]; exact ha b hb'
  refine ⟨own1 o pv' (.row X[i].1), X.set i (X[i].1, pv', ps'), hXi, by rw [hgi]; exact hkp, hT2, hbx2.far (p := ⟨g, i * 2 + 1, none⟩) (fun e => hgx e.symm) _, by rw [hgi]; exact hw, by simp only [hgi]; rw [hpk], ?_, fun j hj e => ?_, fun j hj e => ?_, by simp only [hgi]; rw [hpk]; exact Nat.zero_le _, ?_, hag⟩
  · simp only [hgi]
    rw [hY, show Ix.putP n place (X[i].2.2.map pp) = _ from hu, List.map_set, List.set_set, hpk, hmp, List.set_append_right _ _ (by rw [List.length_take]; omega), List.length_take, List.length_map, Nat.min_eq_left hkl, Nat.sub_self, List.set_cons_zero]
    rfl
  · rw [hgi] at e
    rw [List.length_set] at hj
    by_cases hji : j = i
    · exact hji
    · rw [List.getElem_set_ne (fun e' => hji e'.symm)] at e
      exact hd j hj e
  · simp only [hgi] at hj e
    exact ids_distinct hsN hj hkp e
  · refine ((ht.trans (o' := o) (Turn.of_below hbl) (fun b hb => ha b hb)).trans (o' := o) (Turn.of_grown (x := .row X[i].1) hgr (fun b hb => hPi.mine b hb) (by simp)) (fun b hb => ha b hb)).set ?_ (i * 2 + 1) pv'
    by_cases hgW : g < W.heap.size
    · exact .inr (.inl (by rw [← ha g hgW, hog]; simp))
    · exact .inr (.inr (by omega))
/-- the end: the place is there -/
theorem PutMid2.fin (hi : i < X.length) (hk : k < X[i].2.2.length) (hT : TreeAt ixT o wc B tv X) (hbx : Blk wc bx 32 #[a, tv]) (hbo : o bx = .no) (hw : X[i].1 = wd) (hn : X[i].2.2[k].1 = n) (hY : Y = (X.map pt).set i (wd, (X[i].2.2.map pp).set k (n, X[i].2.2[k].2.2 ++ [place]))) (hd : ∀ (j : Nat) (hj : j < X.length), X[j].1 = X[i].1 → j = i)
    (hid : ∀ (j : Nat) (hj : j < X[i].2.2.length), X[i].2.2[j].1 = X[i].2.2[k].1 → j = k) (ht : Turn o0 bx W wc) (ha : ∀ b, b < W.heap.size → o b = o0 b) {w1 w2 : World} {lv' : Value} {g nn c : Nat} (hg : X[i].2.1 = .slice (some ⟨g, 0, none⟩) nn c) (hbl : Below wc.heap.size wc w1)
    (hown : Own intC M0 w2 B 3 lv' (X[i].2.2[k].2.2 ++ [place])) (hgr : w1.grownBy w2 X[i].2.2[k].2.1.ownBlock) (hor : lv'.ownBlock = X[i].2.2[k].2.1.ownBlock ∨ ∃ b, w1.heap.size ≤ b ∧ lv'.ownBlock = some b) :
    ∃ (o' : Nat → Owner) (X' : List RTerm), TreeAt ixT o' (w2.setCell ⟨g, k * 2 + 1, none⟩ lv') B tv X' ∧ Blk (w2.setCell ⟨g, k * 2 + 1, none⟩ lv') bx 32 #[a, tv] ∧ X'.map pt = Y ∧ Turn o0 bx W (w2.setCell ⟨g, k * 2 + 1, none⟩ lv') ∧ ∀ b, b < W.heap.size → o' b = o0 b := by
  have hT1 := hT.ext hbl
  obtain ⟨hT2, hol⟩ := hT1.place hi hk hd hid hg hgr hown hor (own_oneCell hown)
  have hPi := hT.posts _ (List.getElem_mem hi)
  have hLi := hPi.pl _ (List.getElem_mem hk)
  have hog := hPi.mine g (slice_block hg)
  have hgx : g ≠ bx := fun e => by rw [e, hbo] at hog; cases hog
  have hbx1 := hbx.ext hbl
  have hbx2 : Blk w2 bx 32 #[a, tv] := hbx1.keep (hgr.block bx hbx1.lt fun e => by have := hLi.2 bx e.symm; rw [hbo] at this; cases this)
  refine ⟨_, _, hT2, hbx2.far (p := ⟨g, k * 2 + 1, none⟩) (fun e => hgx e.symm) _, ?_, ?_, fun b hb' => by rw [hol b (Nat.lt_of_lt_of_le (Nat.lt_of_lt_of_le hb' ht.size) hbl.size)]; exact ha b hb'⟩
  · rw [hY, List.map_set]
    congr 1
    show (X[i].1, (X[i].2.2.set k _).map pp) = _
    rw [hw, List.map_set, ← hn]
    rfl
  · refine ((ht.trans (o' := o) (Turn.of_below hbl) (fun b hb => ha b hb)).trans (o' := o) (Turn.of_grown (x := .pl X[i].1 X[i].2.2[k].1) hgr (fun b hb => hLi.2 b hb) (by simp)) (fun b hb => ha b hb)).set ?_ (k * 2 + 1) lv'
    by_cases hgW : g < W.heap.size
    · exact .inr (.inl (by rw [← ha g hgW, hog]; simp))
    · exact .inr (.inr (by omega))
end
end Go.Proofs.YtiohhajkegpebaaGreatDoor
namespace Go.Proofs.YtiohhajkegpebaaGreatDoor
namespace Sm
open Go.Lib
set_option linter.unusedVariables false
/-- rows in order, apart from each other -/
def sortedL : List (Nat × Nat) → Bool
  | [] => true
  | [x] => decide (x.1 ≤ x.2)
  | x :: y :: t => decide (x.1 ≤ x.2) && decide (x.2 < y.1) && sortedL (y :: t)
theorem sorted_head : ∀ {x : Nat × Nat} {t : List (Nat × Nat)}, sortedL (x :: t) = true → x.1 ≤ x.2 ∧ sortedL t = true ∧ ∀ y ∈ t, x.2 < y.1
  | x, [], h => ⟨by simpa [sortedL] using h, rfl, fun y hy => by cases hy⟩
  | x, z :: t, h => by
    simp only [sortedL, Bool.and_eq_true, decide_eq_true_eq] at h
    obtain ⟨⟨h1, h2⟩, h3⟩ := h
    have ih := sorted_head h3
    refine ⟨h1, h3, fun y hy => ?_⟩
    rcases List.mem_cons.1 hy with rfl | hy
    · exact h2
    · have := ih.2.2 y hy
      omega
theorem sorted_at : ∀ {l : List (Nat × Nat)}, sortedL l = true → ∀ (i j : Nat) (hj : j < l.length) (hij : i < j), (l[i]'(by omega)).2 < l[j].1
  | x :: t, h, 0, j + 1, hj, _ => by
    have hj2 : j < t.length := by simpa using hj
    have := (sorted_head h).2.2 t[j] (List.getElem_mem hj2)
    simpa using this
  | x :: t, h, i + 1, j + 1, hj, hij => by
    have := sorted_at (sorted_head h).2.1 i j (by simpa using hj) (by omega)
    simpa using this
theorem sorted_self : ∀ {l : List (Nat × Nat)}, sortedL l = true → ∀ (i : Nat) (hi : i < l.length), l[i].1 ≤ l[i].2
  | x :: t, h, 0, _ => (sorted_head h).1
  | x :: t, h, i + 1, hi => by
    have := sorted_self (sorted_head h).2.1 i (by simpa using hi)
    simpa using this
/-- rows of a table of ranges -/
def rowsG (T : List Rg) : List (Nat × Nat) := T.map fun x => (x.1, x.2.1)
def inG (x : Rg) (r : Nat) : Bool := Nat.ble x.1 r && Nat.ble r x.2.1
def memG (T : List Rg) (r : Nat) : Bool := T.any fun x => inG x r && x.has r
theorem getD_at (T : Array Rg) (i : Nat) (h : i < T.size) : T.getD i (0, 0, 0) = T.toList[i]'(by simpa using h) := by simp [Array.getD, h]
theorem any_slice_none {T : List Rg} {r lo hi : Nat} (h : ∀ (i : Nat) (hi' : i < T.length), lo ≤ i → i < hi → (inG T[i] r && T[i].has r) = false) : memG ((T.take hi).drop lo) r = false := by
  unfold memG
  rw [List.any_eq_false]
  intro x hx
  obtain ⟨k, hk, rfl⟩ := List.mem_iff_getElem.1 hx
  rw [List.length_drop, List.length_take] at hk
  rw [List.getElem_drop, List.getElem_take]
  rw [h (lo + k) (by omega) (by omega) (by omega)]
  simp
theorem any_slice_some {T : List Rg} {r lo hi i : Nat} (hi' : i < T.length) (h1 : lo ≤ i) (h2 : i < hi) (hs : ∀ (j : Nat) (hj : j < T.length), j ≠ i → inG T[j] r = false) (hin : inG T[i] r = true) : memG ((T.take hi).drop lo) r = T[i].has r := by
  cases hh : T[i].has r with
  | true =>
    unfold memG
    rw [List.any_eq_true]
    refine ⟨T[i], ?_, by rw [hin, hh]; rfl⟩
    refine List.mem_iff_getElem.2 ⟨i - lo, by rw [List.length_drop, List.length_take]; omega, ?_⟩
    rw [List.getElem_drop, List.getElem_take]
    congr 1
    omega
  | false =>
    apply any_slice_none
    intro j hj _ _
    by_cases e : j = i
    · subst e; rw [hh]; simp
    · rw [hs j hj e]; rfl
theorem rows_at {T : List Rg} {i : Nat} (h : i < T.length) : (rowsG T)[i]'(by simpa [rowsG] using h) = (T[i].1, T[i].2.1) := by simp [rowsG]
theorem only {T : List Rg} (hs : sortedL (rowsG T) = true) {r i : Nat} (hi : i < T.length) (hin : inG T[i] r = true) (j : Nat) (hj : j < T.length) (hne : j ≠ i) : inG T[j] r = false := by
  have hl : (rowsG T).length = T.length := by simp [rowsG]
  simp only [inG, Bool.and_eq_true, Nat.ble_eq] at hin
  cases hc : inG T[j] r with
  | false => rfl
  | true =>
    simp only [inG, Bool.and_eq_true, Nat.ble_eq] at hc
    exfalso
    rcases Nat.lt_or_ge j i with h | h
    · have := sorted_at hs j i (by omega) h
      rw [rows_at hj, rows_at hi] at this
      simp only at this
      omega
    · have := sorted_at hs i j (by omega) (by omega)
      rw [rows_at hj, rows_at hi] at this
      simp only at this
      omega
/-- the binary search finds what a look at every row finds -/
theorem bin_eq (T : Array Rg) (hs : sortedL (rowsG T.toList) = true) (r : Nat) : ∀ (f lo hi : Nat), hi ≤ T.size → hi - lo < f → binGo T r f lo hi = memG ((T.toList.take hi).drop lo) r
  | 0, lo, hi, _, h => absurd h (by omega)
  | f + 1, lo, hi, hh, h => by
    unfold binGo
    by_cases hlt : lo < hi
    · rw [if_pos hlt]
      have hm : (lo + hi) / 2 < T.size := by omega
      have hml : (lo + hi) / 2 < T.toList.length := by simpa using hm
      have hl : (rowsG T.toList).length = T.toList.length := by simp [rowsG]
      have hself := sorted_self hs ((lo + hi) / 2) (by omega)
      rw [rows_at hml] at hself
      rw [getD_at T _ hm]
      obtain ⟨x, hx⟩ : ∃ x, T.toList[(lo + hi) / 2] = x := ⟨_, rfl⟩
      simp only [hx] at hself ⊢
      by_cases hin : x.1 ≤ r ∧ r ≤ x.2.1
      · rw [if_pos hin]
        have hin' : inG T.toList[(lo + hi) / 2] r = true := by rw [hx]; simp [inG, hin]
        rw [any_slice_some hml (by omega) (by omega) (fun j hj hne => only hs hml hin' j hj hne) hin', hx]
      · rw [if_neg hin]
        by_cases hr : r < x.1
        · rw [if_pos hr, bin_eq T hs r f lo _ (by omega) (by omega)]
          have key : ∀ (i : Nat) (hi' : i < T.toList.length), (lo + hi) / 2 ≤ i → inG T.toList[i] r = false := fun i hi' hge => by
            cases hc : inG T.toList[i] r with
            | false => rfl
            | true =>
              exfalso
              simp only [inG, Bool.and_eq_true, Nat.ble_eq] at hc
              rcases Nat.lt_or_ge ((lo + hi) / 2) i with h' | h'
              · have := sorted_at hs ((lo + hi) / 2) i (by omega) h'
                rw [rows_at hml, rows_at hi', hx] at this
                simp only at this
                omega
              · have e : i = (lo + hi) / 2 := by omega
                subst e
                rw [hx] at hc
                omega
          have : (T.toList.take hi).drop lo = (T.toList.take ((lo + hi) / 2)).drop lo ++ (T.toList.take hi).drop ((lo + hi) / 2) := by
            conv => lhs; rw [← List.take_append_drop ((lo + hi) / 2) (T.toList.take hi)]
            rw [List.take_take, Nat.min_eq_left (by omega), List.drop_append_of_le_length (by rw [List.length_take]; omega)]
          rw [this]
          unfold memG
          rw [List.any_append]
          have hz := any_slice_none (T := T.toList) (r := r) (lo := (lo + hi) / 2) (hi := hi) (fun i hi' h1 _ => by rw [key i hi' h1]; rfl)
          unfold memG at hz
          rw [hz, Bool.or_false]
        · rw [if_neg hr, bin_eq T hs r f _ hi (by omega) (by omega)]
          have key : ∀ (i : Nat) (hi' : i < T.toList.length), i < (lo + hi) / 2 + 1 → inG T.toList[i] r = false := fun i hi' hge => by
            cases hc : inG T.toList[i] r with
            | false => rfl
            | true =>
              exfalso
              simp only [inG, Bool.and_eq_true, Nat.ble_eq] at hc
              rcases Nat.lt_or_ge i ((lo + hi) / 2) with h' | h'
              · have := sorted_at hs i ((lo + hi) / 2) (by omega) h'
                rw [rows_at hml, rows_at hi', hx] at this
                simp only at this
                omega
              · have e : i = (lo + hi) / 2 := by omega
                subst e
                rw [hx] at hc
                omega
          have : (T.toList.take hi).drop lo = (T.toList.take ((lo + hi) / 2 + 1)).drop lo ++ (T.toList.take hi).drop ((lo + hi) / 2 + 1) := by
            conv => lhs; rw [← List.take_append_drop ((lo + hi) / 2 + 1) (T.toList.take hi)]
            rw [List.take_take, Nat.min_eq_left (by omega), List.drop_append_of_le_length (by rw [List.length_take]; omega)]
          rw [this]
          unfold memG
          rw [List.any_append]
          have hz := any_slice_none (T := T.toList) (r := r) (lo := lo) (hi := (lo + hi) / 2 + 1) (fun i hi' _ h2 => by rw [key i hi' h2]; rfl)
          unfold memG at hz
          rw [hz, Bool.false_or]
    · rw [if_neg hlt, List.drop_eq_nil_of_le (by rw [List.length_take]; omega)]
      rfl
theorem lin_eq (T : Array Rg) (hs : sortedL (rowsG T.toList) = true) (r : Nat) : ∀ (f i : Nat), T.size - i < f → linGo T r f i = memG (T.toList.drop i) r
  | 0, i, h => absurd h (by omega)
  | f + 1, i, h => by
    unfold linGo
    by_cases hlt : i < T.size
    · have hml : i < T.toList.length := by simpa using hlt
      have hl : (rowsG T.toList).length = T.toList.length := by simp [rowsG]
      rw [if_pos hlt, getD_at T _ hlt, List.drop_eq_getElem_cons hml]
      obtain ⟨x, hx⟩ : ∃ x, T.toList[i] = x := ⟨_, rfl⟩
      simp only [hx]
      have rest : ∀ z, (z < x.1 ∨ z ≤ x.2.1) → memG (T.toList.drop (i + 1)) z = false := fun z hz => by
        unfold memG
        rw [List.any_eq_false]
        intro y hy
        obtain ⟨k, hk, rfl⟩ := List.mem_iff_getElem.1 hy
        rw [List.length_drop] at hk
        rw [List.getElem_drop]
        have h1 := sorted_at hs i (i + 1 + k) (by omega) (by omega)
        rw [rows_at hml, rows_at (by omega), hx] at h1
        have h2 := sorted_self hs i (by omega)
        rw [rows_at hml, hx] at h2
        simp only at h1 h2
        have : inG T.toList[i + 1 + k] z = false := by
          cases hc : inG T.toList[i + 1 + k] z with
          | false => rfl
          | true =>
            simp only [inG, Bool.and_eq_true, Nat.ble_eq] at hc
            omega
        rw [this]
        simp
      by_cases h1 : r < x.1
      · rw [if_pos h1]
        have := rest r (.inl h1)
        unfold memG at this ⊢
        rw [List.any_cons, this]
        have : inG x r = false := by
            rw [Bool.eq_false_iff]
            intro hc
            simp only [inG, Bool.and_eq_true, Nat.ble_eq] at hc
            omega
        rw [this]; rfl
      · rw [if_neg h1]
        by_cases h2 : r ≤ x.2.1
        · rw [if_pos h2]
          have := rest r (.inr h2)
          unfold memG at this ⊢
          rw [List.any_cons, this]
          have : inG x r = true := by simp only [inG, Bool.and_eq_true, Nat.ble_eq]; omega
          rw [this]; simp
        · rw [if_neg h2, lin_eq T hs r f (i + 1) (by omega)]
          unfold memG
          rw [List.any_cons]
          have : inG x r = false := by
            rw [Bool.eq_false_iff]
            intro hc
            simp only [inG, Bool.and_eq_true, Nat.ble_eq] at hc
            omega
          rw [this]; rfl
    · rw [if_neg hlt, List.drop_eq_nil_of_le (by simpa using Nat.le_of_not_lt hlt)]
      rfl
theorem is16_eq (T : Array Rg) (hs : sortedL (rowsG T.toList) = true) (r : Nat) : is16Go T r = memG T.toList r := by
  unfold is16Go
  split
  · rw [lin_eq T hs r _ _ (by omega), List.drop_zero]
  · rw [bin_eq T hs r _ _ _ (Nat.le_refl _) (by omega), List.drop_zero, List.take_of_length_le (by simp)]
theorem is32_eq (T : Array Rg) (hs : sortedL (rowsG T.toList) = true) (r : Nat) : is32Go T r = memG T.toList r := by
  unfold is32Go
  split
  · rw [lin_eq T hs r _ _ (by omega), List.drop_zero]
  · rw [bin_eq T hs r _ _ _ (Nat.le_refl _) (by omega), List.drop_zero, List.take_of_length_le (by simp)]
/-- a rune against a table, row by row -/
def memT (T : RTab) (z : Nat) : Bool :=
  if T.off < T.r16.size ∧ z ≤ (T.r16.getD (T.r16.size - 1) (0, 0, 0)).2.1 then memG (T.r16.toList.drop T.off) z
  else if 0 < T.r32.size ∧ (T.r32.getD 0 (0, 0, 0)).1 ≤ z then memG T.r32.toList z
  else false
theorem excl_eq (T : RTab) (h16 : sortedL (rowsG (T.r16.toList.drop T.off)) = true) (h32 : sortedL (rowsG T.r32.toList) = true) (hl : (T.r16.getD (T.r16.size - 1) (0, 0, 0)).2.1 < 65536) (z : Nat) (hz : z < 2147483648) :
    exclGo T (z : Int) = memT T z := by
  have hu : u32Of (z : Int) = z := by unfold u32Of; omega
  unfold exclGo memT
  rw [hu]
  have e : (T.r16.extract T.off T.r16.size).toList = T.r16.toList.drop T.off := by simp [List.take_of_length_le]
  have c : (((T.r32.getD 0 (0, 0, 0)).1 : Int) ≤ (z : Int)) ↔ (T.r32.getD 0 (0, 0, 0)).1 ≤ z := by omega
  split
  · rename_i h
    rw [is16_eq _ (by rw [e]; exact h16), e, Nat.mod_eq_of_lt (by omega)]
  · simp only [c]
    split
    · rw [is32_eq _ h32]
    · rfl
def inC (x : CaseRow) (r : Nat) : Bool := Nat.ble x.1 r && Nat.ble r x.2.1
theorem inC_mk {x : CaseRow} {r : Nat} (h1 : x.1 ≤ r) (h2 : r ≤ x.2.1) : inC x r = true := by simp [inC, h1, h2]
def rowsC (T : List CaseRow) : List (Nat × Nat) := T.map fun x => (x.1, x.2.1)
theorem rowsC_at {T : List CaseRow} {i : Nat} (h : i < T.length) : (rowsC T)[i]'(by simpa [rowsC] using h) = (T[i].1, T[i].2.1) := by simp [rowsC]
theorem getC_at (T : Array CaseRow) (i : Nat) (h : i < T.size) : T.getD i (0, 0, 0, 0, 0) = T.toList[i]'(by simpa using h) := by simp [Array.getD, h]
theorem onlyC {T : List CaseRow} (hs : sortedL (rowsC T) = true) {r i : Nat} (hi : i < T.length) (hin : inC T[i] r = true) (j : Nat) (hj : j < T.length) (hc : inC T[j] r = true) : j = i := by
  have hl : (rowsC T).length = T.length := by simp [rowsC]
  simp only [inC, Bool.and_eq_true, Nat.ble_eq] at hin hc
  rcases Nat.lt_or_ge j i with h | h
  · have := sorted_at hs j i (by omega) h
    rw [rowsC_at hj, rowsC_at hi] at this
    simp only at this
    omega
  · rcases Nat.eq_or_lt_of_le h with h' | h'
    · exact h'.symm
    · have := sorted_at hs i j (by omega) h'
      rw [rowsC_at hj, rowsC_at hi] at this
      simp only at this
      omega
/-- the search for a row of the case table -/
theorem look_eq (T : Array CaseRow) (hs : sortedL (rowsC T.toList) = true) (r : Nat) : ∀ (f lo hi : Nat), hi ≤ T.size → hi - lo < f →
    (∀ (i : Nat) (h : i < T.toList.length), lo ≤ i → i < hi → inC T.toList[i] r = true → lookupIdx T (r : Int) f lo hi = some i)
  | 0, lo, hi, _, h => absurd h (by omega)
  | f + 1, lo, hi, hh, h => by
    intro i hil h1 h2 hin
    unfold lookupIdx
    rw [if_pos (by omega)]
    have hm : (lo + hi) / 2 < T.size := by omega
    have hml : (lo + hi) / 2 < T.toList.length := by simpa using hm
    have hl : (rowsC T.toList).length = T.toList.length := by simp [rowsC]
    rw [getC_at T _ hm]
    by_cases hc : inC T.toList[(lo + hi) / 2] r = true
    · have e := onlyC hs hil hin _ hml hc
      rw [if_pos (by simp only [inC, Bool.and_eq_true, Nat.ble_eq] at hc; omega), e]
    · have hne : i ≠ (lo + hi) / 2 := fun e => hc (by subst e; exact hin)
      have hc' : ¬ ((T.toList[(lo + hi) / 2].1 ≤ r) ∧ (r ≤ T.toList[(lo + hi) / 2].2.1)) := fun hh => hc (inC_mk hh.1 hh.2)
      rw [if_neg (by omega)]
      simp only [inC, Bool.and_eq_true, Nat.ble_eq] at hin
      have hsm := sorted_self hs ((lo + hi) / 2) (by omega)
      rw [rowsC_at hml] at hsm
      simp only at hsm
      rcases Nat.lt_or_ge i ((lo + hi) / 2) with hlt | hge
      · have := sorted_at hs i ((lo + hi) / 2) (by omega) hlt
        rw [rowsC_at hil, rowsC_at hml] at this
        simp only at this
        rw [if_pos (by omega)]
        exact look_eq T hs r f lo _ (by omega) (by omega) i hil h1 hlt (inC_mk hin.1 hin.2)
      · have hgt : (lo + hi) / 2 < i := by omega
        have := sorted_at hs ((lo + hi) / 2) i (by omega) hgt
        rw [rowsC_at hil, rowsC_at hml] at this
        simp only at this
        rw [if_neg (by omega)]
        exact look_eq T hs r f _ hi (by omega) (by omega) i hil (by omega) h2 (inC_mk hin.1 hin.2)
def isL2 (r : Nat) : Bool := (if r ≤ 255 then isLetterL (r : Int) else memT letterT r) || (if r ≤ 255 then isDigitL (r : Int) else memT digitT r) || memT markT r
def lower2 (r : Nat) : Int := if r ≤ 127 then (if 65 ≤ r ∧ r ≤ 90 then (r : Int) + 32 else (r : Int)) else match caseT.find? (fun x => inC x r) with
  | some x => convertR 1 (r : Int) x
  | none => (r : Int)
theorem sorted_letter16 : sortedL (rowsG (letterT.r16.toList.drop letterT.off)) = true := by decide +kernel
theorem sorted_letter32 : sortedL (rowsG letterT.r32.toList) = true := by decide +kernel
theorem sorted_digit16 : sortedL (rowsG (digitT.r16.toList.drop digitT.off)) = true := by decide +kernel
theorem sorted_digit32 : sortedL (rowsG digitT.r32.toList) = true := by decide +kernel
theorem sorted_mark16 : sortedL (rowsG (markT.r16.toList.drop markT.off)) = true := by decide +kernel
theorem sorted_mark32 : sortedL (rowsG markT.r32.toList) = true := by decide +kernel
theorem sorted_case : sortedL (rowsC caseA.toList) = true := by decide +kernel
theorem isL_eq (r : Nat) (hr : r < 2147483648) : isL r = isL2 r := by
  have h1 : isLetterU (r : Int) = if r ≤ 255 then isLetterL (r : Int) else memT letterT r := by
    unfold isLetterU latin1
    by_cases h : r ≤ 255
    · rw [if_pos h, if_pos (by simp; omega)]
    · rw [if_neg h, if_neg (by simp; omega), excl_eq letterT sorted_letter16 sorted_letter32 (by decide +kernel) r hr]
  have h2 : isDigitU (r : Int) = if r ≤ 255 then isDigitL (r : Int) else memT digitT r := by
    unfold isDigitU
    by_cases h : r ≤ 255
    · rw [if_pos h, if_pos (by omega)]
    · rw [if_neg h, if_neg (by omega), excl_eq digitT sorted_digit16 sorted_digit32 (by decide +kernel) r hr]
  have h3 : isMarkU (r : Int) = memT markT r := excl_eq markT sorted_mark16 sorted_mark32 (by decide +kernel) r hr
  unfold isL isL2
  rw [h1, h2, h3]
theorem lower_eq (r : Nat) : toLowerU (r : Int) = lower2 r := by
  unfold toLowerU lower2
  by_cases h : r ≤ 127
  · rw [if_pos h, if_pos (by omega)]
    by_cases h2 : 65 ≤ r ∧ r ≤ 90
    · rw [if_pos h2, if_pos (by omega)]
    · rw [if_neg h2, if_neg (by omega)]
  · rw [if_neg h, if_neg (by omega)]
    unfold toR lookupGo
    cases hf : caseT.find? (fun x => inC x r) with
    | some x =>
      have hx := List.find?_some hf
      obtain ⟨i, hi, he⟩ := List.mem_iff_getElem.1 (List.mem_of_find?_eq_some hf)
      have hi' : i < caseA.toList.length := by simpa [caseA] using hi
      have hei : caseA.toList[i] = x := by rw [← he]; simp [caseA]
      have hl := look_eq caseA sorted_case r (caseA.size + 1) 0 caseA.size (Nat.le_refl _) (by omega) i hi' (Nat.zero_le _) (by simpa using hi') (by rw [hei]; exact hx)
      rw [hl]
      simp only [Option.map_some]
      rw [getC_at caseA i (by simpa using hi'), hei]
    | none =>
      cases hl : lookupIdx caseA (r : Int) (caseA.size + 1) 0 caseA.size with
      | none => rfl
      | some i =>
        exfalso
        obtain ⟨h1, h2, h3⟩ := lookupIdx_some caseA _ _ _ _ _ hl
        rw [getC_at caseA i h1] at h2 h3
        have hm : caseA.toList[i]'(by simpa using h1) ∈ caseT := by
          have := List.getElem_mem (l := caseA.toList) (n := i) (by simpa using h1)
          exact (show caseA.toList = caseT by simp [caseA]) ▸ this
        have := List.find?_eq_none.1 hf _ hm
        exact this (inC_mk (by omega) (by omega))
def okR (r : Nat) (z : Int) : Bool := (decide (0 ≤ z) && decide (z.toNat < 55296 ∨ (57344 ≤ z.toNat ∧ z.toNat ≤ 1114111)) && isL2 z.toNat && lower2 z.toNat == z) || !isL2 r
def okRow (x : CaseRow) : Bool := (List.range (x.2.1 + 1 - x.1)).all fun k => okR (x.1 + k) (convertR 1 ((x.1 + k : Nat) : Int) x)

end Sm
end Go.Proofs.YtiohhajkegpebaaGreatDoor
namespace Go.Proofs.YtiohhajkegpebaaGreatDoor
namespace Sm
open Go.Lib
set_option maxRecDepth 1000000
theorem ok0 : ((caseT.drop 0).take 23).all okRow = true := by decide +kernel
theorem ok1 : ((caseT.drop 23).take 107).all okRow = true := by decide +kernel
theorem ok2 : ((caseT.drop 130).take 31).all okRow = true := by decide +kernel
theorem ok3 : ((caseT.drop 161).take 10).all okRow = true := by decide +kernel
theorem ok4 : ((caseT.drop 171).take 19).all okRow = true := by decide +kernel
end Sm
end Go.Proofs.YtiohhajkegpebaaGreatDoor
namespace Go.Proofs.YtiohhajkegpebaaGreatDoor
namespace Sm
open Go.Lib
set_option maxRecDepth 1000000
theorem ok5 : ((caseT.drop 190).take 35).all okRow = true := by decide +kernel
theorem ok6 : ((caseT.drop 225).take 48).all okRow = true := by decide +kernel
theorem ok7 : ((caseT.drop 273).take 27).all okRow = true := by decide +kernel
theorem ok8 : ((caseT.drop 300).take 15).all okRow = true := by decide +kernel
theorem ok9 : ((caseT.drop 315).take 13).all okRow = true := by decide +kernel
theorem ok10 : ((caseT.drop 328).take 8).all okRow = true := by decide +kernel
end Sm
end Go.Proofs.YtiohhajkegpebaaGreatDoor

/-
  Scores and the order of what is found, plain: the reference counts and sorts as the code does.
-/
import Derived.Test.YtnlhocbaighedaaGreatDoorRkY
import Derived.Test.YtnlhocbaighedaaGreatDoorR23
import Derived.Test.YtnlhocbaighedaaGreatDoorR22
import Derived.Test.YtnlhocbaighedaaGreatDoorR17
namespace Go.Proofs.YtnlhocbaighedaaGreatDoor
set_option linter.unusedVariables false
namespace Rk
open Ix Q
/-! ### the stems that count -/
def uniqF (l : List Str) (s : Str) : List Str := if l.contains s then l else l ++ [s]
/-- what the reference's Counted makes of a list -/
def cntR : Nat → Q → List Str → List Str
 | 0, q, l => if q.kind = 2 ∨ q.kind = 4 ∨ q.kind = 5 then ((splitS q.text).map Sm.stem).foldl uniqF l else l
 | f + 1, q, l => (if q.kind = 8 then [] else q.parts).foldl (fun l p => cntR f p l) (if q.kind = 2 ∨ q.kind = 4 ∨ q.kind = 5 then ((splitS q.text).map Sm.stem).foldl uniqF l else l)
theorem node_parts {q : Q} (h : errOf q = 0) (h6 : q.kind ≠ 6) (h7 : q.kind ≠ 7) (h8 : q.kind ≠ 8) : q.parts = [] := by
 unfold errOf at h
 split at h
 ·cases h
 ·split at h
  ·cases h
  ·rename_i h1
   simp only [not_or, most, if_neg h8, if_neg (fun e : q.kind = 6 ∨ q.kind = 7 => e.elim h6 h7)] at h1
   exact List.eq_nil_of_length_eq_zero (by have := h1.2.1; omega)
theorem cnt_stems : ∀ (f : Nat) (q : Q), (∀ p ∈ pre (f + 1) q, errOf p = 0) → ∀ l, cntR f q l = (stemsQ f q).foldl uniqF l
 | 0, q, h, l => by
  unfold cntR stemsQ
  split <;> rfl
 | f + 1, q, h, l => by
  have h0 : errOf q = 0 := h q (by rw [pre]; exact .head _)
  unfold cntR stemsQ
  by_cases h1 : q.kind = 2 ∨ q.kind = 4 ∨ q.kind = 5
  ·rw [if_pos h1, if_pos h1, node_parts h0 (by omega) (by omega) (by omega)]
   split <;> rfl
  ·rw [if_neg h1, if_neg h1]
   by_cases h8 : q.kind = 8
   ·rw [if_pos h8, if_neg (by omega)]; rfl
   ·rw [if_neg h8]
    by_cases h2 : q.kind = 6 ∨ q.kind = 7
    ·rw [if_pos h2]
     have : ∀ (ps : List Q), (∀ p ∈ ps, ∀ r ∈ pre (f + 1) p, errOf r = 0) → ∀ l, ps.foldl (fun l p => cntR f p l) l = (ps.flatMap (stemsQ f)).foldl uniqF l := by
      intro ps
      induction ps with
      | nil => intro _ l; rfl
      | cons p ps ih =>
       intro hh l
       rw [List.foldl_cons, List.flatMap_cons, List.foldl_append, ← cnt_stems f p (hh p (.head _)) l]
       exact ih (fun r hr => hh r (.tail _ hr)) _
     exact this q.parts (fun p hp r hr => h r (by rw [pre]; exact .tail _ (List.mem_flatMap.2 ⟨p, hp, hr⟩))) l
    ·rw [if_neg h2, node_parts h0 (fun e => h2 (.inl e)) (fun e => h2 (.inr e)) h8]
     rfl
theorem uniq_mem (l : List Str) (s x : Str) : x ∈ uniqF l s ↔ x ∈ l ∨ x = s := by
 unfold uniqF
 split
 ·rename_i h
  rw [List.contains_iff_mem] at h
  constructor
  ·exact .inl
  ·rintro (h' | rfl)
   ·exact h'
   ·exact h
 ·simp
theorem uniq_nodup {l : List Str} (h : l.Nodup) (s : Str) : (uniqF l s).Nodup := by
 unfold uniqF
 split
 ·exact h
 ·rename_i hc
  refine List.nodup_append.2 ⟨h, by simp, fun a ha b hb => ?_⟩
  rw [List.mem_singleton] at hb
  subst hb
  rintro rfl
  exact hc (List.contains_iff_mem.2 ha)
theorem uniqs_mem (x : Str) : ∀ (xs l : List Str), x ∈ xs.foldl uniqF l ↔ x ∈ l ∨ x ∈ xs
 | [], l => by simp
 | s :: xs, l => by rw [List.foldl_cons, uniqs_mem x xs, uniq_mem, List.mem_cons, or_assoc]
theorem uniqs_nodup : ∀ (xs l : List Str), l.Nodup → (xs.foldl uniqF l).Nodup
 | [], l, h => h
 | s :: xs, l, h => by rw [List.foldl_cons]; exact uniqs_nodup xs _ (uniq_nodup h s)
theorem comp_all (d : Array Str) : ∀ (m j : Nat), j < m → d[j]! ∈ Lib.compactUpTo d m
 | 0, j, h => absurd h (Nat.not_lt_zero _)
 | m + 1, j, h => by
  rw [Lib.compactUpTo_succ, List.mem_append]
  by_cases e : j = m
  ·subst e
   by_cases hk : Lib.keeps d j = true
   ·right; rw [if_pos hk]; simp
   ·left
    have hj : ¬ (j = 0 ∨ d[j]! ≠ d[j - 1]!) := by unfold Lib.keeps at hk; simpa using hk
    rw [not_or] at hj
    have h1 : d[j]! = d[j - 1]! := by simpa using hj.2
    rw [h1]
    exact comp_all d j (j - 1) (by have := hj.1; omega)
  ·left; exact comp_all d m j (by omega)
theorem comp_rise (d : Array Str) (hd : ∀ j, j + 1 < d.size → d[j]! ≤ d[j + 1]!) : ∀ m, m ≤ d.size → (Lib.compactUpTo d m).Pairwise (· ≠ ·) ∧ ∀ x ∈ Lib.compactUpTo d m, 0 < m ∧ x ≤ d[m - 1]!
 | 0, _ => by simp [Lib.compactUpTo]
 | m + 1, hm => by
  obtain ⟨h1, h2⟩ := comp_rise d hd m (by omega)
  rw [Lib.compactUpTo_succ]
  have hstep : 0 < m → d[m - 1]! ≤ d[m]! := fun h => by
   have := hd (m - 1) (by omega)
   rwa [show m - 1 + 1 = m by omega] at this
  have h3 : ∀ x ∈ Lib.compactUpTo d m, x ≤ d[m]! := fun x hx => List.le_trans (h2 x hx).2 (hstep (h2 x hx).1)
  by_cases hk : Lib.keeps d m = true
  ·rw [if_pos hk]
   refine ⟨List.pairwise_append.2 ⟨h1, by simp, fun a ha b hb => ?_⟩, fun x hx => ⟨by omega, ?_⟩⟩
   ·rw [List.mem_singleton] at hb
    subst hb
    rintro rfl
    obtain ⟨h0, hle⟩ := h2 _ ha
    have hk2 : m = 0 ∨ d[m]! ≠ d[m - 1]! := by unfold Lib.keeps at hk; simpa using hk
    rcases hk2 with e | e
    ·omega
    ·exact e (List.le_antisymm hle (hstep h0))
   ·rcases List.mem_append.1 hx with hx | hx
    ·exact h3 x hx
    ·rw [List.mem_singleton] at hx
     subst hx
     exact List.le_refl _
  ·rw [if_neg hk, List.append_nil]
   exact ⟨h1, fun x hx => ⟨by omega, h3 x hx⟩⟩
theorem le_tot (a b : Str) : (decide (a ≤ b) || decide (b ≤ a)) = true := by
 rw [Bool.or_eq_true, decide_eq_true_eq, decide_eq_true_eq]
 exact List.le_total a b
theorem count_nodup (xs : List Str) : (countF xs).Nodup := by
 have hs : (sortF xs).Pairwise fun a b => decide (a ≤ b) = true := List.pairwise_mergeSort (le := fun x y => decide (x ≤ y)) (fun a b c h1 h2 => by
  rw [decide_eq_true_eq] at h1 h2 ⊢
  exact List.le_trans h1 h2) (fun a b => le_tot a b) xs
 unfold countF Lib.compact
 have := (comp_rise (sortF xs).toArray (fun j hj => by
  have hj' : j + 1 < (sortF xs).length := by simpa using hj
  have h1 := List.pairwise_iff_getElem.1 hs j (j + 1) (by omega) hj' (by omega)
  rw [decide_eq_true_eq] at h1
  simpa [hj', show j < (sortF xs).length by omega] using h1) (sortF xs).length (by simp)).1
 exact this
theorem count_mem (xs : List Str) (x : Str) : x ∈ countF xs ↔ x ∈ xs := by
 constructor
 ·intro h; exact sort_mem.1 (compact_mem h)
 ·intro h
  have h1 := sort_mem.2 h
  obtain ⟨i, hi, rfl⟩ := List.mem_iff_getElem.1 h1
  have := comp_all (sortF xs).toArray (sortF xs).length i hi
  unfold countF Lib.compact
  simpa [hi] using this
theorem count_perm (xs : List Str) : (xs.foldl uniqF []).Perm (countF xs) :=
 (List.perm_ext_iff_of_nodup (uniqs_nodup xs [] List.nodup_nil) (count_nodup xs)).2 fun a => by rw [uniqs_mem, count_mem]; simp
theorem perm_sum : ∀ {l l' : List Int}, l.Perm l' → l.sum = l'.sum
 | _, _, .nil => rfl
 | _, _, .cons a h => by rw [List.sum_cons, List.sum_cons, perm_sum h]
 | _, _, .swap a b l => by simp only [List.sum_cons]; omega
 | _, _, .trans h h' => (perm_sum h).trans (perm_sum h')
theorem score_perm (x : Idx) {l l' : List Str} (h : l.Perm l') (id : Int) : scoreF x l id = scoreF x l' id := by
 unfold scoreF
 have h2 := h.map fun s => weight x s * min ((cont x.2 s id).length : Int) 10
 exact perm_sum h2
/-! ### what the reference counts -/
def timesF (l : List Str) (w : Str) : Nat := (List.range l.length).countP fun m => Sr.standsF l m w
def manyF (docs : List (List Str)) (w : Str) : Nat := docs.countP fun l => decide (0 < timesF l w)
/-- the reference's score of text k -/
def scoreRef (docs : List (List Str)) (ws : List Str) (k : Nat) : Int :=
 (ws.map fun w => min ((timesF (docs.getD k []) w : Nat) : Int) 10 * (1000 * ((docs.length : Int) + 1) / ((manyF docs w : Int) + 1))).sum
theorem count_rise (c : List Int) (hc : c.Pairwise (· < ·)) (n : Nat) (h : ∀ a ∈ c, 0 ≤ a ∧ a < n) : (List.range n).countP (fun m : Nat => c.contains (m : Int)) = c.length := by
 have h1 : ((List.range n).filter fun m : Nat => c.contains (m : Int)).map (fun m : Nat => (m : Int)) = c := by
  refine sorted_ext ?_ hc fun a => ?_
  ·rw [List.pairwise_map]
   refine ((List.pairwise_lt_range (n := n)).filter _).imp ?_
   intro a b hab
   omega
  ·rw [List.mem_map]
   constructor
   ·rintro ⟨m, hm, rfl⟩
    exact List.contains_iff_mem.1 (List.mem_filter.1 hm).2
   ·intro ha
    have := h a ha
    refine ⟨a.toNat, List.mem_filter.2 ⟨List.mem_range.2 (by omega), ?_⟩, by omega⟩
    rw [show ((a.toNat : Nat) : Int) = a by omega]
    exact List.contains_iff_mem.2 ha
 have h2 := congrArg List.length h1
 rw [List.length_map] at h2
 rw [List.countP_eq_length_filter]
 exact h2
theorem cont_rise {x : Idx} (hc : Canon x) (w : Str) (id : Int) : (cont x.2 w id).Pairwise (· < ·) := by
 by_cases e : cont x.2 w id = []
 ·rw [e]; exact .nil
 ·obtain ⟨t, ht, rfl, p, hp, rfl, e2⟩ := mem_cont e
  rw [← e2]
  exact ((hc.post t ht).2.2 p hp).2.2.1
theorem times_eq {x : Idx} (hc : Canon x) (h : Sr.plainF x = true) {id : Int} {w : Str} (hw : w ≠ []) : timesF (Sr.docF x id) w = (cont x.2 w id).length := by
 unfold timesF
 rw [← count_rise _ (cont_rise hc w id) (Sr.docF x id).length fun a ha => by
  obtain ⟨i, rfl⟩ := Sr.place_nat hc ha
  obtain ⟨hi, _⟩ := (Sr.doc_has hc h hw).2 ha
  omega]
 exact List.countP_congr fun m _ => by rw [Sr.stands_eq hc h hw]
theorem many_eq {x : Idx} (hc : Canon x) (h : Sr.plainF x = true) {w : Str} (hw : w ≠ []) : manyF (x.1.map (Sr.docF x)) w = ((Al.look x.2 w).getD []).length := by
 unfold manyF
 rw [List.countP_map, List.countP_eq_length_filter]
 have e : (x.1.filter ((fun l => decide (0 < timesF l w)) ∘ Sr.docF x)) = ((Al.look x.2 w).getD []).map fun p => p.1 := by
  cases hk : Al.look x.2 w with
  | none =>
   rw [Option.getD_none, List.map_nil, List.filter_eq_nil_iff]
   intro id _ hh
   simp only [Function.comp_apply, decide_eq_true_eq] at hh
   rw [times_eq hc h hw] at hh
   unfold cont at hh
   rw [hk] at hh
   exact absurd hh (by simp)
  | some ps =>
   obtain ⟨_, h2, h3⟩ := hc.post _ (Al.look_mem hk)
   refine sorted_ext (hc.ids.filter _) ((pair_sorted ps).2 h2) fun id => ?_
   rw [Option.getD_some, List.mem_filter, List.mem_map]
   simp only [Function.comp_apply, decide_eq_true_eq]
   rw [times_eq hc h hw]
   constructor
   ·rintro ⟨_, hl⟩
    obtain ⟨t, ht, e1, p, hp, e2, _⟩ := mem_cont (List.ne_nil_of_length_pos hl)
    have e3 : t = (w, ps) := by
     have h4 := Al.look_of_mem tot_str hc.srt (k := t.1) (v := t.2) ht
     rw [e1, hk] at h4
     injection h4 with h4
     exact Prod.ext e1 h4.symm
    rw [e3] at hp
    exact ⟨p, hp, e2⟩
   ·rintro ⟨p, hp, rfl⟩
    have h4 := cont_mem hc.wf (Al.look_mem hk) hp
    refine ⟨(h3 p hp).1, ?_⟩
    show 0 < (cont x.2 w p.1).length
    have h5 : cont x.2 w p.1 = p.2 := h4
    rw [h5]
    exact List.length_pos_iff.2 (h3 p hp).2.1
 rw [e, List.length_map]
theorem score_ref {x : Idx} (hc : Canon x) (h : Sr.plainF x = true) {ws : List Str} (hw : ∀ w ∈ ws, w ≠ []) {k : Nat} (hk : k < x.1.length) : scoreRef (x.1.map (Sr.docF x)) ws k = scoreF x ws x.1[k] := by
 unfold scoreRef scoreF
 congr 1
 refine List.map_congr_left fun w hm => ?_
 have e1 : (x.1.map (Sr.docF x)).getD k [] = Sr.docF x x.1[k] := by
  rw [getD_get (by rw [List.length_map]; exact hk), List.getElem_map]
 rw [e1, times_eq hc h (hw w hm), many_eq hc h (hw w hm), List.length_map]
 unfold weight
 exact Int.mul_comm _ _
theorem stems_ne {f : Nat} {q : Q} : (∀ p ∈ pre (f + 1) q, errOf p = 0) → ∀ s ∈ stemsQ f q, s ≠ [] := by
 have leaf : ∀ q : Q, errOf q = 0 → (q.kind = 2 ∨ q.kind = 4 ∨ q.kind = 5) → ∀ s ∈ (splitS q.text).map Sm.stem, s ≠ [] := by
  intro q h0 hk s hs
  obtain ⟨w, hw, rfl⟩ := List.mem_map.1 hs
  obtain ⟨_, t1, t4, t5, _⟩ := Sr.node_text h0
  rcases hk with hk | hk | hk
  ·obtain ⟨e1, e2⟩ := t1 (.inl hk)
   rw [e1, List.mem_singleton] at hw
   subst hw
   exact (Sr.word_ne e2).2
  ·exact (Sr.word_ne (t4 hk w hw)).2
  ·obtain ⟨a, b, e, e1, e2⟩ := t5 hk
   rw [e] at hw
   rcases List.mem_cons.1 hw with rfl | hw
   ·exact (Sr.word_ne e1).2
   ·rw [List.mem_singleton] at hw
    subst hw
    exact (Sr.word_ne e2).2
 induction f generalizing q with
 | zero =>
  intro h s hs
  have h0 : errOf q = 0 := h q (by rw [pre]; exact .head _)
  unfold stemsQ at hs
  split at hs
  ·rename_i hk; exact leaf q h0 hk s hs
  ·cases hs
 | succ f ih =>
  intro h s hs
  have h0 : errOf q = 0 := h q (by rw [pre]; exact .head _)
  unfold stemsQ at hs
  split at hs
  ·rename_i hk; exact leaf q h0 hk s hs
  ·split at hs
   ·obtain ⟨p, hp, hs⟩ := List.mem_flatMap.1 hs
    exact ih (fun r hr => h r (by rw [pre]; exact .tail _ (List.mem_flatMap.2 ⟨p, hp, hr⟩))) s hs
   ·cases hs
theorem stemsQ_len : ∀ (f : Nat) (q : Q), (stemsQ f q).length ≤ q.bulk ∧ ∀ s ∈ stemsQ f q, s.length ≤ q.bulk
 | f, .node kk t nv parts => by
  have leaf : ((splitS t).map Sm.stem).length ≤ Q.bulk (.node kk t nv parts) ∧ ∀ s ∈ (splitS t).map Sm.stem, s.length ≤ Q.bulk (.node kk t nv parts) := by
   constructor
   ·rw [List.length_map, splitS_len]
    have := List.count_le_length (a := (32 : UInt8)) (l := t)
    simp only [Q.bulk]
    omega
   ·intro s hs
    obtain ⟨w, hw, rfl⟩ := List.mem_map.1 hs
    have h1 := (splitS_mem t w hw).2
    have h2 := Sm.stem_len w
    simp only [Q.bulk]
    omega
  have hbs : ∀ (g : Nat) (ps : List Q), (∀ p ∈ ps, (stemsQ g p).length ≤ p.bulk ∧ ∀ s ∈ stemsQ g p, s.length ≤ p.bulk) → (ps.flatMap (stemsQ g)).length ≤ Q.bulks ps ∧ ∀ s ∈ ps.flatMap (stemsQ g), s.length ≤ Q.bulks ps := by
   intro g ps
   induction ps with
   | nil => intro _; simp [Q.bulks]
   | cons p ps ih =>
    intro hh
    obtain ⟨a1, a2⟩ := hh p (.head _)
    obtain ⟨b1, b2⟩ := ih fun r hr => hh r (.tail _ hr)
    simp only [Q.bulks, List.flatMap_cons, List.length_append]
    refine ⟨by omega, fun s hs => ?_⟩
    rcases List.mem_append.1 hs with hs | hs
    ·have := a2 s hs; omega
    ·have := b2 s hs; omega
  cases f with
  | zero =>
   unfold stemsQ
   split
   ·exact leaf
   ·simp
  | succ f =>
   unfold stemsQ
   split
   ·exact leaf
   ·split
    ·have := hbs f parts fun p hp => stemsQ_len f p
     have hle : Q.bulks parts ≤ Q.bulk (.node kk t nv parts) := by simp only [Q.bulk]; omega
     exact ⟨Nat.le_trans this.1 hle, fun s hs => Nat.le_trans (this.2 s hs) hle⟩
    ·simp
/-! ### the order -/
def insRef (sc : Int → Int) (x : Int) : List Int → List Int
 | [] => [x]
 | y :: t => if sc x ≤ sc y then y :: insRef sc x t else x :: y :: t
def ordRef (sc : Int → Int) (l : List Int) : List Int := l.foldl (fun o x => insRef sc x o) []
theorem insRef_ss (sc : Int → Int) (x : Int) : ∀ o : List Int, Up (fun i => - sc i) o → SS (fun i => - sc i) (o ++ [x]) (insRef sc x o)
 | [], _ => SS.self (by simp [Up])
 | y :: t, h => by
  obtain ⟨h1', h2⟩ := List.pairwise_cons.1 h
  have h1 : ∀ z ∈ t, - sc y ≤ - sc z := h1'
  rw [insRef]
  split
  ·rename_i hle
   have ih := insRef_ss sc x t h2
   refine ⟨?_, List.pairwise_cons.2 ⟨fun z hz => ?_, ih.2⟩⟩
   ·exact (FE.refl _ [y]).append ih.1
   ·show - sc y ≤ - sc z
    rcases List.mem_append.1 ((ih.1.mem z).1 hz) with hz | hz
    ·exact h1 z hz
    ·rw [List.mem_singleton] at hz; subst hz; omega
  ·rename_i hle
   refine ⟨?_, List.pairwise_cons.2 ⟨fun z hz => ?_, h⟩⟩
   ·refine FE.swap (a := y :: t) (b := [x]) fun a ha b hb => ?_
    show - sc a ≠ - sc b
    rw [List.mem_singleton] at hb
    subst hb
    rcases List.mem_cons.1 ha with rfl | ha
    ·omega
    ·have := h1 a ha; omega
   ·show - sc x ≤ - sc z
    rcases List.mem_cons.1 hz with rfl | hz
    ·omega
    ·have := h1 z hz; omega
theorem foldRef_ss (sc : Int → Int) : ∀ (l o : List Int), Up (fun i => - sc i) o → SS (fun i => - sc i) (o ++ l) (l.foldl (fun o x => insRef sc x o) o)
 | [], o, h => by simpa using SS.self h
 | x :: l, o, h => by
  rw [List.foldl_cons]
  have h1 := insRef_ss sc x o h
  refine (foldRef_ss sc l _ h1.2).of ?_
  simpa using h1.1.append (FE.refl _ l)
theorem ordRef_ss (sc : Int → Int) (l : List Int) : SS (fun i => - sc i) l (ordRef sc l) := by
 exact foldRef_ss sc l [] List.Pairwise.nil
theorem ord_key (x : Idx) (l : List Str) (i j : Int) : ordF x l i j < 0 ↔ (fun i => - scoreF x l i) i < (fun i => - scoreF x l i) j := by
 unfold ordF
 show _ ↔ - scoreF x l i < - scoreF x l j
 omega
theorem sink_ss (x : Idx) (l : List Str) (m : List Int) : SS (fun i => - scoreF x l i) m (sinkF (ordF x l) m) := sinkF_ss _ _ (fun i j => ord_key x l i j) m
theorem order_ref (x : Idx) (l : List Str) (m : List Int) : sinkF (ordF x l) m = ordRef (scoreF x l) m := (sink_ss x l m).uniq (ordRef_ss _ m)
end Rk
end Go.Proofs.YtnlhocbaighedaaGreatDoor

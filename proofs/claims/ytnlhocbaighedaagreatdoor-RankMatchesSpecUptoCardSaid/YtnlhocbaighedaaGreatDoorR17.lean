/-
  Contracts and plain facts, one after another: The texts of an index, place by place, and what a query matches there; plain; From the form's own reading of an argument to a codec's: for a law that only reads its arguments; Indexes: what the law's helpers compute; plain.
-/
import Derived.Test.YtnlhocbaighedaaGreatDoorR16
import Derived.Test.YtnlhocbaighedaaGreatDoorBase
import Derived.Test.YtnlhocbaighedaaGreatDoorRows
import Derived.Test.YtnlhocbaighedaaGreatDoorR2
import Derived.Test.YtnlhocbaighedaaGreatDoorR13
import Derived.ProofKit
import Derived.JoinedCond
import Derived.OpenShut
namespace Go.Proofs.YtnlhocbaighedaaGreatDoor
set_option linter.unusedVariables false
namespace Sr
open Q
/-- a list with a word at a place -/
def padded (l : List Str) (n : Nat) : List Str := l ++ List.replicate (n + 1 - l.length) []
def placedF (l : List Str) (n : Nat) (v : Str) : List Str :=
 if 5000 < n then l else (padded l n).set n ((if (padded l n).getD n [] = [] then [] else (padded l n).getD n [] ++ [32]) ++ v)
def placesF (l : List Str) (v : Str) (ns : List Int) : List Str := ns.foldl (fun l n => placedF l n.toNat v) l
def docP (id : Int) (v : Str) (l : List Str) (ps : List Ix.Post) : List Str := ps.foldl (fun l p => if p.1 = id then placesF l v p.2 else l) l
def docT (id : Int) (l : List Str) (ts : List Ix.Term) : List Str := ts.foldl (fun l t => docP id t.1 l t.2) l
def docF (x : Ix.Idx) (id : Int) : List Str := docT id [] x.2
/-- a word is at a place -/
def Has (l : List Str) (i : Nat) (w : Str) : Prop := ∃ h : i < l.length, w ∈ splitS l[i]
def standsF (l : List Str) (i : Nat) (w : Str) : Bool := decide (i < l.length) && (splitS (l.getD i [])).contains w
theorem stands_iff (l : List Str) (i : Nat) (w : Str) : standsF l i w = true ↔ Has l i w := by
 unfold standsF Has
 rw [Bool.and_eq_true, decide_eq_true_eq, List.contains_iff_mem]
 constructor
 ·rintro ⟨h1, h2⟩; rw [Ix.getD_get h1] at h2; exact ⟨h1, h2⟩
 ·rintro ⟨h1, h2⟩; refine ⟨h1, ?_⟩; rw [Ix.getD_get h1]; exact h2
theorem padded_len (l : List Str) (n : Nat) : (padded l n).length = max l.length (n + 1) := by
 unfold padded; rw [List.length_append, List.length_replicate]; omega
theorem padded_has (l : List Str) (n : Nat) {i : Nat} {w : Str} (hw : w ≠ []) : Has (padded l n) i w ↔ Has l i w := by
 unfold padded
 constructor
 ·rintro ⟨h, hm⟩
  by_cases hi : i < l.length
  ·rw [List.getElem_append_left hi] at hm; exact ⟨hi, hm⟩
  ·rw [List.getElem_append_right (by omega), List.getElem_replicate] at hm
   simp [splitS] at hm
   exact absurd hm hw
 ·rintro ⟨h, hm⟩
  refine ⟨by rw [List.length_append]; omega, ?_⟩
  rw [List.getElem_append_left h]; exact hm
theorem placed_has {l : List Str} {n : Nat} {v : Str} (hn : n ≤ 5000) (hv : v ≠ []) (hs : (32 : UInt8) ∉ v) {i : Nat} {w : Str} (hw : w ≠ []) : Has (placedF l n v) i w ↔ Has l i w ∨ (i = n ∧ w = v) := by
 have hl := padded_len l n
 have hnl : n < (padded l n).length := by omega
 rw [← padded_has l n hw]
 unfold placedF
 rw [if_neg (by omega)]
 by_cases hi : i = n
 ·subst hi
  constructor
  ·rintro ⟨h, hm⟩
   rw [List.getElem_set_self] at hm
   split at hm
   ·rename_i he
    rw [List.nil_append, splitS_no v hs] at hm
    exact .inr ⟨rfl, by simpa using hm⟩
   ·rw [List.append_assoc, List.singleton_append, splitS_append, splitS_no v hs, List.mem_append] at hm
    rcases hm with hm | hm
    ·rw [Ix.getD_get hnl] at hm; exact .inl ⟨hnl, hm⟩
    ·exact .inr ⟨rfl, by simpa using hm⟩
  ·intro h
   refine ⟨by rw [List.length_set]; exact hnl, ?_⟩
   rw [List.getElem_set_self]
   split
   ·rename_i he
    rw [Ix.getD_get hnl] at he
    rw [List.nil_append, splitS_no v hs]
    rcases h with ⟨_, hm⟩ | ⟨_, rfl⟩
    ·rw [he] at hm; simp [splitS] at hm; exact absurd hm hw
    ·simp
   ·rw [List.append_assoc, List.singleton_append, splitS_append, splitS_no v hs, List.mem_append, Ix.getD_get hnl]
    rcases h with ⟨_, hm⟩ | ⟨_, rfl⟩
    ·exact .inl hm
    ·exact .inr (by simp)
 ·constructor
  ·rintro ⟨h, hm⟩
   rw [List.length_set] at h
   rw [List.getElem_set_ne (fun e => hi e.symm)] at hm
   exact .inl ⟨h, hm⟩
  ·rintro (⟨h, hm⟩ | ⟨e, _⟩)
   ·refine ⟨by rw [List.length_set]; exact h, ?_⟩
    rw [List.getElem_set_ne (fun e => hi e.symm)]; exact hm
   ·exact absurd e hi
theorem places_has {v : Str} (hv : v ≠ []) (hs : (32 : UInt8) ∉ v) {i : Nat} {w : Str} (hw : w ≠ []) : ∀ (ns : List Int) (l : List Str), (∀ n ∈ ns, n ≤ 5000) → (Has (placesF l v ns) i w ↔ Has l i w ∨ ∃ n ∈ ns, i = n.toNat ∧ w = v)
 | [], l, _ => by unfold placesF; simp
 | n :: ns, l, h => by
  have ih := places_has (i := i) hv hs hw ns (placedF l n.toNat v) fun m hm => h m (.tail _ hm)
  have h0 := h n (.head _)
  unfold placesF at ih ⊢
  rw [List.foldl_cons, ih, placed_has (by omega) hv hs hw]
  constructor
  ·rintro ((h | h) | ⟨m, hm, h⟩)
   ·exact .inl h
   ·exact .inr ⟨n, .head _, h⟩
   ·exact .inr ⟨m, .tail _ hm, h⟩
  ·rintro (g | ⟨m, hm, g⟩)
   ·exact .inl (.inl g)
   ·rcases List.mem_cons.1 hm with rfl | hm
    ·exact .inl (.inr g)
    ·exact .inr ⟨m, hm, g⟩
theorem docP_has {id : Int} {v : Str} (hv : v ≠ []) (hs : (32 : UInt8) ∉ v) {i : Nat} {w : Str} (hw : w ≠ []) : ∀ (ps : List Ix.Post) (l : List Str), (∀ p ∈ ps, ∀ n ∈ p.2, n ≤ 5000) → (Has (docP id v l ps) i w ↔ Has l i w ∨ ∃ p ∈ ps, p.1 = id ∧ ∃ n ∈ p.2, i = n.toNat ∧ w = v)
 | [], l, _ => by unfold docP; simp
 | p :: ps, l, h => by
  have ih := docP_has (id := id) (i := i) hv hs hw ps (if p.1 = id then placesF l v p.2 else l) fun m hm => h m (.tail _ hm)
  have h0 := h p (.head _)
  unfold docP at ih ⊢
  rw [List.foldl_cons, ih]
  by_cases e : p.1 = id
  ·rw [if_pos e, places_has hv hs hw _ _ h0]
   constructor
   ·rintro ((h | h) | ⟨m, hm, h⟩)
    ·exact .inl h
    ·exact .inr ⟨p, .head _, e, h⟩
    ·exact .inr ⟨m, .tail _ hm, h⟩
   ·rintro (g | ⟨m, hm, h1, g⟩)
    ·exact .inl (.inl g)
    ·rcases List.mem_cons.1 hm with rfl | hm
     ·exact .inl (.inr g)
     ·exact .inr ⟨m, hm, h1, g⟩
  ·rw [if_neg e]
   constructor
   ·rintro (h | ⟨m, hm, h⟩)
    ·exact .inl h
    ·exact .inr ⟨m, .tail _ hm, h⟩
   ·rintro (h | ⟨m, hm, h1, h⟩)
    ·exact .inl h
    ·rcases List.mem_cons.1 hm with rfl | hm
     ·exact absurd h1 e
     ·exact .inr ⟨m, hm, h1, h⟩
theorem docT_has {id : Int} {i : Nat} {w : Str} (hw : w ≠ []) : ∀ (ts : List Ix.Term) (l : List Str), (∀ t ∈ ts, t.1 ≠ [] ∧ (32 : UInt8) ∉ t.1 ∧ ∀ p ∈ t.2, ∀ n ∈ p.2, n ≤ 5000) → (Has (docT id l ts) i w ↔ Has l i w ∨ ∃ t ∈ ts, ∃ p ∈ t.2, p.1 = id ∧ ∃ n ∈ p.2, i = n.toNat ∧ w = t.1)
 | [], l, _ => by unfold docT; simp
 | t :: ts, l, h => by
  have ih := docT_has (id := id) (i := i) hw ts (docP id t.1 l t.2) fun m hm => h m (.tail _ hm)
  obtain ⟨h0, h1, h2⟩ := h t (.head _)
  unfold docT at ih ⊢
  rw [List.foldl_cons, ih, docP_has h0 h1 hw _ _ h2]
  constructor
  ·rintro ((h | h) | ⟨m, hm, h⟩)
   ·exact .inl h
   ·exact .inr ⟨t, .head _, h⟩
   ·exact .inr ⟨m, .tail _ hm, h⟩
  ·rintro (g | ⟨m, hm, g⟩)
   ·exact .inl (.inl g)
   ·rcases List.mem_cons.1 hm with rfl | hm
    ·exact .inl (.inr g)
    ·exact .inr ⟨m, hm, g⟩
/-- the places of an index are small and its words contain no spaces -/
def plainP (p : Ix.Post) : Bool := !(decide (0 < p.2.length) && decide (5000 < p.2.getD (p.2.length - 1) 0))
def plainF (x : Ix.Idx) : Bool := x.2.all fun t => !decide (1 < (splitS t.1).length) && t.2.all plainP
theorem last_max {l : List Int} (h : l.Pairwise (· < ·)) {m : Int} (hl : 0 < l.length → l.getD (l.length - 1) 0 ≤ m) : ∀ n ∈ l, n ≤ m := fun n hn => by
 obtain ⟨i, hi, rfl⟩ := List.mem_iff_getElem.1 hn
 have h1 := hl (by omega)
 rw [Ix.getD_get (by omega)] at h1
 by_cases e : i = l.length - 1
 ·subst e; exact h1
 ·have := List.pairwise_iff_getElem.1 h i (l.length - 1) hi (by omega) (by omega); omega
theorem plain_terms {x : Ix.Idx} (hc : Ix.Canon x) (h : plainF x = true) : ∀ t ∈ x.2, t.1 ≠ [] ∧ (32 : UInt8) ∉ t.1 ∧ ∀ p ∈ t.2, ∀ n ∈ p.2, n ≤ 5000 := fun t ht => by
 have h1 := List.all_eq_true.1 h t ht
 rw [Bool.and_eq_true, Bool.not_eq_true', decide_eq_false_iff_not, splitS_len] at h1
 refine ⟨(hc.word t ht).1, fun e => ?_, fun p hp => ?_⟩
 ·have := List.count_pos_iff.2 e
  omega
 ·have h2 := List.all_eq_true.1 h1.2 p hp
  have h3 := (hc.post t ht).2.2 p hp
  refine last_max h3.2.2.1 fun h0 => ?_
  unfold plainP at h2
  rw [decide_eq_true h0, Bool.true_and, Bool.not_eq_true', decide_eq_false_iff_not] at h2
  omega
/-- a word stands at a place just if the index says so -/
theorem doc_has {x : Ix.Idx} (hc : Ix.Canon x) (h : plainF x = true) {id : Int} {i : Nat} {w : Str} (hw : w ≠ []) : Has (docF x id) i w ↔ (i : Int) ∈ Ix.cont x.2 w id := by
 unfold docF
 rw [docT_has hw x.2 [] (plain_terms hc h)]
 constructor
 ·rintro (⟨h, _⟩ | ⟨t, ht, p, hp, rfl, n, hn, rfl, rfl⟩)
  ·exact absurd h (Nat.not_lt_zero _)
  ·rw [Ix.cont_mem hc.wf ht hp]
   have := ((hc.post t ht).2.2 p hp).2.2.2 n hn
   rw [Int.toNat_of_nonneg this.1]; exact hn
 ·intro hm
  obtain ⟨t, ht, rfl, p, hp, rfl, e⟩ := Ix.mem_cont (List.ne_nil_of_mem hm)
  rw [Ix.cont_mem hc.wf ht hp] at hm
  exact .inr ⟨t, ht, p, hp, rfl, _, hm, by simp, rfl⟩
theorem stands_eq {x : Ix.Idx} (hc : Ix.Canon x) (h : plainF x = true) {id : Int} {i : Nat} {w : Str} (hw : w ≠ []) : standsF (docF x id) i w = (Ix.cont x.2 w id).contains (i : Int) := by
 rw [Bool.eq_iff_iff, stands_iff, List.contains_iff_mem]
 exact doc_has hc h hw
/-! ### what a query matches -/
def rowM (l : List Str) (i : Nat) (w : List Str) : Bool := (List.range w.length).all fun k => standsF l (i + k) (Sm.stem (w.getD k []))
def nearM (l : List Str) (a b : Str) (n : Int) : Bool := (List.range l.length).any fun i => (List.range l.length).any fun k => (!decide (k = i) && (decide (-n ≤ (k : Int) - (i : Int)) && decide ((k : Int) - (i : Int) ≤ n))) && (standsF l i (Sm.stem a) && standsF l k (Sm.stem b))
def prefixM (l : List Str) (s : Str) : Bool := l.any fun y => (splitS y).any fun v => s.isPrefixOf v
def matchesF : Nat → Q → List Str → Bool
 | 0, _, _ => true
 | f + 1, q, l =>
  if q.kind = 6 then decide (q.parts.countP (fun p => matchesF f p l) = q.parts.length)
  else if q.kind = 7 then decide (0 < q.parts.countP (fun p => matchesF f p l))
  else if q.kind = 8 then decide (q.parts.countP (fun p => matchesF f p l) = 0)
  else if q.kind = 1 then true
  else if q.kind = 3 then prefixM l q.text
  else if q.kind = 5 then nearM l ((splitS q.text).headD []) ((splitS q.text).getD 1 []) q.num
  else (List.range l.length).any fun i => rowM l i (splitS q.text)
theorem rowAt_iff (x : Ix.Idx) (id a : Int) : ∀ (l : List Str) (k : Int), rowAt x id a l k = true ↔ ∀ (j : Nat) (h : j < l.length), (a + (k + (j : Int))) ∈ places x l[j] id
 | [], k => by simp [rowAt]
 | w :: l, k => by
  rw [rowAt, Bool.and_eq_true, List.contains_iff_mem, rowAt_iff x id a l (k + 1)]
  constructor
  ·rintro ⟨h1, h2⟩ j hj
   cases j with
   | zero => simpa using h1
   | succ j =>
    have := h2 j (by simpa using hj)
    rw [List.getElem_cons_succ]
    rw [show k + ((j + 1 : Nat) : Int) = k + 1 + (j : Int) by omega]
    exact this
  ·intro h
   refine ⟨by have := h 0 (by simp); simpa using this, fun j hj => ?_⟩
   have := h (j + 1) (by simpa using hj)
   rw [List.getElem_cons_succ] at this
   rw [show k + 1 + (j : Int) = k + ((j + 1 : Nat) : Int) by omega]
   exact this
theorem word_ne {s : Str} (h : wordOk s = true) : s ≠ [] ∧ Sm.stem s ≠ [] := by
 unfold wordOk at h
 rw [Bool.and_eq_true] at h
 have hne : s ≠ [] := by
  rintro rfl
  have := h.2
  rw [show Sm.words ([] : Str) = [] from rfl] at this
  cases this
 exact ⟨hne, Sm.stem_ne hne⟩
theorem place_nat {x : Ix.Idx} (hc : Ix.Canon x) {w : Str} {id n : Int} (h : n ∈ Ix.cont x.2 w id) : ∃ i : Nat, n = (i : Int) := by
 obtain ⟨t, ht, rfl, p, hp, rfl, e⟩ := Ix.mem_cont (List.ne_nil_of_mem h)
 rw [Ix.cont_mem hc.wf ht hp] at h
 have := ((hc.post t ht).2.2 p hp).2.2.2 n h
 exact ⟨n.toNat, by omega⟩
theorem any_iff_count {α : Type} (p : α → Bool) (l : List α) : l.any p = decide (0 < l.countP p) := by
 rw [Bool.eq_iff_iff, List.any_eq_true, decide_eq_true_eq, List.countP_pos_iff]
theorem all_iff_count {α : Type} (p : α → Bool) (l : List α) : (!(l.any fun a => !p a)) = decide (l.countP p = l.length) := by
 rw [Bool.eq_iff_iff, decide_eq_true_eq, List.countP_eq_length, Bool.not_eq_true', List.any_eq_false]
 simp
theorem phrase_eq {x : Ix.Idx} (hc : Ix.Canon x) (h : plainF x = true) (id : Int) {l : List Str} (hl : l ≠ []) (hw : ∀ w ∈ l, Sm.stem w ≠ []) : phraseF x l id = (List.range (docF x id).length).any fun i => rowM (docF x id) i l := by
 obtain ⟨w0, r, rfl⟩ : ∃ w0 r, l = w0 :: r := by cases l with | nil => exact absurd rfl hl | cons a b => exact ⟨a, b, rfl⟩
 rw [Bool.eq_iff_iff]
 unfold phraseF
 rw [List.any_eq_true, List.any_eq_true]
 have hrow : ∀ i : Nat, rowM (docF x id) i (w0 :: r) = true ↔ rowAt x id (i : Int) (w0 :: r) 0 = true := fun i => by
  rw [rowAt_iff]
  unfold rowM
  rw [List.all_eq_true]
  constructor
  ·intro hh j hj
   have := hh j (List.mem_range.2 hj)
   rw [Ix.getD_get hj, stands_eq hc h (hw _ (List.getElem_mem hj)), List.contains_iff_mem] at this
   unfold places
   rw [Int.zero_add]
   simpa using this
  ·intro hh j hj
   have hj := List.mem_range.1 hj
   have := hh j hj
   rw [Ix.getD_get hj, stands_eq hc h (hw _ (List.getElem_mem hj)), List.contains_iff_mem]
   unfold places at this
   rw [Int.zero_add] at this
   simpa using this
 constructor
 ·rintro ⟨a, ha, hr⟩
  obtain ⟨i, rfl⟩ := place_nat hc ha
  have hs : Has (docF x id) i (Sm.stem w0) := (doc_has hc h (hw _ (.head _))).2 ha
  exact ⟨i, List.mem_range.2 hs.1, (hrow i).2 hr⟩
 ·rintro ⟨i, hi, hr⟩
  have h1 := (hrow i).1 hr
  refine ⟨(i : Int), ?_, h1⟩
  have := (rowAt_iff x id (i : Int) (w0 :: r) 0).1 h1 0 (by simp)
  simpa using this
theorem word_eq {x : Ix.Idx} (hc : Ix.Canon x) (h : plainF x = true) (id : Int) {w : Str} (hw : Sm.stem w ≠ []) : decide (0 < (places x w id).length) = (List.range (docF x id).length).any fun i => rowM (docF x id) i [w] := by
 rw [Bool.eq_iff_iff, decide_eq_true_eq, List.any_eq_true]
 have hrow : ∀ i : Nat, rowM (docF x id) i [w] = standsF (docF x id) i (Sm.stem w) := fun i => by
  unfold rowM; simp [List.range_succ]
 constructor
 ·intro h0
  obtain ⟨a, ha⟩ := List.exists_mem_of_length_pos h0
  obtain ⟨i, rfl⟩ := place_nat hc ha
  have hs := (doc_has hc h hw).2 ha
  exact ⟨i, List.mem_range.2 hs.1, by rw [hrow]; exact (stands_iff _ _ _).2 hs⟩
 ·rintro ⟨i, hi, hr⟩
  rw [hrow] at hr
  exact List.length_pos_of_mem ((doc_has hc h hw).1 ((stands_iff _ _ _).1 hr))
theorem prefix_eq {x : Ix.Idx} (hc : Ix.Canon x) (h : plainF x = true) (id : Int) {s : Str} (hs : s ≠ []) : prefixF x s id = prefixM (docF x id) s := by
 rw [Bool.eq_iff_iff, prefix_iff hc.wf]
 unfold prefixM
 rw [List.any_eq_true]
 constructor
 ·rintro ⟨w, h1, h2⟩
  have hw : w ≠ [] := by rintro rfl; rw [List.isPrefixOf_iff_prefix] at h1; exact hs (List.prefix_nil.1 h1)
  obtain ⟨a, ha⟩ := List.exists_mem_of_ne_nil _ h2
  obtain ⟨i, rfl⟩ := place_nat hc ha
  obtain ⟨hi, hm⟩ := (doc_has hc h hw).2 ha
  exact ⟨_, List.getElem_mem hi, List.any_eq_true.2 ⟨w, hm, h1⟩⟩
 ·rintro ⟨y, hy, hb⟩
  obtain ⟨w, hm, h1⟩ := List.any_eq_true.1 hb
  obtain ⟨i, hi, rfl⟩ := List.mem_iff_getElem.1 hy
  have hw : w ≠ [] := by rintro rfl; rw [List.isPrefixOf_iff_prefix] at h1; exact hs (List.prefix_nil.1 h1)
  exact ⟨w, h1, List.ne_nil_of_mem ((doc_has hc h hw).1 ⟨hi, hm⟩)⟩
theorem near_eq {x : Ix.Idx} (hc : Ix.Canon x) (h : plainF x = true) (id : Int) {a b : Str} (ha : Sm.stem a ≠ []) (hb : Sm.stem b ≠ []) (n : Int) : nearF x a b n id = nearM (docF x id) a b n := by
 rw [Bool.eq_iff_iff]
 unfold nearF nearM
 simp only [List.any_eq_true, Bool.and_eq_true, Bool.not_eq_true', decide_eq_true_eq, decide_eq_false_iff_not, beq_eq_false_iff_ne, ne_eq]
 constructor
 ·rintro ⟨i, hi, k, hk, ⟨h1, h2⟩, h3⟩
  obtain ⟨i, rfl⟩ := place_nat hc hi
  obtain ⟨k, rfl⟩ := place_nat hc hk
  have s1 := (doc_has hc h ha).2 hi
  have s2 := (doc_has hc h hb).2 hk
  exact ⟨i, List.mem_range.2 s1.1, k, List.mem_range.2 s2.1, ⟨by omega, by omega, by omega⟩, (stands_iff _ _ _).2 s1, (stands_iff _ _ _).2 s2⟩
 ·rintro ⟨i, hi, k, hk, ⟨h1, h2, h3⟩, s1, s2⟩
  exact ⟨(i : Int), (doc_has hc h ha).1 ((stands_iff _ _ _).1 s1), (k : Int), (doc_has hc h hb).1 ((stands_iff _ _ _).1 s2), ⟨by omega, by omega⟩, by omega⟩
/-- what a node of a valid query is like -/
theorem node_text {q : Q} (h : errOf q = 0) : (1 ≤ q.kind ∧ q.kind ≤ 8) ∧ (q.kind = 2 ∨ q.kind = 3 → splitS q.text = [q.text] ∧ wordOk q.text = true) ∧ (q.kind = 4 → ∀ w ∈ splitS q.text, wordOk w = true) ∧
  (q.kind = 5 → ∃ a b, splitS q.text = [a, b] ∧ wordOk a = true ∧ wordOk b = true) ∧ (q.kind = 8 → ∃ p, q.parts = [p]) := by
 unfold errOf at h
 split at h
 ·cases h
 ·rename_i h0
  simp only [Bool.or_eq_true, decide_eq_true_eq, not_or, Int.not_lt] at h0
  split at h
  ·cases h
  ·rename_i h1
   split at h
   ·cases h
   ·split at h
    ·cases h
    ·rename_i h2
     refine ⟨h0, fun hk => ?_, fun hk => ?_, fun hk => ?_, fun hk => ?_⟩
     ·have hwnt : wants q.kind = 1 := by rcases hk with hk | hk <;> rw [hk] <;> rfl
      rw [hwnt] at h2
      simp only [not_and, not_or, Bool.not_eq_false] at h2
      obtain ⟨g1, g2⟩ := h2 (by decide)
      have g3 : (splitS q.text).length = 1 := by have := g2 (by decide); omega
      have g4 : q.text.count 32 = 0 := by rw [splitS_len] at g3; omega
      have g5 := splitS_no q.text (List.count_eq_zero.1 g4)
      rw [g5] at g1
      exact ⟨g5, by simpa using g1⟩
     ·have hwnt : wants q.kind = -1 := by rw [hk]; rfl
      rw [hwnt] at h2
      simp only [not_and, not_or, Bool.not_eq_false] at h2
      exact List.all_eq_true.1 (h2 (by decide)).1
     ·have hwnt : wants q.kind = 2 := by rw [hk]; rfl
      rw [hwnt] at h2
      simp only [not_and, not_or, Bool.not_eq_false] at h2
      obtain ⟨g1, g2⟩ := h2 (by decide)
      have g3 : (splitS q.text).length = 2 := by have := g2 (by decide); omega
      match hsp : splitS q.text, g3 with
      | [a, b], _ => rw [hsp] at g1; simp at g1; exact ⟨a, b, rfl, g1⟩
     ·rw [hk] at h1
      simp only [not_or, least, most] at h1
      have g3 : q.parts.length = 1 := by
       have a1 := h1.1; have a2 := h1.2.1
       simp at a1 a2; omega
      match hsp : q.parts, g3 with
      | [a], _ => exact ⟨a, rfl⟩
theorem matches_eq {x : Ix.Idx} (hc : Ix.Canon x) (h : plainF x = true) (id : Int) : ∀ (f : Nat) (q : Q), Fits f q → (∀ p ∈ pre f q, errOf p = 0) → matchesF f q (docF x id) = findsF f x q id
 | 0, q, hf, _ => hf.elim
 | f + 1, q, hf, he => by
  have hself : errOf q = 0 := he q (by rw [pre]; exact .head _)
  have ih : ∀ p ∈ q.parts, matchesF f p (docF x id) = findsF f x p id := fun p hp =>
   matches_eq hc h id f p (hf p hp) fun r hr => he r (by rw [pre]; exact .tail _ (List.mem_flatMap.2 ⟨p, hp, hr⟩))
  have hcnt : q.parts.countP (fun p => matchesF f p (docF x id)) = q.parts.countP (fun p => findsF f x p id) := List.countP_congr fun p hp => by rw [ih p hp]
  obtain ⟨⟨k1, k8⟩, t1, t4, t5, t8⟩ := node_text hself
  rw [matchesF, findsF, hcnt]
  by_cases c6 : q.kind = 6
  ·rw [c6]; simp only [if_true, show ¬ (6 : Int) = 2 by decide, show ¬ (6 : Int) = 3 by decide, show ¬ (6 : Int) = 4 by decide, show ¬ (6 : Int) = 5 by decide, if_false]
   rw [all_iff_count]
  by_cases c7 : q.kind = 7
  ·rw [c7]; simp only [if_true, show ¬ (7 : Int) = 2 by decide, show ¬ (7 : Int) = 3 by decide, show ¬ (7 : Int) = 4 by decide, show ¬ (7 : Int) = 5 by decide, show ¬ (7 : Int) = 6 by decide, if_false]
   rw [any_iff_count]
  by_cases c8 : q.kind = 8
  ·obtain ⟨p, hp⟩ := t8 c8
   rw [c8]; simp only [if_true, show ¬ (8 : Int) = 2 by decide, show ¬ (8 : Int) = 3 by decide, show ¬ (8 : Int) = 4 by decide, show ¬ (8 : Int) = 5 by decide, show ¬ (8 : Int) = 6 by decide, show ¬ (8 : Int) = 7 by decide, if_false]
   rw [hp, List.headD_cons]
   cases hb : findsF f x p id <;> simp [hb]
  rw [if_neg c6, if_neg c7, if_neg c8, if_neg c6, if_neg c7, if_neg c8]
  by_cases c2 : q.kind = 2
  ·obtain ⟨e1, e2⟩ := t1 (.inl c2)
   rw [c2]; simp only [if_true, show ¬ (2 : Int) = 1 by decide, show ¬ (2 : Int) = 3 by decide, show ¬ (2 : Int) = 5 by decide, if_false]
   rw [e1]
   exact (word_eq hc h id (word_ne e2).2).symm
  by_cases c3 : q.kind = 3
  ·obtain ⟨e1, e2⟩ := t1 (.inr c3)
   rw [c3]; simp only [if_true, show ¬ (3 : Int) = 1 by decide, show ¬ (3 : Int) = 2 by decide, if_false]
   exact (prefix_eq hc h id (word_ne e2).1).symm
  by_cases c4 : q.kind = 4
  ·have e := t4 c4
   rw [c4]; simp only [if_true, show ¬ (4 : Int) = 1 by decide, show ¬ (4 : Int) = 3 by decide, show ¬ (4 : Int) = 2 by decide, show ¬ (4 : Int) = 5 by decide, if_false]
   exact (phrase_eq hc h id (splitS_ne _) fun w hw => (word_ne (e w hw)).2).symm
  by_cases c5 : q.kind = 5
  ·obtain ⟨a, b, e, e1, e2⟩ := t5 c5
   rw [c5]; simp only [if_true, show ¬ (5 : Int) = 1 by decide, show ¬ (5 : Int) = 3 by decide, show ¬ (5 : Int) = 2 by decide, show ¬ (5 : Int) = 4 by decide, if_false]
   rw [e]
   exact (near_eq hc h id (word_ne e1).2 (word_ne e2).2 _).symm
  have c1 : q.kind = 1 := by omega
  rw [c1]; simp
def foundM (x : Ix.Idx) (q : Q) : List Int := x.1.filter fun id => matchesF 8 q (docF x id)
end Sr
end Go.Proofs.YtnlhocbaighedaaGreatDoor
namespace Go.Proofs.YtnlhocbaighedaaGreatDoor
open Go.ChangeShapes Go.WideShapes Go.ChangeAt Go.RowKit

theorem add_add' (a : Addr) (i j : Nat) : (a.add i).add j = a.add (i + j) := by
 unfold Addr.add
 by_cases hi : i = 0 <;> by_cases hj : j = 0 <;> simp [hi, hj, Nat.add_assoc]
/-- What the form reads at type t, C reads; bk: what the datum weighs in the form's bulk. -/
def Reads (P : Program) (t : TypeId) {α : Type} (C : Codec α) (bk : α → Nat) : Prop :=
 P.cellsOf t = C.n ∧ ∀ (H : Type) (enc : TypeId × Value → H) (w : World) (spare : Nat → Bool) (held : Bool) (fuel : Nat) (cs : List Value) (x : DataW H × List MemPlace),
  DataW.trod enc P w 0 spare held fuel t cs = some x → ∃ a : α, C.rd M0 w cs a ∧ bk a ≤ Rows.uptoBulk x.1

theorem bulk_pos {H : Type} (d : DataW H) : 1 ≤ Rows.uptoBulk d := by
 cases d with
 | lit l => cases l <;> simp [Rows.uptoBulk]
 | nil => simp [Rows.uptoBulk]
 | ptr d => simp [Rows.uptoBulk]
 | slice elems spare => simp [Rows.uptoBulk]
 | agg parts => simp [Rows.uptoBulk]
 | iface t d => simp [Rows.uptoBulk]
 | map entries => simp [Rows.uptoBulk]
 | held h => simp [Rows.uptoBulk]
theorem bulk_all {H : Type} : ∀ l : List (DataW H), Rows.uptoBulkAll l = (l.map Rows.uptoBulk).sum
 | [] => by simp [Rows.uptoBulkAll]
 | d :: l => by simp [Rows.uptoBulkAll, bulk_all l]

theorem reads_int {P : Program} {t : TypeId} (ht : P.underlying t = some (.int .i64)) (hc : P.cellsOf t = 1) : Reads P t intC (fun _ => 1) :=
 ⟨hc, fun H enc w spare held fuel cs x h => by
  obtain ⟨n, rfl, rfl, hw⟩ := DataW.trod_int ht h
  refine ⟨n, ⟨rfl, ?_⟩, bulk_pos _⟩
  simpa [Lit.wf, IntKind.min, IntKind.max, IntKind.signed, IntKind.bits] using hw⟩
theorem reads_string {P : Program} {t : TypeId} (ht : P.underlying t = some .string) (hc : P.cellsOf t = 1) : Reads P t strC (fun l => l.length + 1) :=
 ⟨hc, fun H enc w spare held fuel cs x h => by
  obtain ⟨s, rfl, rfl, hs⟩ := DataW.trod_string ht h
  refine ⟨s.data.toList, ⟨by rw [← bs_of], by rw [Array.length_toList]; exact hs⟩, ?_⟩
  rw [Rows.uptoBulk]
  exact Nat.le_refl _⟩
theorem exists_list {α : Type} (n : Nat) (p : Nat → α → Prop) (h : ∀ i, i < n → ∃ a, p i a) : ∃ l : List α, l.length = n ∧ ∀ (i : Nat) (hi : i < l.length), p i l[i] := by
 induction n with
 | zero => exact ⟨[], rfl, fun i hi => by simp at hi⟩
 | succ n ih =>
  obtain ⟨l, hl, hp⟩ := ih fun i hi => h i (by omega)
  obtain ⟨a, ha⟩ := h n (by omega)
  refine ⟨l ++ [a], by simp [hl], fun i hi => ?_⟩
  by_cases hi' : i < l.length
  ·rw [List.getElem_append_left hi']; exact hp i hi'
  ·have : i = n := by simp at hi; omega
   subst this
   rw [List.getElem_append_right (by omega)]
   simpa [hl] using ha
theorem sum_le_of {α β : Type} (f : α → Nat) (g : β → Nat) : ∀ (l : List α) (m : List β), l.length ≤ m.length → (∀ (i : Nat) (h : i < l.length) (h' : i < m.length), f l[i] ≤ g m[i]) → (l.map f).sum ≤ (m.map g).sum
 | [], m, _, _ => by simp
 | a :: l, [], h, _ => by simp at h
 | a :: l, b :: m, h, hh => by
  have h0 := hh 0 (by simp) (by simp)
  have ih := sum_le_of f g l m (by simpa using h) fun i h1 h2 => by
   have := hh (i + 1) (by simpa using h1) (by simpa using h2)
   simpa using this
  simp at h0
  simp; omega
/-- What is handed to the call: the value's cells, read. -/
theorem reads_arg {P : Program} {t : TypeId} {α : Type} {C : Codec α} {bk : α → Nat} (hR : Reads P t C bk) {H : Type} {enc : TypeId × Value → H} {w : World} {spare : Nat → Bool} {held : Bool} {cs : List Value} {d : DataW H} {p : List MemPlace}
  (h : ∃ fuel, DataW.trod enc P w 0 spare held fuel t cs = some (d, p)) : ∃ a : α, C.rd M0 w cs a ∧ bk a ≤ Rows.uptoBulk d := by
 obtain ⟨fuel, h⟩ := h
 exact hR.2 H enc w spare held fuel cs _ h
theorem SlR.of_rd {α : Type} {C : Codec α} {M : Nat → Prop} {w : World} {a : Option Addr} {n c : Nat} {l : List α} (h : (sliceC C).rd M w (Value.slice a n c).cells.toList l) : SlR C M w (.slice a n c) l := by
 obtain ⟨v, hv, hs⟩ := h
 simp [Value.cells] at hv
 exact hv ▸ hs
theorem of_rd_int {M : Nat → Prop} {w : World} {a x : Int} (h : intC.rd M w (Value.int .i64 a).cells.toList x) : a = x ∧ -9223372036854775808 ≤ x ∧ x ≤ 9223372036854775807 := by
 obtain ⟨hv, hs⟩ := h
 simp [Value.cells] at hv
 exact ⟨hv, hs⟩
end Go.Proofs.YtnlhocbaighedaaGreatDoor
namespace Go.Proofs.YtnlhocbaighedaaGreatDoor
namespace Ix
set_option linter.unusedVariables false
/-- the postings of a word -/
def postingsF (x : Idx) (w : Str) : List Post := (Al.look x.2 w).getD []
/-- the places of a text: the last posting of its number -/
def mineF (id : Int) (ps : List Post) : List Int := ps.foldl (fun m p => if p.1 = id then p.2 else m) []
def othersF (id : Int) (ps : List Post) : List Post := ps.filter fun p => !(p.1 == id)
def addedF (x a : Idx) (id : Int) (s : List Str) : Bool :=
 decide (a.1.length = x.1.length + 1) && a.1.contains id && decide ((indexF a).1 = 0) &&
 a.2.all (fun t => mineF id t.2 == occ t.1 s 0 && othersF id t.2 == postingsF x t.1) &&
 s.all (fun w => !((postingsF a w).length == 0)) && x.2.all (fun t => !((postingsF a t.1).length == 0))
def removedF (x r : Idx) (id : Int) : Bool :=
 decide ((r.1.length : Int) = x.1.length - 1) && !r.1.contains id && decide ((indexF r).1 = 0) &&
 x.2.all (fun t => othersF id t.2 == postingsF r t.1) && decide ((x.2.filter fun t => !((othersF id t.2).length == 0)).length = r.2.length)
/-! ### how many terms there would be -/
/-- the law's count: from the words of the text, one more for each that is not known -/
def termsGo (x : Idx) (s : List Str) : Nat → Nat → Nat → Nat
 | 0, _, n => n
 | f + 1, i, n => if 990000 < n then termsGo x s f (i + 1) (if (postingsF x (s.getD i [])).length = 0 ∧ (s.getD i []) ∉ s.take i then n + 1 else n) else n
def termsF (x : Idx) (s : List Str) : Nat := termsGo x s s.length 0 x.2.length
end Ix
end Go.Proofs.YtnlhocbaighedaaGreatDoor

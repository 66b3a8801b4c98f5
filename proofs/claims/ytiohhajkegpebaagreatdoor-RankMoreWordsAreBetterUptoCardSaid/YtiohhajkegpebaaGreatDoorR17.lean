/-
  Contracts and plain facts, one after another: The texts of an index, place by place, and what a query matches there; plain; The reference of searching: plain facts; Scores, plain: what rank.Score computes; one word more does not lower it.
-/
import Derived.Test.YtiohhajkegpebaaGreatDoorR12
import Derived.Test.YtiohhajkegpebaaGreatDoorR8
import Derived.Test.YtiohhajkegpebaaGreatDoorR16
import Derived.Test.YtiohhajkegpebaaGreatDoorR14
namespace Go.Proofs.YtiohhajkegpebaaGreatDoor
set_option linter.unusedVariables false
namespace Sr
open Q
/-- a list with a word at a place -/
def padded (l : List Str) (n : Nat) : List Str := l ++ List.replicate (n + 1 - l.length) []
def placedF (l : List Str) (n : Nat) (v : Str) : List Str :=
  if 5000 < n then l else (padded l n).set n ((if (padded l n).getD n [] = [] then [] else (padded l n).getD n [] ++ [32]) ++ v)
def placesF (l : List Str) (v : Str) (ns : List Int) : List Str := ns.foldl (fun l n => placedF l n.toNat v) l
def docP (id : Int) (v : Str) (l : List Str) (ps : List Ix.Post) : List Str := ps.foldl (fun l p => if p.1 = id then placesF l v p.2 else l) l
def docT (id : Int) (l : List Str) (ts : List Ix.Term) : List Str := ts.foldl (fun l t => docP id t.1 l t.2) l
def docF (x : Ix.Idx) (id : Int) : List Str := docT id [] x.2
/-- a word is at a place -/
def Has (l : List Str) (i : Nat) (w : Str) : Prop := ∃ h : i < l.length, w ∈ splitS l[i]
def standsF (l : List Str) (i : Nat) (w : Str) : Bool := decide (i < l.length) && (splitS (l.getD i [])).contains w
theorem stands_iff (l : List Str) (i : Nat) (w : Str) : standsF l i w = true ↔ Has l i w := by
  unfold standsF Has
  rw [Bool.and_eq_true, decide_eq_true_eq, List.contains_iff_mem]
  constructor
  · rintro ⟨h1, h2⟩; rw [Ix.getD_get h1] at h2; exact ⟨h1, h2⟩
  · rintro ⟨h1, h2⟩; refine ⟨h1, ?_⟩; rw [Ix.getD_get h1]; exact h2
theorem padded_len (l : List Str) (n : Nat) : (padded l n).length = max l.length (n + 1) := by
  unfold padded; rw [List.length_append, List.length_replicate]; omega
theorem padded_has (l : List Str) (n : Nat) {i : Nat} {w : Str} (hw : w ≠ []) : Has (padded l n) i w ↔ Has l i w := by
  unfold padded
  constructor
  · rintro ⟨h, hm⟩
    by_cases hi : i < l.length
    · rw [List.getElem_append_left hi] at hm; exact ⟨hi, hm⟩
    · rw [List.getElem_append_right (by omega), List.getElem_replicate] at hm
      simp [splitS] at hm
      exact absurd hm hw
  · rintro ⟨h, hm⟩
    refine ⟨by rw [List.length_append]; omega, ?_⟩
    rw [List.getElem_append_left h]; exact hm
theorem placed_has {l : List Str} {n : Nat} {v : Str} (hn : n ≤ 5000) (hv : v ≠ []) (hs : (32 : UInt8) ∉ v) {i : Nat} {w : Str} (hw : w ≠ []) : Has (placedF l n v) i w ↔ Has l i w ∨ (i = n ∧ w = v) := by
  have hl := padded_len l n
  have hnl : n < (padded l n).length := by omega
  rw [← padded_has l n hw]
  unfold placedF
  rw [if_neg (by omega)]
  by_cases hi : i = n
  · subst hi
    constructor
    · rintro ⟨h, hm⟩
      rw [List.getElem_set_self] at hm
      split at hm
      · rename_i he
        rw [List.nil_append, splitS_no v hs] at hm
        exact .inr ⟨rfl, by simpa using hm⟩
      · rw [List.append_assoc, List.singleton_append, splitS_append, splitS_no v hs, List.mem_append] at hm
        rcases hm with hm | hm
        · rw [Ix.getD_get hnl] at hm; exact .inl ⟨hnl, hm⟩
        · exact .inr ⟨rfl, by simpa using hm⟩
    · intro h
      refine ⟨by rw [List.length_set]; exact hnl, ?_⟩
      rw [List.getElem_set_self]
      split
      · rename_i he
        rw [Ix.getD_get hnl] at he
        rw [List.nil_append, splitS_no v hs]
        rcases h with ⟨_, hm⟩ | ⟨_, rfl⟩
        · rw [he] at hm; simp [splitS] at hm; exact absurd hm hw
        · simp
      · rw [List.append_assoc, List.singleton_append, splitS_append, splitS_no v hs, List.mem_append, Ix.getD_get hnl]
        rcases h with ⟨_, hm⟩ | ⟨_, rfl⟩
        · exact .inl hm
        · exact .inr (by simp)
  · constructor
    · rintro ⟨h, hm⟩
      rw [List.length_set] at h
      rw [List.getElem_set_ne (fun e => hi e.symm)] at hm
      exact .inl ⟨h, hm⟩
    · rintro (⟨h, hm⟩ | ⟨e, _⟩)
      · refine ⟨by rw [List.length_set]; exact h, ?_⟩
        rw [List.getElem_set_ne (fun e => hi e.symm)]; exact hm
      · exact absurd e hi
theorem places_has {v : Str} (hv : v ≠ []) (hs : (32 : UInt8) ∉ v) {i : Nat} {w : Str} (hw : w ≠ []) : ∀ (ns : List Int) (l : List Str), (∀ n ∈ ns, n ≤ 5000) → (Has (placesF l v ns) i w ↔ Has l i w ∨ ∃ n ∈ ns, i = n.toNat ∧ w = v)
  | [], l, _ => by unfold placesF; simp
  | n :: ns, l, h => by
    have ih := places_has (i := i) hv hs hw ns (placedF l n.toNat v) fun m hm => h m (.tail _ hm)
    have h0 := h n (.head _)
    unfold placesF at ih ⊢
    rw [List.foldl_cons, ih, placed_has (by omega) hv hs hw]
    constructor
    · rintro ((h | h) | ⟨m, hm, h⟩)
      · exact .inl h
      · exact .inr ⟨n, .head _, h⟩
      · exact .inr ⟨m, .tail _ hm, h⟩
    · rintro (g | ⟨m, hm, g⟩)
      · exact .inl (.inl g)
      · rcases List.mem_cons.1 hm with rfl | hm
        · exact .inl (.inr g)
        · exact .inr ⟨m, hm, g⟩
theorem docP_has {id : Int} {v : Str} (hv : v ≠ []) (hs : (32 : UInt8) ∉ v) {i : Nat} {w : Str} (hw : w ≠ []) : ∀ (ps : List Ix.Post) (l : List Str), (∀ p ∈ ps, ∀ n ∈ p.2, n ≤ 5000) → (Has (docP id v l ps) i w ↔ Has l i w ∨ ∃ p ∈ ps, p.1 = id ∧ ∃ n ∈ p.2, i = n.toNat ∧ w = v)
  | [], l, _ => by unfold docP; simp
  | p :: ps, l, h => by
    have ih := docP_has (id := id) (i := i) hv hs hw ps (if p.1 = id then placesF l v p.2 else l) fun m hm => h m (.tail _ hm)
    have h0 := h p (.head _)
    unfold docP at ih ⊢
    rw [List.foldl_cons, ih]
    by_cases e : p.1 = id
    · rw [if_pos e, places_has hv hs hw _ _ h0]
      constructor
      · rintro ((h | h) | ⟨m, hm, h⟩)
        · exact .inl h
        · exact .inr ⟨p, .head _, e, h⟩
        · exact .inr ⟨m, .tail _ hm, h⟩
      · rintro (g | ⟨m, hm, h1, g⟩)
        · exact .inl (.inl g)
        · rcases List.mem_cons.1 hm with rfl | hm
          · exact .inl (.inr g)
          · exact .inr ⟨m, hm, h1, g⟩
    · rw [if_neg e]
      constructor
      · rintro (h | ⟨m, hm, h⟩)
        · exact .inl h
        · exact .inr ⟨m, .tail _ hm, h⟩
      · rintro (h | ⟨m, hm, h1, h⟩)
        · exact .inl h
        · rcases List.mem_cons.1 hm with rfl | hm
          · exact absurd h1 e
          · exact .inr ⟨m, hm, h1, h⟩
theorem docT_has {id : Int} {i : Nat} {w : Str} (hw : w ≠ []) : ∀ (ts : List Ix.Term) (l : List Str), (∀ t ∈ ts, t.1 ≠ [] ∧ (32 : UInt8) ∉ t.1 ∧ ∀ p ∈ t.2, ∀ n ∈ p.2, n ≤ 5000) → (Has (docT id l ts) i w ↔ Has l i w ∨ ∃ t ∈ ts, ∃ p ∈ t.2, p.1 = id ∧ ∃ n ∈ p.2, i = n.toNat ∧ w = t.1)
  | [], l, _ => by unfold docT; simp
  | t :: ts, l, h => by
    have ih := docT_has (id := id) (i := i) hw ts (docP id t.1 l t.2) fun m hm => h m (.tail _ hm)
    obtain ⟨h0, h1, h2⟩ := h t (.head _)
    unfold docT at ih ⊢
    rw [List.foldl_cons, ih, docP_has h0 h1 hw _ _ h2]
    constructor
    · rintro ((h | h) | ⟨m, hm, h⟩)
      · exact .inl h
      · exact .inr ⟨t, .head _, h⟩
      · exact .inr ⟨m, .tail _ hm, h⟩
    · rintro (g | ⟨m, hm, g⟩)
      · exact .inl (.inl g)
      · rcases List.mem_cons.1 hm with rfl | hm
        · exact .inl (.inr g)
        · exact .inr ⟨m, hm, g⟩
/-- the places of an index are small and its words contain no spaces -/
def plainP (p : Ix.Post) : Bool := !(decide (0 < p.2.length) && decide (5000 < p.2.getD (p.2.length - 1) 0))
def plainF (x : Ix.Idx) : Bool := x.2.all fun t => !decide (1 < (splitS t.1).length) && t.2.all plainP
theorem last_max {l : List Int} (h : l.Pairwise (· < ·)) {m : Int} (hl : 0 < l.length → l.getD (l.length - 1) 0 ≤ m) : ∀ n ∈ l, n ≤ m := fun n hn => by
  obtain ⟨i, hi, rfl⟩ := List.mem_iff_getElem.1 hn
  have h1 := hl (by omega)
  rw [Ix.getD_get (by omega)] at h1
  by_cases e : i = l.length - 1
  · subst e; exact h1
  · have := List.pairwise_iff_getElem.1 h i (l.length - 1) hi (by omega) (by omega); omega
theorem plain_terms {x : Ix.Idx} (hc : Ix.Canon x) (h : plainF x = true) : ∀ t ∈ x.2, t.1 ≠ [] ∧ (32 : UInt8) ∉ t.1 ∧ ∀ p ∈ t.2, ∀ n ∈ p.2, n ≤ 5000 := fun t ht => by
  have h1 := List.all_eq_true.1 h t ht
  rw [Bool.and_eq_true, Bool.not_eq_true', decide_eq_false_iff_not, splitS_len] at h1
  refine ⟨(hc.word t ht).1, fun e => ?_, fun p hp => ?_⟩
  · have := List.count_pos_iff.2 e
    omega
  · have h2 := List.all_eq_true.1 h1.2 p hp
    have h3 := (hc.post t ht).2.2 p hp
    refine last_max h3.2.2.1 fun h0 => ?_
    unfold plainP at h2
    rw [decide_eq_true h0, Bool.true_and, Bool.not_eq_true', decide_eq_false_iff_not] at h2
    omega
/-- a word stands at a place just if the index says so -/
theorem doc_has {x : Ix.Idx} (hc : Ix.Canon x) (h : plainF x = true) {id : Int} {i : Nat} {w : Str} (hw : w ≠ []) : Has (docF x id) i w ↔ (i : Int) ∈ Ix.cont x.2 w id := by
  unfold docF
  rw [docT_has hw x.2 [] (plain_terms hc h)]
  constructor
  · rintro (⟨h, _⟩ | ⟨t, ht, p, hp, rfl, n, hn, rfl, rfl⟩)
    · exact absurd h (Nat.not_lt_zero _)
    · rw [Ix.cont_mem hc.wf ht hp]
      have := ((hc.post t ht).2.2 p hp).2.2.2 n hn
      rw [Int.toNat_of_nonneg this.1]; exact hn
  · intro hm
    obtain ⟨t, ht, rfl, p, hp, rfl, e⟩ := Ix.mem_cont (List.ne_nil_of_mem hm)
    rw [Ix.cont_mem hc.wf ht hp] at hm
    exact .inr ⟨t, ht, p, hp, rfl, _, hm, by simp, rfl⟩
theorem stands_eq {x : Ix.Idx} (hc : Ix.Canon x) (h : plainF x = true) {id : Int} {i : Nat} {w : Str} (hw : w ≠ []) : standsF (docF x id) i w = (Ix.cont x.2 w id).contains (i : Int) := by
  rw [Bool.eq_iff_iff, stands_iff, List.contains_iff_mem]
  exact doc_has hc h hw
/-! ### what a query matches -/
def rowM (l : List Str) (i : Nat) (w : List Str) : Bool := (List.range w.length).all fun k => standsF l (i + k) (Sm.stem (w.getD k []))
def nearM (l : List Str) (a b : Str) (n : Int) : Bool := (List.range l.length).any fun i => (List.range l.length).any fun k => (!decide (k = i) && (decide (-n ≤ (k : Int) - (i : Int)) && decide ((k : Int) - (i : Int) ≤ n))) && (standsF l i (Sm.stem a) && standsF l k (Sm.stem b))
def prefixM (l : List Str) (s : Str) : Bool := l.any fun y => (splitS y).any fun v => s.isPrefixOf v
def matchesF : Nat → Q → List Str → Bool
  | 0, _, _ => true
  | f + 1, q, l =>
    if q.kind = 6 then decide (q.parts.countP (fun p => matchesF f p l) = q.parts.length)
    else if q.kind = 7 then decide (0 < q.parts.countP (fun p => matchesF f p l))
    else if q.kind = 8 then decide (q.parts.countP (fun p => matchesF f p l) = 0)
    else if q.kind = 1 then true
    else if q.kind = 3 then prefixM l q.text
    else if q.kind = 5 then nearM l ((splitS q.text).headD []) ((splitS q.text).getD 1 []) q.num
    else (List.range l.length).any fun i => rowM l i (splitS q.text)
theorem rowAt_iff (x : Ix.Idx) (id a : Int) : ∀ (l : List Str) (k : Int), rowAt x id a l k = true ↔ ∀ (j : Nat) (h : j < l.length), (a + (k + (j : Int))) ∈ places x l[j] id
  | [], k => by simp [rowAt]
  | w :: l, k => by
    rw [rowAt, Bool.and_eq_true, List.contains_iff_mem, rowAt_iff x id a l (k + 1)]
    constructor
    · rintro ⟨h1, h2⟩ j hj
      cases j with
      | zero => simpa using h1
      | succ j =>
        have := h2 j (by simpa using hj)
        rw [List.getElem_cons_succ]
        rw [show k + ((j + 1 : Nat) : Int) = k + 1 + (j : Int) by omega]
        exact this
    · intro h
      refine ⟨by have := h 0 (by simp); simpa using this, fun j hj => ?_⟩
      have := h (j + 1) (by simpa using hj)
      rw [List.getElem_cons_succ] at this
      rw [show k + 1 + (j : Int) = k + ((j + 1 : Nat) : Int) by omega]
      exact this
theorem word_ne {s : Str} (h : wordOk s = true) : s ≠ [] ∧ Sm.stem s ≠ [] := by
  unfold wordOk at h
  rw [Bool.and_eq_true] at h
  have hne : s ≠ [] := by
    rintro rfl
    have := h.2
    rw [show Sm.words ([] : Str) = [] from rfl] at this
    cases this
  exact ⟨hne, Sm.stem_ne hne⟩
theorem place_nat {x : Ix.Idx} (hc : Ix.Canon x) {w : Str} {id n : Int} (h : n ∈ Ix.cont x.2 w id) : ∃ i : Nat, n = (i : Int) := by
  obtain ⟨t, ht, rfl, p, hp, rfl, e⟩ := Ix.mem_cont (List.ne_nil_of_mem h)
  rw [Ix.cont_mem hc.wf ht hp] at h
  have := ((hc.post t ht).2.2 p hp).2.2.2 n h
  exact ⟨n.toNat, by omega⟩
theorem any_iff_count {α : Type} (p : α → Bool) (l : List α) : l.any p = decide (0 < l.countP p) := by
  rw [Bool.eq_iff_iff, List.any_eq_true, decide_eq_true_eq, List.countP_pos_iff]
theorem all_iff_count {α : Type} (p : α → Bool) (l : List α) : (!(l.any fun a => !p a)) = decide (l.countP p = l.length) := by
  rw [Bool.eq_iff_iff, decide_eq_true_eq, List.countP_eq_length, Bool.not_eq_true', List.any_eq_false]
  simp
theorem phrase_eq {x : Ix.Idx} (hc : Ix.Canon x) (h : plainF x = true) (id : Int) {l : List Str} (hl : l ≠ []) (hw : ∀ w ∈ l, Sm.stem w ≠ []) : phraseF x l id = (List.range (docF x id).length).any fun i => rowM (docF x id) i l := by
  obtain ⟨w0, r, rfl⟩ : ∃ w0 r, l = w0 :: r := by cases l with | nil => exact absurd rfl hl | cons a b => exact ⟨a, b, rfl⟩
  rw [Bool.eq_iff_iff]
  unfold phraseF
  rw [List.any_eq_true, List.any_eq_true]
  have hrow : ∀ i : Nat, rowM (docF x id) i (w0 :: r) = true ↔ rowAt x id (i : Int) (w0 :: r) 0 = true := fun i => by
    rw [rowAt_iff]
    unfold rowM
    rw [List.all_eq_true]
    constructor
    · intro hh j hj
      have := hh j (List.mem_range.2 hj)
      rw [Ix.getD_get hj, stands_eq hc h (hw _ (List.getElem_mem hj)), List.contains_iff_mem] at this
      unfold places
      rw [Int.zero_add]
      simpa using this
    · intro hh j hj
      have hj := List.mem_range.1 hj
      have := hh j hj
      rw [Ix.getD_get hj, stands_eq hc h (hw _ (List.getElem_mem hj)), List.contains_iff_mem]
      unfold places at this
      rw [Int.zero_add] at this
      simpa using this
  constructor
  · rintro ⟨a, ha, hr⟩
    obtain ⟨i, rfl⟩ := place_nat hc ha
    have hs : Has (docF x id) i (Sm.stem w0) := (doc_has hc h (hw _ (.head _))).2 ha
    exact ⟨i, List.mem_range.2 hs.1, (hrow i).2 hr⟩
  · rintro ⟨i, hi, hr⟩
    have h1 := (hrow i).1 hr
    refine ⟨(i : Int), ?_, h1⟩
    have := (rowAt_iff x id (i : Int) (w0 :: r) 0).1 h1 0 (by simp)
    simpa using this
theorem word_eq {x : Ix.Idx} (hc : Ix.Canon x) (h : plainF x = true) (id : Int) {w : Str} (hw : Sm.stem w ≠ []) : decide (0 < (places x w id).length) = (List.range (docF x id).length).any fun i => rowM (docF x id) i [w] := by
  rw [Bool.eq_iff_iff, decide_eq_true_eq, List.any_eq_true]
  have hrow : ∀ i : Nat, rowM (docF x id) i [w] = standsF (docF x id) i (Sm.stem w) := fun i => by
    unfold rowM; simp [List.range_succ]
  constructor
  · intro h0
    obtain ⟨a, ha⟩ := List.exists_mem_of_length_pos h0
    obtain ⟨i, rfl⟩ := place_nat hc ha
    have hs := (doc_has hc h hw).2 ha
    exact ⟨i, List.mem_range.2 hs.1, by rw [hrow]; exact (stands_iff _ _ _).2 hs⟩
  · rintro ⟨i, hi, hr⟩
    rw [hrow] at hr
    exact List.length_pos_of_mem ((doc_has hc h hw).1 ((stands_iff _ _ _).1 hr))
theorem prefix_eq {x : Ix.Idx} (hc : Ix.Canon x) (h : plainF x = true) (id : Int) {s : Str} (hs : s ≠ []) : prefixF x s id = prefixM (docF x id) s := by
  rw [Bool.eq_iff_iff, prefix_iff hc.wf]
  unfold prefixM
  rw [List.any_eq_true]
  constructor
  · rintro ⟨w, h1, h2⟩
    have hw : w ≠ [] := by rintro rfl; rw [List.isPrefixOf_iff_prefix] at h1; exact hs (List.prefix_nil.1 h1)
    obtain ⟨a, ha⟩ := List.exists_mem_of_ne_nil _ h2
    obtain ⟨i, rfl⟩ := place_nat hc ha
    obtain ⟨hi, hm⟩ := (doc_has hc h hw).2 ha
    exact ⟨_, List.getElem_mem hi, List.any_eq_true.2 ⟨w, hm, h1⟩⟩
  · rintro ⟨y, hy, hb⟩
    obtain ⟨w, hm, h1⟩ := List.any_eq_true.1 hb
    obtain ⟨i, hi, rfl⟩ := List.mem_iff_getElem.1 hy
    have hw : w ≠ [] := by rintro rfl; rw [List.isPrefixOf_iff_prefix] at h1; exact hs (List.prefix_nil.1 h1)
    exact ⟨w, h1, List.ne_nil_of_mem ((doc_has hc h hw).1 ⟨hi, hm⟩)⟩
theorem near_eq {x : Ix.Idx} (hc : Ix.Canon x) (h : plainF x = true) (id : Int) {a b : Str} (ha : Sm.stem a ≠ []) (hb : Sm.stem b ≠ []) (n : Int) : nearF x a b n id = nearM (docF x id) a b n := by
  rw [Bool.eq_iff_iff]
  unfold nearF nearM
  simp only [List.any_eq_true, Bool.and_eq_true, Bool.not_eq_true', decide_eq_true_eq, decide_eq_false_iff_not, beq_eq_false_iff_ne, ne_eq]
  constructor
  · rintro ⟨i, hi, k, hk, ⟨h1, h2⟩, h3⟩
    obtain ⟨i, rfl⟩ := place_nat hc hi
    obtain ⟨k, rfl⟩ := place_nat hc hk
    have s1 := (doc_has hc h ha).2 hi
    have s2 := (doc_has hc h hb).2 hk
    exact ⟨i, List.mem_range.2 s1.1, k, List.mem_range.2 s2.1, ⟨by omega, by omega, by omega⟩, (stands_iff _ _ _).2 s1, (stands_iff _ _ _).2 s2⟩
  · rintro ⟨i, hi, k, hk, ⟨h1, h2, h3⟩, s1, s2⟩
    exact ⟨(i : Int), (doc_has hc h ha).1 ((stands_iff _ _ _).1 s1), (k : Int), (doc_has hc h hb).1 ((stands_iff _ _ _).1 s2), ⟨by omega, by omega⟩, by omega⟩
/-- what a node of a valid query is like -/
theorem node_text {q : Q} (h : errOf q = 0) : (1 ≤ q.kind ∧ q.kind ≤ 8) ∧ (q.kind = 2 ∨ q.kind = 3 → splitS q.text = [q.text] ∧ wordOk q.text = true) ∧ (q.kind = 4 → ∀ w ∈ splitS q.text, wordOk w = true) ∧
    (q.kind = 5 → ∃ a b, splitS q.text = [a, b] ∧ wordOk a = true ∧ wordOk b = true) ∧ (q.kind = 8 → ∃ p, q.parts = [p]) := by
  unfold errOf at h
  split at h
  · cases h
  · rename_i h0
    simp only [Bool.or_eq_true, decide_eq_true_eq, not_or, Int.not_lt] at h0
    split at h
    · cases h
    · rename_i h1
      split at h
      · cases h
      · split at h
        · cases h
        · rename_i h2
          refine ⟨h0, fun hk => ?_, fun hk => ?_, fun hk => ?_, fun hk => ?_⟩
          · have hwnt : wants q.kind = 1 := by rcases hk with hk | hk <;> rw [hk] <;> rfl
            rw [hwnt] at h2
            simp only [not_and, not_or, Bool.not_eq_false] at h2
            obtain ⟨g1, g2⟩ := h2 (by decide)
            have g3 : (splitS q.text).length = 1 := by have := g2 (by decide); omega
            have g4 : q.text.count 32 = 0 := by rw [splitS_len] at g3; omega
            have g5 := splitS_no q.text (List.count_eq_zero.1 g4)
            rw [g5] at g1
            exact ⟨g5, by simpa using g1⟩
          · have hwnt : wants q.kind = -1 := by rw [hk]; rfl
            rw [hwnt] at h2
            simp only [not_and, not_or, Bool.not_eq_false] at h2
            exact List.all_eq_true.1 (h2 (by decide)).1
          · have hwnt : wants q.kind = 2 := by rw [hk]; rfl
            rw [hwnt] at h2
            simp only [not_and, not_or, Bool.not_eq_false] at h2
            obtain ⟨g1, g2⟩ := h2 (by decide)
            have g3 : (splitS q.text).length = 2 := by have := g2 (by decide); omega
            match hsp : splitS q.text, g3 with
            | [a, b], _ => rw [hsp] at g1; simp at g1; exact ⟨a, b, rfl, g1⟩
          · rw [hk] at h1
            simp only [not_or, least, most] at h1
            have g3 : q.parts.length = 1 := by
              have a1 := h1.1; have a2 := h1.2.1
              simp at a1 a2; omega
            match hsp : q.parts, g3 with
            | [a], _ => exact ⟨a, rfl⟩
theorem matches_eq {x : Ix.Idx} (hc : Ix.Canon x) (h : plainF x = true) (id : Int) : ∀ (f : Nat) (q : Q), Fits f q → (∀ p ∈ pre f q, errOf p = 0) → matchesF f q (docF x id) = findsF f x q id
  | 0, q, hf, _ => hf.elim
  | f + 1, q, hf, he => by
    have hself : errOf q = 0 := he q (by rw [pre]; exact .head _)
    have ih : ∀ p ∈ q.parts, matchesF f p (docF x id) = findsF f x p id := fun p hp =>
      matches_eq hc h id f p (hf p hp) fun r hr => he r (by rw [pre]; exact .tail _ (List.mem_flatMap.2 ⟨p, hp, hr⟩))
    have hcnt : q.parts.countP (fun p => matchesF f p (docF x id)) = q.parts.countP (fun p => findsF f x p id) := List.countP_congr fun p hp => by rw [ih p hp]
    obtain ⟨⟨k1, k8⟩, t1, t4, t5, t8⟩ := node_text hself
    rw [matchesF, findsF, hcnt]
    by_cases c6 : q.kind = 6
    · rw [c6]; simp only [if_true, show ¬ (6 : Int) = 2 by decide, show ¬ (6 : Int) = 3 by decide, show ¬ (6 : Int) = 4 by decide, show ¬ (6 : Int) = 5 by decide, if_false]
      rw [all_iff_count]
    by_cases c7 : q.kind = 7
    · rw [c7]; simp only [if_true, show ¬ (7 : Int) = 2 by decide, show ¬ (7 : Int) = 3 by decide, show ¬ (7 : Int) = 4 by decide, show ¬ (7 : Int) = 5 by decide, show ¬ (7 : Int) = 6 by decide, if_false]
      rw [any_iff_count]
    by_cases c8 : q.kind = 8
    · obtain ⟨p, hp⟩ := t8 c8
      rw [c8]; simp only [if_true, show ¬ (8 : Int) = 2 by decide, show ¬ (8 : Int) = 3 by decide, show ¬ (8 : Int) = 4 by decide, show ¬ (8 : Int) = 5 by decide, show ¬ (8 : Int) = 6 by decide, show ¬ (8 : Int) = 7 by decide, if_false]
      rw [hp, List.headD_cons]
      cases hb : findsF f x p id <;> simp [hb]
    rw [if_neg c6, if_neg c7, if_neg c8, if_neg c6, if_neg c7, if_neg c8]
    by_cases c2 : q.kind = 2
    · obtain ⟨e1, e2⟩ := t1 (.inl c2)
      rw [c2]; simp only [if_true, show ¬ (2 : Int) = 1 by decide, show ¬ (2 : Int) = 3 by decide, show ¬ (2 : Int) = 5 by decide, if_false]
      rw [e1]
      exact (word_eq hc h id (word_ne e2).2).symm
    by_cases c3 : q.kind = 3
    · obtain ⟨e1, e2⟩ := t1 (.inr c3)
      rw [c3]; simp only [if_true, show ¬ (3 : Int) = 1 by decide, show ¬ (3 : Int) = 2 by decide, if_false]
      exact (prefix_eq hc h id (word_ne e2).1).symm
    by_cases c4 : q.kind = 4
    · have e := t4 c4
      rw [c4]; simp only [if_true, show ¬ (4 : Int) = 1 by decide, show ¬ (4 : Int) = 3 by decide, show ¬ (4 : Int) = 2 by decide, show ¬ (4 : Int) = 5 by decide, if_false]
      exact (phrase_eq hc h id (splitS_ne _) fun w hw => (word_ne (e w hw)).2).symm
    by_cases c5 : q.kind = 5
    · obtain ⟨a, b, e, e1, e2⟩ := t5 c5
      rw [c5]; simp only [if_true, show ¬ (5 : Int) = 1 by decide, show ¬ (5 : Int) = 3 by decide, show ¬ (5 : Int) = 2 by decide, show ¬ (5 : Int) = 4 by decide, if_false]
      rw [e]
      exact (near_eq hc h id (word_ne e1).2 (word_ne e2).2 _).symm
    have c1 : q.kind = 1 := by omega
    rw [c1]; simp
def foundM (x : Ix.Idx) (q : Q) : List Int := x.1.filter fun id => matchesF 8 q (docF x id)
theorem foundM_eq {x : Ix.Idx} (hc : Ix.Canon x) (h : plainF x = true) {q : Q} (hq : (fault q).1 = 0) : foundM x q = foundF x q := by
  have hg := fault_zero.1 hq
  exact List.filter_congr fun id _ => matches_eq hc h id 8 q hg.1 hg.2.2
end Sr
end Go.Proofs.YtiohhajkegpebaaGreatDoor
namespace Go.Proofs.YtiohhajkegpebaaGreatDoor
set_option linter.unusedVariables false
theorem splitS_space (a : Str) : splitS (a ++ [32]) = splitS a ++ [[]] := splitS_append a []
theorem splitS_other {c : UInt8} (h : c ≠ 32) : ∀ a : Str, splitS (a ++ [c]) = (splitS a).set ((splitS a).length - 1) ((splitS a).getD ((splitS a).length - 1) [] ++ [c])
  | [] => by simp [splitS, h]
  | d :: t => by
    have ih := splitS_other h t
    rw [List.cons_append, splitS, splitS, ih]
    cases hX : splitS t with
    | nil => exact absurd hX (splitS_ne t)
    | cons x r =>
      cases r with
      | nil => split <;> simp
      | cons y r => split <;> simp
theorem contains_anyS (l : List Str) (x : Str) : l.contains x = l.any (· == x) := by
  rw [Bool.eq_iff_iff, List.contains_iff_mem, List.any_eq_true]; simp
namespace Sr
open Q
def tot (l : List Str) : Nat := (l.map List.length).sum
theorem tot_nil : tot [] = 0 := rfl
theorem tot_append (a b : List Str) : tot (a ++ b) = tot a + tot b := by unfold tot; rw [List.map_append, List.sum_append]
theorem tot_mem {l : List Str} {s : Str} (h : s ∈ l) : s.length ≤ tot l := by
  induction l with
  | nil => cases h
  | cons a l ih =>
    show _ ≤ a.length + tot l
    rcases List.mem_cons.1 h with rfl | h
    · omega
    · have := ih h; omega
theorem tot_set : ∀ {l : List Str} {n : Nat} (h : n < l.length) (v : Str), tot (l.set n v) + l[n].length = tot l + v.length
  | a :: l, 0, _, v => by show v.length + tot l + a.length = a.length + tot l + v.length; omega
  | a :: l, n + 1, h, v => by
    have hn : n < l.length := by simpa using h
    have := tot_set hn v
    show a.length + tot (l.set n v) + l[n].length = a.length + tot l + v.length
    omega
theorem tot_nils (n : Nat) : tot (List.replicate n []) = 0 := by
  induction n with
  | zero => rfl
  | succ n ih => rw [List.replicate_succ]; show 0 + tot _ = 0; omega
theorem tot_padded (l : List Str) (n : Nat) : tot (padded l n) = tot l := by unfold padded; rw [tot_append, tot_nils]; rfl
theorem placed_len (l : List Str) {n : Nat} (v : Str) (hn : n ≤ 5000) : (placedF l n v).length = max l.length (n + 1) := by
  unfold placedF
  rw [if_neg (by omega), List.length_set, padded_len]
theorem placed_le (l : List Str) (n : Nat) (v : Str) (hl : l.length ≤ 5001) : (placedF l n v).length ≤ 5001 := by
  by_cases h : n ≤ 5000
  · rw [placed_len l v h]; omega
  · unfold placedF; rw [if_pos (by omega)]; exact hl
theorem placed_tot (l : List Str) (n : Nat) (v : Str) : tot (placedF l n v) ≤ tot l + v.length + 1 := by
  unfold placedF
  by_cases h : 5000 < n
  · rw [if_pos h]; omega
  · rw [if_neg h]
    have hl : n < (padded l n).length := by rw [padded_len]; omega
    have h1 := tot_set hl ((if (padded l n).getD n [] = [] then [] else (padded l n).getD n [] ++ [32]) ++ v)
    have h2 : (padded l n).getD n [] = (padded l n)[n] := Ix.getD_get hl _
    rw [tot_padded] at h1
    have h3 : ((if (padded l n).getD n [] = [] then [] else (padded l n).getD n [] ++ [32]) ++ v).length ≤ (padded l n)[n].length + 1 + v.length := by
      rw [h2]
      split <;> simp <;> omega
    omega
/-- how many bytes the placing of some postings adds at most -/
def costP (v : Str) (ps : List Ix.Post) : Nat := (ps.map fun p => p.2.length * (v.length + 1)).sum
def costT (ts : List Ix.Term) : Nat := (ts.map fun t => costP t.1 t.2).sum
theorem costP_drop (v : Str) {ps : List Ix.Post} {n : Nat} (h : n < ps.length) : costP v (ps.drop n) = ps[n].2.length * (v.length + 1) + costP v (ps.drop (n + 1)) := by
  rw [List.drop_eq_getElem_cons h]; rfl
theorem costT_drop {ts : List Ix.Term} {k : Nat} (h : k < ts.length) : costT (ts.drop k) = costP ts[k].1 ts[k].2 + costT (ts.drop (k + 1)) := by
  rw [List.drop_eq_getElem_cons h]; rfl
theorem docT_step (id : Int) {ts : List Ix.Term} {k : Nat} (h : k < ts.length) : docT id [] (ts.take (k + 1)) = docP id ts[k].1 (docT id [] (ts.take k)) ts[k].2 := by
  unfold docT
  rw [List.take_succ_eq_append_getElem h, List.foldl_append]; rfl
theorem docP_step (id : Int) (v : Str) (l : List Str) {ps : List Ix.Post} {n : Nat} (h : n < ps.length) : docP id v l (ps.take (n + 1)) = if ps[n].1 = id then placesF (docP id v l (ps.take n)) v ps[n].2 else docP id v l (ps.take n) := by
  unfold docP
  rw [List.take_succ_eq_append_getElem h, List.foldl_append]; rfl
theorem places_step (v : Str) (l : List Str) {ns : List Int} {m : Nat} (h : m < ns.length) : placesF l v (ns.take (m + 1)) = placedF (placesF l v (ns.take m)) ns[m].toNat v := by
  unfold placesF
  rw [List.take_succ_eq_append_getElem h, List.foldl_append]; rfl
theorem places_tot (v : Str) : ∀ (ns : List Int) (l : List Str), tot (placesF l v ns) ≤ tot l + ns.length * (v.length + 1)
  | [], l => by unfold placesF; simp
  | n :: ns, l => by
    have h1 := places_tot v ns (placedF l n.toNat v)
    have h2 := placed_tot l n.toNat v
    show tot (placesF (placedF l n.toNat v) v ns) ≤ _
    rw [List.length_cons, Nat.add_mul]; omega
theorem docP_tot (id : Int) (v : Str) : ∀ (ps : List Ix.Post) (l : List Str), tot (docP id v l ps) ≤ tot l + costP v ps
  | [], l => by simp [docP, costP]
  | p :: ps, l => by
    have h1 := docP_tot id v ps (if p.1 = id then placesF l v p.2 else l)
    have h2 := places_tot v p.2 l
    show tot (docP id v (if p.1 = id then placesF l v p.2 else l) ps) ≤ tot l + (p.2.length * (v.length + 1) + costP v ps)
    by_cases h : p.1 = id
    · rw [if_pos h] at h1 ⊢; omega
    · rw [if_neg h] at h1 ⊢; omega
theorem docT_tot (id : Int) : ∀ (ts : List Ix.Term) (l : List Str), tot (docT id l ts) ≤ tot l + costT ts
  | [], l => by simp [docT, costT]
  | t :: ts, l => by
    have h1 := docT_tot id ts (docP id t.1 l t.2)
    have h2 := docP_tot id t.1 t.2 l
    show tot (docT id (docP id t.1 l t.2) ts) ≤ tot l + (costP t.1 t.2 + costT ts)
    omega
theorem doc_tot (x : Ix.Idx) (id : Int) : tot (docF x id) ≤ costT x.2 := by have := docT_tot id x.2 []; rw [tot_nil, Nat.zero_add] at this; exact this
theorem places_len (v : Str) : ∀ (ns : List Int) (l : List Str), l.length ≤ 5001 → (placesF l v ns).length ≤ 5001
  | [], l, h => h
  | n :: ns, l, h => places_len v ns _ (placed_le l _ v h)
theorem docP_len (id : Int) (v : Str) : ∀ (ps : List Ix.Post) (l : List Str), l.length ≤ 5001 → (docP id v l ps).length ≤ 5001
  | [], l, h => h
  | p :: ps, l, h => by
    have h2 : (if p.1 = id then placesF l v p.2 else l).length ≤ 5001 := by
      by_cases e : p.1 = id
      · rw [if_pos e]; exact places_len v _ _ h
      · rw [if_neg e]; exact h
    exact docP_len id v ps _ h2
theorem docT_len (id : Int) : ∀ (ts : List Ix.Term) (l : List Str), l.length ≤ 5001 → (docT id l ts).length ≤ 5001
  | [], l, h => h
  | t :: ts, l, h => docT_len id ts _ (docP_len id t.1 t.2 l h)
theorem doc_len (x : Ix.Idx) (id : Int) : (docF x id).length ≤ 5001 := docT_len id x.2 [] (by simp)
theorem costP_sum (v : Str) (ps : List Ix.Post) : costP v ps = (ps.map fun p => p.2.length).sum * (v.length + 1) := by
  unfold costP
  induction ps with
  | nil => simp
  | cons p ps ih => simp only [List.map_cons, List.sum_cons, ih, Nat.add_mul]
/-- what the nodes of a reference's list are: a first part of the nodes in order; all of them, or more than the limit -/
def Cut (L P : List Q) (lim : Nat) : Prop := L <+: P ∧ (L = P ∨ lim < L.length)
theorem Cut.of_le {L P : List Q} {lim : Nat} (h : Cut L P lim) : (lim < L.length ↔ lim < P.length) ∧ (L.length ≤ lim → L = P) := by
  obtain ⟨h1, h2⟩ := h
  have := h1.length_le
  rcases h2 with rfl | h2
  · exact ⟨Iff.rfl, fun _ => rfl⟩
  · exact ⟨⟨fun _ => by omega, fun _ => h2⟩, fun h => by omega⟩
theorem flat_take (f : Nat) {ps : List Q} {m : Nat} (h : m < ps.length) : (ps.take (m + 1)).flatMap (pre f) = (ps.take m).flatMap (pre f) ++ pre f ps[m] := by
  rw [List.take_succ_eq_append_getElem h, List.flatMap_append]; simp
theorem flat_pre (f : Nat) (ps : List Q) (m : Nat) : (ps.take m).flatMap (pre f) <+: ps.flatMap (pre f) := by
  have h : ps.flatMap (pre f) = (ps.take m).flatMap (pre f) ++ (ps.drop m).flatMap (pre f) := by rw [← List.flatMap_append, List.take_append_drop]
  rw [h]; exact List.prefix_append _ _
theorem Cut.step {q : Q} {f lim m : Nat} {ps : List Q} {L L' : List Q} (hm : m < ps.length) (h : Cut L (q :: (ps.take m).flatMap (pre f)) lim) (hl : L.length ≤ lim) (h' : Cut L' (pre f ps[m]) (lim - L.length)) : Cut (L ++ L') (q :: (ps.take (m + 1)).flatMap (pre f)) lim := by
  have e := h.of_le.2 hl
  rw [flat_take f hm, ← List.cons_append, ← e]
  refine ⟨List.prefix_append_right_inj _ |>.2 h'.1, ?_⟩
  rcases h'.2 with h2 | h2
  · exact .inl (by rw [h2])
  · exact .inr (by rw [List.length_append]; omega)
theorem Cut.all {q : Q} {f lim m : Nat} {ps : List Q} {L : List Q} (h : Cut L (q :: (ps.take m).flatMap (pre f)) lim) (he : ps.length ≤ m ∨ lim < L.length) : Cut L (q :: ps.flatMap (pre f)) lim := by
  refine ⟨h.1.trans ((List.prefix_cons_inj q).2 (flat_pre f ps m)), ?_⟩
  rcases he with he | he
  · rw [List.take_of_length_le he] at h; exact h.2
  · exact .inr he
theorem range_any {n : Nat} {p : Nat → Bool} {k : Nat} (hk : k < n) (h : p k = true) : (List.range n).any p = true := List.any_eq_true.2 ⟨k, List.mem_range.2 hk, h⟩
theorem range_none {n : Nat} {p : Nat → Bool} (h : ∀ k, k < n → p k = false) : (List.range n).any p = false := by
  rw [List.any_eq_false]; intro k hk; rw [h k (List.mem_range.1 hk)]; decide
theorem range_all_step (n : Nat) (p : Nat → Bool) : (List.range (n + 1)).all p = ((List.range n).all p && p n) := by
  rw [List.range_succ, List.all_append]; simp
theorem pre_take (s v : Str) : s.isPrefixOf v = (decide (s.length ≤ v.length) && (v.take s.length == s)) := by
  rw [Bool.eq_iff_iff, List.isPrefixOf_iff_prefix, Bool.and_eq_true, decide_eq_true_eq, beq_iff_eq]
  constructor
  · intro h; exact ⟨h.length_le, (List.prefix_iff_eq_take.1 h).symm⟩
  · rintro ⟨_, h⟩; exact List.prefix_iff_eq_take.2 h.symm
theorem count_step (p : Q → Bool) {l : List Q} {m : Nat} (h : m < l.length) : (l.take (m + 1)).countP p = (l.take m).countP p + (if p l[m] then 1 else 0) := by
  rw [List.take_succ_eq_append_getElem h, List.countP_append]; simp [List.countP_cons]
/-- a node's error, as the reference finds it -/
def textOk (q : Q) : Bool := (decide (q.kind = 4) || (decide (q.kind = 5) && decide ((splitS q.text).length = 2)) || (decide (q.kind < 4) && decide ((splitS q.text).length = 1)))
def refErr (q : Q) : Int :=
  if ¬ (1 ≤ q.kind ∧ q.kind ≤ 8) then 4
  else if (¬ 6 ≤ q.kind ∧ 0 < q.parts.length) ∨ (q.kind = 8 ∧ q.parts.length ≠ 1) ∨ ((q.kind = 6 ∨ q.kind = 7) ∧ q.parts.length < 2) ∨ (q.num ≠ 0 ∧ q.kind ≠ 5) ∨ (¬ (2 ≤ q.kind ∧ q.kind ≤ 5) ∧ q.text ≠ []) then 5
  else if q.kind = 5 ∧ ¬ (1 ≤ q.num ∧ q.num ≤ 50) then 3
  else if ¬ (2 ≤ q.kind ∧ q.kind ≤ 5) then 0
  else if (textOk q && (splitS q.text).all wordOk) = true then 0 else 10
def textE (k : Int) (t : Str) : Bool := (decide (k = 4) || (decide (k = 5) && decide ((splitS t).length = 2)) || (decide (k < 4) && decide ((splitS t).length = 1)))
def refE (k : Int) (t : Str) (n : Int) (nl : Nat) : Int :=
  if ¬ (1 ≤ k ∧ k ≤ 8) then 4
  else if (¬ 6 ≤ k ∧ 0 < nl) ∨ (k = 8 ∧ nl ≠ 1) ∨ ((k = 6 ∨ k = 7) ∧ nl < 2) ∨ (n ≠ 0 ∧ k ≠ 5) ∨ (¬ (2 ≤ k ∧ k ≤ 5) ∧ t ≠ []) then 5
  else if k = 5 ∧ ¬ (1 ≤ n ∧ n ≤ 50) then 3
  else if ¬ (2 ≤ k ∧ k ≤ 5) then 0
  else if (textE k t && (splitS t).all wordOk) = true then 0 else 10
theorem refErr_node (k : Int) (t : Str) (n : Int) (ps : List Q) : refErr (.node k t n ps) = refE k t n ps.length := rfl
theorem refErr_eq {q : Q} (hn : q.parts.length ≤ 60) : refErr q = errOf q := by
  unfold refErr errOf
  by_cases h0 : 1 ≤ q.kind ∧ q.kind ≤ 8
  · have hk : q.kind = 1 ∨ q.kind = 2 ∨ q.kind = 3 ∨ q.kind = 4 ∨ q.kind = 5 ∨ q.kind = 6 ∨ q.kind = 7 ∨ q.kind = 8 := by omega
    obtain ⟨n, hn'⟩ : ∃ n, q.parts.length = n := ⟨_, rfl⟩
    obtain ⟨c, hc⟩ : ∃ c, (splitS q.text).length = c := ⟨_, rfl⟩
    obtain ⟨a, ha⟩ : ∃ a, (splitS q.text).all wordOk = a := ⟨_, rfl⟩
    unfold textOk
    rw [hn', hc, ha]
    rw [hn'] at hn
    rcases hk with hk | hk | hk | hk | hk | hk | hk | hk <;> rw [hk] <;> simp only [least, most, wants] <;> cases a <;> by_cases ht : q.text = [] <;> simp [ht] <;> (repeat' split) <;> first | rfl | omega
  · rw [if_pos h0, if_pos]
    simp only [Bool.or_eq_true, decide_eq_true_eq]
    omega
end Sr
end Go.Proofs.YtiohhajkegpebaaGreatDoor
namespace Go.Proofs.YtiohhajkegpebaaGreatDoor
set_option linter.unusedVariables false
namespace Rk
/-- what a text with a stem counts -/
def weight (x : Ix.Idx) (s : Str) : Int := 1000 * ((x.1.length : Int) + 1) / ((((Al.look x.2 s).getD []).length : Int) + 1)
/-- the score of a text by some stems -/
def scoreF (x : Ix.Idx) (l : List Str) (id : Int) : Int := (l.map fun s => weight x s * min ((Ix.cont x.2 s id).length : Int) 10).sum
theorem weight_pos {x : Ix.Idx} {s : Str} (h : ((Al.look x.2 s).getD []).length ≤ 900 + x.1.length) : 0 < weight x s := by
  unfold weight
  have h1 : (1 : Int) ≤ 1000 * ((x.1.length : Int) + 1) / ((((Al.look x.2 s).getD []).length : Int) + 1) := by
    rw [Int.le_ediv_iff_mul_le (by omega)]
    omega
  omega
theorem occ_more (s : Str) (l : List Str) : (Ix.occ s (l ++ [s]) 0).length = (Ix.occ s l 0).length + 1 := by
  rw [Ix.occ_snoc, if_pos rfl, List.length_append]
  rfl
/-- the words of a text with one more -/
theorem words_more (t w : Str) (h : Sm.words w = [w]) : Sm.words (t ++ 46 :: 32 :: w) = Sm.words t ++ [w] := by
  rw [Sm.words_join]
  have hs : Sm.words (32 :: w) = Sm.words w := by
    unfold Sm.words Sm.rawWords
    show (Sm.wordsFrom [] (32 :: w)).map Sm.lower = (Sm.wordsFrom [] w).map Sm.lower
    rw [Sm.wordsFrom_step (by simp), Sm.decode_ascii' 32 w (by decide), if_neg (by show ¬ Sm.isL 32 = true; rw [Sm.isL_space]; decide), if_pos rfl]
    rfl
  rw [hs, h]
theorem stems_more (t w : Str) (h : Sm.words w = [w]) : Sm.stems (t ++ 46 :: 32 :: w) = Sm.stems t ++ [Sm.stem w] := by
  unfold Sm.stems
  rw [words_more t w h, List.map_append]
  rfl
/-- the two texts of the law -/
def two (t w : Str) : Ix.Idx := Ix.madeF (Ix.stemsD [(5, t), (9, t ++ 46 :: 32 :: w)])
theorem two_ids (t w : Str) : (two t w).1 = [5, 9] := rfl
theorem two_sorted (t w : Str) : ((Ix.stemsD [(5, t), (9, t ++ 46 :: 32 :: w)]).map fun d => d.1).Pairwise (· < ·) := by
  show ([5, 9] : List Int).Pairwise (· < ·)
  decide
theorem two_5 (t w s : Str) : Ix.cont (two t w).2 s 5 = Ix.occ s (Sm.stems t) 0 := by
  unfold two
  rw [Ix.cont_made (two_sorted t w)]
  rfl
theorem two_9 (t w s : Str) : Ix.cont (two t w).2 s 9 = Ix.occ s (Sm.stems (t ++ 46 :: 32 :: w)) 0 := by
  unfold two
  rw [Ix.cont_made (two_sorted t w)]
  rfl
theorem more_better (t w : Str) (h : Sm.words w = [w]) (hp : 0 < weight (two t w) (Sm.stem w)) : scoreF (two t w) [Sm.stem w] 5 ≤ scoreF (two t w) [Sm.stem w] 9 ∧ 0 < scoreF (two t w) [Sm.stem w] 9 := by
  unfold scoreF
  simp only [List.map_cons, List.map_nil, List.sum_cons, List.sum_nil, Int.add_zero]
  rw [two_5, two_9, stems_more t w h, occ_more]
  generalize (Ix.occ (Sm.stem w) (Sm.stems t) 0).length = n
  generalize weight (two t w) (Sm.stem w) = W at hp ⊢
  have h1 : min ((n : Nat) : Int) 10 ≤ min ((n + 1 : Nat) : Int) 10 := by omega
  have h2 : (1 : Int) ≤ min ((n + 1 : Nat) : Int) 10 := by omega
  exact ⟨Int.mul_le_mul_of_nonneg_left h1 (Int.le_of_lt hp), Int.mul_pos hp (by omega)⟩
end Rk
end Go.Proofs.YtiohhajkegpebaaGreatDoor

/-
  Contracts and plain facts, one after another: The texts of an index, place by place, and what a query matches there; plain; (search.finder).finds; (search.finder).found: the iterator; search.Find; search.Find.
-/
import Derived.Test.YtfjpedgddgbelaaGreatDoorMSo14
import Derived.Test.YtfjpedgddgbelaaGreatDoorMSo9
import Derived.Test.YtfjpedgddgbelaaGreatDoorMSo6
/-
  The texts of an index, place by place, and what a query matches there; plain.
-/
namespace Go.Proofs.YtfjpedgddgbelaaGreatDoor
set_option linter.unusedVariables false
namespace Sr
open Q
/-- a list with a word at a place -/
def padded (l : List Str) (n : Nat) : List Str := l ++ List.replicate (n + 1 - l.length) []
def placedF (l : List Str) (n : Nat) (v : Str) : List Str :=
  if 5000 < n then l else (padded l n).set n ((if (padded l n).getD n [] = [] then [] else (padded l n).getD n [] ++ [32]) ++ v)
def placesF (l : List Str) (v : Str) (ns : List Int) : List Str := ns.foldl (fun l n => placedF l n.toNat v) l
def docP (id : Int) (v : Str) (l : List Str) (ps : List Ix.Post) : List Str := ps.foldl (fun l p => if p.1 = id then placesF l v p.2 else l) l
def docT (id : Int) (l : List Str) (ts : List Ix.Term) : List Str := ts.foldl (fun l t => docP id t.1 l t.2) l
def docF (x : Ix.Idx) (id : Int) : List Str := docT id [] x.2
/-- a word is at a place -/
def Has (l : List Str) (i : Nat) (w : Str) : Prop := ∃ h : i < l.length, w ∈ splitS l[i]
def standsF (l : List Str) (i : Nat) (w : Str) : Bool := decide (i < l.length) && (splitS (l.getD i [])).contains w
theorem stands_iff (l : List Str) (i : Nat) (w : Str) : standsF l i w = true ↔ Has l i w := by
  unfold standsF Has
  rw [Bool.and_eq_true, decide_eq_true_eq, List.contains_iff_mem]
  constructor
  · rintro ⟨h1, h2⟩; rw [Ix.getD_get h1] at h2; exact ⟨h1, h2⟩
  · rintro ⟨h1, h2⟩; refine ⟨h1, ?_⟩; rw [Ix.getD_get h1]; exact h2
theorem padded_len (l : List Str) (n : Nat) : (padded l n).length = max l.length (n + 1) := by
  unfold padded; rw [List.length_append, List.length_replicate]; omega
theorem padded_has (l : List Str) (n : Nat) {i : Nat} {w : Str} (hw : w ≠ []) : Has (padded l n) i w ↔ Has l i w := by
  unfold padded
  constructor
  · rintro ⟨h, hm⟩
    by_cases hi : i < l.length
    · rw [List.getElem_append_left hi] at hm; exact ⟨hi, hm⟩
    · rw [List.getElem_append_right (by omega), List.getElem_replicate] at hm
      simp [splitS] at hm
      exact absurd hm hw
  · rintro ⟨h, hm⟩
    refine ⟨by rw [List.length_append]; omega, ?_⟩
    rw [List.getElem_append_left h]; exact hm
theorem placed_has {l : List Str} {n : Nat} {v : Str} (hn : n ≤ 5000) (hv : v ≠ []) (hs : (32 : UInt8) ∉ v) {i : Nat} {w : Str} (hw : w ≠ []) : Has (placedF l n v) i w ↔ Has l i w ∨ (i = n ∧ w = v) := by
  have hl := padded_len l n
  have hnl : n < (padded l n).length := by omega
  rw [← padded_has l n hw]
  unfold placedF
  rw [if_neg (by omega)]
  by_cases hi : i = n
  · subst hi
    constructor
    · rintro ⟨h, hm⟩
      rw [List.getElem_set_self] at hm
      split at hm
      · rename_i he
        rw [List.nil_append, splitS_no v hs] at hm
        exact .inr ⟨rfl, by simpa using hm⟩
      · rw [List.append_assoc, List.singleton_append, splitS_append, splitS_no v hs, List.mem_append] at hm
        rcases hm with hm | hm
        · rw [Ix.getD_get hnl] at hm; exact .inl ⟨hnl, hm⟩
        · exact .inr ⟨rfl, by simpa using hm⟩
    · intro h
      refine ⟨by rw [List.length_set]; exact hnl, ?_⟩
      rw [List.getElem_set_self]
      split
      · rename_i he
        rw [Ix.getD_get hnl] at he
        rw [List.nil_append, splitS_no v hs]
        rcases h with ⟨_, hm⟩ | ⟨_, rfl⟩
        · rw [he] at hm; simp [splitS] at hm; exact absurd hm hw
        · simp
      · rw [List.append_assoc, List.singleton_append, splitS_append, splitS_no v hs, List.mem_append, Ix.getD_get hnl]
        rcases h with ⟨_, hm⟩ | ⟨_, rfl⟩
        · exact .inl hm
        · exact .inr (by simp)
  · constructor
    · rintro ⟨h, hm⟩
      rw [List.length_set] at h
      rw [List.getElem_set_ne (fun e => hi e.symm)] at hm
      exact .inl ⟨h, hm⟩
    · rintro (⟨h, hm⟩ | ⟨e, _⟩)
      · refine ⟨by rw [List.length_set]; exact h, ?_⟩
        rw [List.getElem_set_ne (fun e => hi e.symm)]; exact hm
      · exact absurd e hi
theorem places_has {v : Str} (hv : v ≠ []) (hs : (32 : UInt8) ∉ v) {i : Nat} {w : Str} (hw : w ≠ []) : ∀ (ns : List Int) (l : List Str), (∀ n ∈ ns, n ≤ 5000) → (Has (placesF l v ns) i w ↔ Has l i w ∨ ∃ n ∈ ns, i = n.toNat ∧ w = v)
  | [], l, _ => by unfold placesF; simp
  | n :: ns, l, h => by
    have ih := places_has (i := i) hv hs hw ns (placedF l n.toNat v) fun m hm => h m (.tail _ hm)
    have h0 := h n (.head _)
    unfold placesF at ih ⊢
    rw [List.foldl_cons, ih, placed_has (by omega) hv hs hw]
    constructor
    · rintro ((h | h) | ⟨m, hm, h⟩)
      · exact .inl h
      · exact .inr ⟨n, .head _, h⟩
      · exact .inr ⟨m, .tail _ hm, h⟩
    · rintro (g | ⟨m, hm, g⟩)
      · exact .inl (.inl g)
      · rcases List.mem_cons.1 hm with rfl | hm
        · exact .inl (.inr g)
        · exact .inr ⟨m, hm, g⟩
theorem docP_has {id : Int} {v : Str} (hv : v ≠ []) (hs : (32 : UInt8) ∉ v) {i : Nat} {w : Str} (hw : w ≠ []) : ∀ (ps : List Ix.Post) (l : List Str), (∀ p ∈ ps, ∀ n ∈ p.2, n ≤ 5000) → (Has (docP id v l ps) i w ↔ Has l i w ∨ ∃ p ∈ ps, p.1 = id ∧ ∃ n ∈ p.2, i = n.toNat ∧ w = v)
  | [], l, _ => by unfold docP; simp
  | p :: ps, l, h => by
    have ih := docP_has (id := id) (i := i) hv hs hw ps (if p.1 = id then placesF l v p.2 else l) fun m hm => h m (.tail _ hm)
    have h0 := h p (.head _)
    unfold docP at ih ⊢
    rw [List.foldl_cons, ih]
    by_cases e : p.1 = id
    · rw [if_pos e, places_has hv hs hw _ _ h0]
      constructor
      · rintro ((h | h) | ⟨m, hm, h⟩)
        · exact .inl h
        · exact .inr ⟨p, .head _, e, h⟩
        · exact .inr ⟨m, .tail _ hm, h⟩
      · rintro (g | ⟨m, hm, h1, g⟩)
        · exact .inl (.inl g)
        · rcases List.mem_cons.1 hm with rfl | hm
          · exact .inl (.inr g)
          · exact .inr ⟨m, hm, h1, g⟩
    · rw [if_neg e]
      constructor
      · rintro (h | ⟨m, hm, h⟩)
        · exact .inl h
        · exact .inr ⟨m, .tail _ hm, h⟩
      · rintro (h | ⟨m, hm, h1, h⟩)
        · exact .inl h
        · rcases List.mem_cons.1 hm with rfl | hm
          · exact absurd h1 e
          · exact .inr ⟨m, hm, h1, h⟩
theorem docT_has {id : Int} {i : Nat} {w : Str} (hw : w ≠ []) : ∀ (ts : List Ix.Term) (l : List Str), (∀ t ∈ ts, t.1 ≠ [] ∧ (32 : UInt8) ∉ t.1 ∧ ∀ p ∈ t.2, ∀ n ∈ p.2, n ≤ 5000) → (Has (docT id l ts) i w ↔ Has l i w ∨ ∃ t ∈ ts, ∃ p ∈ t.2, p.1 = id ∧ ∃ n ∈ p.2, i = n.toNat ∧ w = t.1)
  | [], l, _ => by unfold docT; simp
  | t :: ts, l, h => by
    have ih := docT_has (id := id) (i := i) hw ts (docP id t.1 l t.2) fun m hm => h m (.tail _ hm)
    obtain ⟨h0, h1, h2⟩ := h t (.head _)
    unfold docT at ih ⊢
    rw [List.foldl_cons, ih, docP_has h0 h1 hw _ _ h2]
    constructor
    · rintro ((h | h) | ⟨m, hm, h⟩)
      · exact .inl h
      · exact .inr ⟨t, .head _, h⟩
      · exact .inr ⟨m, .tail _ hm, h⟩
    · rintro (g | ⟨m, hm, g⟩)
      · exact .inl (.inl g)
      · rcases List.mem_cons.1 hm with rfl | hm
        · exact .inl (.inr g)
        · exact .inr ⟨m, hm, g⟩
/-- the places of an index are small and its words contain no spaces -/
def plainP (p : Ix.Post) : Bool := !(decide (0 < p.2.length) && decide (5000 < p.2.getD (p.2.length - 1) 0))
def plainF (x : Ix.Idx) : Bool := x.2.all fun t => !decide (1 < (splitS t.1).length) && t.2.all plainP
theorem last_max {l : List Int} (h : l.Pairwise (· < ·)) {m : Int} (hl : 0 < l.length → l.getD (l.length - 1) 0 ≤ m) : ∀ n ∈ l, n ≤ m := fun n hn => by
  obtain ⟨i, hi, rfl⟩ := List.mem_iff_getElem.1 hn
  have h1 := hl (by omega)
  rw [Ix.getD_get (by omega)] at h1
  by_cases e : i = l.length - 1
  · subst e; exact h1
  · have := List.pairwise_iff_getElem.1 h i (l.length - 1) hi (by omega) (by omega); omega
theorem plain_terms {x : Ix.Idx} (hc : Ix.Canon x) (h : plainF x = true) : ∀ t ∈ x.2, t.1 ≠ [] ∧ (32 : UInt8) ∉ t.1 ∧ ∀ p ∈ t.2, ∀ n ∈ p.2, n ≤ 5000 := fun t ht => by
  have h1 := List.all_eq_true.1 h t ht
  rw [Bool.and_eq_true, Bool.not_eq_true', decide_eq_false_iff_not, splitS_len] at h1
  refine ⟨(hc.word t ht).1, fun e => ?_, fun p hp => ?_⟩
  · have := List.count_pos_iff.2 e
    omega
  · have h2 := List.all_eq_true.1 h1.2 p hp
    have h3 := (hc.post t ht).2.2 p hp
    refine last_max h3.2.2.1 fun h0 => ?_
    unfold plainP at h2
    rw [decide_eq_true h0, Bool.true_and, Bool.not_eq_true', decide_eq_false_iff_not] at h2
    omega
/-- a word stands at a place just if the index says so -/
theorem doc_has {x : Ix.Idx} (hc : Ix.Canon x) (h : plainF x = true) {id : Int} {i : Nat} {w : Str} (hw : w ≠ []) : Has (docF x id) i w ↔ (i : Int) ∈ Ix.cont x.2 w id := by
  unfold docF
  rw [docT_has hw x.2 [] (plain_terms hc h)]
  constructor
  · rintro (⟨h, _⟩ | ⟨t, ht, p, hp, rfl, n, hn, rfl, rfl⟩)
    · exact absurd h (Nat.not_lt_zero _)
    · rw [Ix.cont_mem hc.wf ht hp]
      have := ((hc.post t ht).2.2 p hp).2.2.2 n hn
      rw [Int.toNat_of_nonneg this.1]; exact hn
  · intro hm
    obtain ⟨t, ht, rfl, p, hp, rfl, e⟩ := Ix.mem_cont (List.ne_nil_of_mem hm)
    rw [Ix.cont_mem hc.wf ht hp] at hm
    exact .inr ⟨t, ht, p, hp, rfl, _, hm, by simp, rfl⟩
theorem stands_eq {x : Ix.Idx} (hc : Ix.Canon x) (h : plainF x = true) {id : Int} {i : Nat} {w : Str} (hw : w ≠ []) : standsF (docF x id) i w = (Ix.cont x.2 w id).contains (i : Int) := by
  rw [Bool.eq_iff_iff, stands_iff, List.contains_iff_mem]
  exact doc_has hc h hw
/-! ### what a query matches -/
def rowM (l : List Str) (i : Nat) (w : List Str) : Bool := (List.range w.length).all fun k => standsF l (i + k) (Sm.stem (w.getD k []))
def nearM (l : List Str) (a b : Str) (n : Int) : Bool := (List.range l.length).any fun i => (List.range l.length).any fun k => (!decide (k = i) && (decide (-n ≤ (k : Int) - (i : Int)) && decide ((k : Int) - (i : Int) ≤ n))) && (standsF l i (Sm.stem a) && standsF l k (Sm.stem b))
def prefixM (l : List Str) (s : Str) : Bool := l.any fun y => (splitS y).any fun v => s.isPrefixOf v
def matchesF : Nat → Q → List Str → Bool
  | 0, _, _ => true
  | f + 1, q, l =>
    if q.kind = 6 then decide (q.parts.countP (fun p => matchesF f p l) = q.parts.length)
    else if q.kind = 7 then decide (0 < q.parts.countP (fun p => matchesF f p l))
    else if q.kind = 8 then decide (q.parts.countP (fun p => matchesF f p l) = 0)
    else if q.kind = 1 then true
    else if q.kind = 3 then prefixM l q.text
    else if q.kind = 5 then nearM l ((splitS q.text).headD []) ((splitS q.text).getD 1 []) q.num
    else (List.range l.length).any fun i => rowM l i (splitS q.text)
theorem rowAt_iff (x : Ix.Idx) (id a : Int) : ∀ (l : List Str) (k : Int), rowAt x id a l k = true ↔ ∀ (j : Nat) (h : j < l.length), (a + (k + (j : Int))) ∈ places x l[j] id
  | [], k => by simp [rowAt]
  | w :: l, k => by
    rw [rowAt, Bool.and_eq_true, List.contains_iff_mem, rowAt_iff x id a l (k + 1)]
    constructor
    · rintro ⟨h1, h2⟩ j hj
      cases j with
      | zero => simpa using h1
      | succ j =>
        have := h2 j (by simpa using hj)
        rw [List.getElem_cons_succ]
        rw [show k + ((j + 1 : Nat) : Int) = k + 1 + (j : Int) by omega]
        exact this
    · intro h
      refine ⟨by have := h 0 (by simp); simpa using this, fun j hj => ?_⟩
      have := h (j + 1) (by simpa using hj)
      rw [List.getElem_cons_succ] at this
      rw [show k + 1 + (j : Int) = k + ((j + 1 : Nat) : Int) by omega]
      exact this
theorem word_ne {s : Str} (h : wordOk s = true) : s ≠ [] ∧ Sm.stem s ≠ [] := by
  unfold wordOk at h
  rw [Bool.and_eq_true] at h
  have hne : s ≠ [] := by
    rintro rfl
    have := h.2
    rw [show Sm.words ([] : Str) = [] from rfl] at this
    cases this
  exact ⟨hne, Sm.stem_ne hne⟩
theorem place_nat {x : Ix.Idx} (hc : Ix.Canon x) {w : Str} {id n : Int} (h : n ∈ Ix.cont x.2 w id) : ∃ i : Nat, n = (i : Int) := by
  obtain ⟨t, ht, rfl, p, hp, rfl, e⟩ := Ix.mem_cont (List.ne_nil_of_mem h)
  rw [Ix.cont_mem hc.wf ht hp] at h
  have := ((hc.post t ht).2.2 p hp).2.2.2 n h
  exact ⟨n.toNat, by omega⟩
theorem any_iff_count {α : Type} (p : α → Bool) (l : List α) : l.any p = decide (0 < l.countP p) := by
  rw [Bool.eq_iff_iff, List.any_eq_true, decide_eq_true_eq, List.countP_pos_iff]
theorem all_iff_count {α : Type} (p : α → Bool) (l : List α) : (!(l.any fun a => !p a)) = decide (l.countP p = l.length) := by
  rw [Bool.eq_iff_iff, decide_eq_true_eq, List.countP_eq_length, Bool.not_eq_true', List.any_eq_false]
  simp
theorem phrase_eq {x : Ix.Idx} (hc : Ix.Canon x) (h : plainF x = true) (id : Int) {l : List Str} (hl : l ≠ []) (hw : ∀ w ∈ l, Sm.stem w ≠ []) : phraseF x l id = (List.range (docF x id).length).any fun i => rowM (docF x id) i l := by
  obtain ⟨w0, r, rfl⟩ : ∃ w0 r, l = w0 :: r := by cases l with | nil => exact absurd rfl hl | cons a b => exact ⟨a, b, rfl⟩
  rw [Bool.eq_iff_iff]
  unfold phraseF
  rw [List.any_eq_true, List.any_eq_true]
  have hrow : ∀ i : Nat, rowM (docF x id) i (w0 :: r) = true ↔ rowAt x id (i : Int) (w0 :: r) 0 = true := fun i => by
    rw [rowAt_iff]
    unfold rowM
    rw [List.all_eq_true]
    constructor
    · intro hh j hj
      have := hh j (List.mem_range.2 hj)
      rw [Ix.getD_get hj, stands_eq hc h (hw _ (List.getElem_mem hj)), List.contains_iff_mem] at this
      unfold places
      rw [Int.zero_add]
      simpa using this
    · intro hh j hj
      have hj := List.mem_range.1 hj
      have := hh j hj
      rw [Ix.getD_get hj, stands_eq hc h (hw _ (List.getElem_mem hj)), List.contains_iff_mem]
      unfold places at this
      rw [Int.zero_add] at this
      simpa using this
  constructor
  · rintro ⟨a, ha, hr⟩
    obtain ⟨i, rfl⟩ := place_nat hc ha
    have hs : Has (docF x id) i (Sm.stem w0) := (doc_has hc h (hw _ (.head _))).2 ha
    exact ⟨i, List.mem_range.2 hs.1, (hrow i).2 hr⟩
  · rintro ⟨i, hi, hr⟩
    have h1 := (hrow i).1 hr
    refine ⟨(i : Int), ?_, h1⟩
    have := (rowAt_iff x id (i : Int) (w0 :: r) 0).1 h1 0 (by simp)
    simpa using this
theorem word_eq {x : Ix.Idx} (hc : Ix.Canon x) (h : plainF x = true) (id : Int) {w : Str} (hw : Sm.stem w ≠ []) : decide (0 < (places x w id).length) = (List.range (docF x id).length).any fun i => rowM (docF x id) i [w] := by
  rw [Bool.eq_iff_iff, decide_eq_true_eq, List.any_eq_true]
  have hrow : ∀ i : Nat, rowM (docF x id) i [w] = standsF (docF x id) i (Sm.stem w) := fun i => by
    unfold rowM; simp [List.range_succ]
  constructor
  · intro h0
    obtain ⟨a, ha⟩ := List.exists_mem_of_length_pos h0
    obtain ⟨i, rfl⟩ := place_nat hc ha
    have hs := (doc_has hc h hw).2 ha
    exact ⟨i, List.mem_range.2 hs.1, by rw [hrow]; exact (stands_iff _ _ _).2 hs⟩
  · rintro ⟨i, hi, hr⟩
    rw [hrow] at hr
    exact List.length_pos_of_mem ((doc_has hc h hw).1 ((stands_iff _ _ _).1 hr))
theorem prefix_eq {x : Ix.Idx} (hc : Ix.Canon x) (h : plainF x = true) (id : Int) {s : Str} (hs : s ≠ []) : prefixF x s id = prefixM (docF x id) s := by
  rw [Bool.eq_iff_iff, prefix_iff hc.wf]
  unfold prefixM
  rw [List.any_eq_true]
  constructor
  · rintro ⟨w, h1, h2⟩
    have hw : w ≠ [] := by rintro rfl; rw [List.isPrefixOf_iff_prefix] at h1; exact hs (List.prefix_nil.1 h1)
    obtain ⟨a, ha⟩ := List.exists_mem_of_ne_nil _ h2
    obtain ⟨i, rfl⟩ := place_nat hc ha
    obtain ⟨hi, hm⟩ := (doc_has hc h hw).2 ha
    exact ⟨_, List.getElem_mem hi, List.any_eq_true.2 ⟨w, hm, h1⟩⟩
  · rintro ⟨y, hy, hb⟩
    obtain ⟨w, hm, h1⟩ := List.any_eq_true.1 hb
    obtain ⟨i, hi, rfl⟩ := List.mem_iff_getElem.1 hy
    have hw : w ≠ [] := by rintro rfl; rw [List.isPrefixOf_iff_prefix] at h1; exact hs (List.prefix_nil.1 h1)
    exact ⟨w, h1, List.ne_nil_of_mem ((doc_has hc h hw).1 ⟨hi, hm⟩)⟩
theorem near_eq {x : Ix.Idx} (hc : Ix.Canon x) (h : plainF x = true) (id : Int) {a b : Str} (ha : Sm.stem a ≠ []) (hb : Sm.stem b ≠ []) (n : Int) : nearF x a b n id = nearM (docF x id) a b n := by
  rw [Bool.eq_iff_iff]
  unfold nearF nearM
  simp only [List.any_eq_true, Bool.and_eq_true, Bool.not_eq_true', decide_eq_true_eq, decide_eq_false_iff_not, beq_eq_false_iff_ne, ne_eq]
  constructor
  · rintro ⟨i, hi, k, hk, ⟨h1, h2⟩, h3⟩
    obtain ⟨i, rfl⟩ := place_nat hc hi
    obtain ⟨k, rfl⟩ := place_nat hc hk
    have s1 := (doc_has hc h ha).2 hi
    have s2 := (doc_has hc h hb).2 hk
    exact ⟨i, List.mem_range.2 s1.1, k, List.mem_range.2 s2.1, ⟨by omega, by omega, by omega⟩, (stands_iff _ _ _).2 s1, (stands_iff _ _ _).2 s2⟩
  · rintro ⟨i, hi, k, hk, ⟨h1, h2, h3⟩, s1, s2⟩
    exact ⟨(i : Int), (doc_has hc h ha).1 ((stands_iff _ _ _).1 s1), (k : Int), (doc_has hc h hb).1 ((stands_iff _ _ _).1 s2), ⟨by omega, by omega⟩, by omega⟩
/-- what a node of a valid query is like -/
theorem node_text {q : Q} (h : errOf q = 0) : (1 ≤ q.kind ∧ q.kind ≤ 8) ∧ (q.kind = 2 ∨ q.kind = 3 → splitS q.text = [q.text] ∧ wordOk q.text = true) ∧ (q.kind = 4 → ∀ w ∈ splitS q.text, wordOk w = true) ∧
    (q.kind = 5 → ∃ a b, splitS q.text = [a, b] ∧ wordOk a = true ∧ wordOk b = true) ∧ (q.kind = 8 → ∃ p, q.parts = [p]) := by
  unfold errOf at h
  split at h
  · cases h
  · rename_i h0
    simp only [Bool.or_eq_true, decide_eq_true_eq, not_or, Int.not_lt] at h0
    split at h
    · cases h
    · rename_i h1
      split at h
      · cases h
      · split at h
        · cases h
        · rename_i h2
          refine ⟨h0, fun hk => ?_, fun hk => ?_, fun hk => ?_, fun hk => ?_⟩
          · have hwnt : wants q.kind = 1 := by rcases hk with hk | hk <;> rw [hk] <;> rfl
            rw [hwnt] at h2
            simp only [not_and, not_or, Bool.not_eq_false] at h2
            obtain ⟨g1, g2⟩ := h2 (by decide)
            have g3 : (splitS q.text).length = 1 := by have := g2 (by decide); omega
            have g4 : q.text.count 32 = 0 := by rw [splitS_len] at g3; omega
            have g5 := splitS_no q.text (List.count_eq_zero.1 g4)
            rw [g5] at g1
            exact ⟨g5, by simpa using g1⟩
          · have hwnt : wants q.kind = -1 := by rw [hk]; rfl
            rw [hwnt] at h2
            simp only [not_and, not_or, Bool.not_eq_false] at h2
            exact List.all_eq_true.1 (h2 (by decide)).1
          · have hwnt : wants q.kind = 2 := by rw [hk]; rfl
            rw [hwnt] at h2
            simp only [not_and, not_or, Bool.not_eq_false] at h2
            obtain ⟨g1, g2⟩ := h2 (by decide)
            have g3 : (splitS q.text).length = 2 := by have := g2 (by decide); omega
            match hsp : splitS q.text, g3 with
            | [a, b], _ => rw [hsp] at g1; simp at g1; exact ⟨a, b, rfl, g1⟩
          · rw [hk] at h1
            simp only [not_or, least, most] at h1
            have g3 : q.parts.length = 1 := by
              have a1 := h1.1; have a2 := h1.2.1
              simp at a1 a2; omega
            match hsp : q.parts, g3 with
            | [a], _ => exact ⟨a, rfl⟩
theorem matches_eq {x : Ix.Idx} (hc : Ix.Canon x) (h : plainF x = true) (id : Int) : ∀ (f : Nat) (q : Q), Fits f q → (∀ p ∈ pre f q, errOf p = 0) → matchesF f q (docF x id) = findsF f x q id
  | 0, q, hf, _ => hf.elim
  | f + 1, q, hf, he => by
    have hself : errOf q = 0 := he q (by rw [pre]; exact .head _)
    have ih : ∀ p ∈ q.parts, matchesF f p (docF x id) = findsF f x p id := fun p hp =>
      matches_eq hc h id f p (hf p hp) fun r hr => he r (by rw [pre]; exact .tail _ (List.mem_flatMap.2 ⟨p, hp, hr⟩))
    have hcnt : q.parts.countP (fun p => matchesF f p (docF x id)) = q.parts.countP (fun p => findsF f x p id) := List.countP_congr fun p hp => by rw [ih p hp]
    obtain ⟨⟨k1, k8⟩, t1, t4, t5, t8⟩ := node_text hself
    rw [matchesF, findsF, hcnt]
    by_cases c6 : q.kind = 6
    · rw [c6]; simp only [if_true, show ¬ (6 : Int) = 2 by decide, show ¬ (6 : Int) = 3 by decide, show ¬ (6 : Int) = 4 by decide, show ¬ (6 : Int) = 5 by decide, if_false]
      rw [all_iff_count]
    by_cases c7 : q.kind = 7
    · rw [c7]; simp only [if_true, show ¬ (7 : Int) = 2 by decide, show ¬ (7 : Int) = 3 by decide, show ¬ (7 : Int) = 4 by decide, show ¬ (7 : Int) = 5 by decide, show ¬ (7 : Int) = 6 by decide, if_false]
      rw [any_iff_count]
    by_cases c8 : q.kind = 8
    · obtain ⟨p, hp⟩ := t8 c8
      rw [c8]; simp only [if_true, show ¬ (8 : Int) = 2 by decide, show ¬ (8 : Int) = 3 by decide, show ¬ (8 : Int) = 4 by decide, show ¬ (8 : Int) = 5 by decide, show ¬ (8 : Int) = 6 by decide, show ¬ (8 : Int) = 7 by decide, if_false]
      rw [hp, List.headD_cons]
      cases hb : findsF f x p id <;> simp [hb]
    rw [if_neg c6, if_neg c7, if_neg c8, if_neg c6, if_neg c7, if_neg c8]
    by_cases c2 : q.kind = 2
    · obtain ⟨e1, e2⟩ := t1 (.inl c2)
      rw [c2]; simp only [if_true, show ¬ (2 : Int) = 1 by decide, show ¬ (2 : Int) = 3 by decide, show ¬ (2 : Int) = 5 by decide, if_false]
      rw [e1]
      exact (word_eq hc h id (word_ne e2).2).symm
    by_cases c3 : q.kind = 3
    · obtain ⟨e1, e2⟩ := t1 (.inr c3)
      rw [c3]; simp only [if_true, show ¬ (3 : Int) = 1 by decide, show ¬ (3 : Int) = 2 by decide, if_false]
      exact (prefix_eq hc h id (word_ne e2).1).symm
    by_cases c4 : q.kind = 4
    · have e := t4 c4
      rw [c4]; simp only [if_true, show ¬ (4 : Int) = 1 by decide, show ¬ (4 : Int) = 3 by decide, show ¬ (4 : Int) = 2 by decide, show ¬ (4 : Int) = 5 by decide, if_false]
      exact (phrase_eq hc h id (splitS_ne _) fun w hw => (word_ne (e w hw)).2).symm
    by_cases c5 : q.kind = 5
    · obtain ⟨a, b, e, e1, e2⟩ := t5 c5
      rw [c5]; simp only [if_true, show ¬ (5 : Int) = 1 by decide, show ¬ (5 : Int) = 3 by decide, show ¬ (5 : Int) = 2 by decide, show ¬ (5 : Int) = 4 by decide, if_false]
      rw [e]
      exact (near_eq hc h id (word_ne e1).2 (word_ne e2).2 _).symm
    have c1 : q.kind = 1 := by omega
    rw [c1]; simp
def foundM (x : Ix.Idx) (q : Q) : List Int := x.1.filter fun id => matchesF 8 q (docF x id)
theorem foundM_eq {x : Ix.Idx} (hc : Ix.Canon x) (h : plainF x = true) {q : Q} (hq : (fault q).1 = 0) : foundM x q = foundF x q := by
  have hg := fault_zero.1 hq
  exact List.filter_congr fun id _ => matches_eq hc h id 8 q hg.1 hg.2.2
end Sr
end Go.Proofs.YtfjpedgddgbelaaGreatDoor
/-
  (search.finder).finds.
-/
namespace Go.Proofs.YtfjpedgddgbelaaGreatDoor
open Go.RowKit
set_option linter.unusedVariables false
set_option maxHeartbeats 2000000 in
theorem part_ok (gF gI : Nat) (a b : Value) (ha : ∃ A n c, a = .slice A n c) (hb' : ∃ A n c, b = .slice A n c) (id k n : Int) (t : Str) (A : Option Addr) (m c : Nat) (r : Bool) (w : World) (kF : Blk w gF 110 #[a, b]) (kI : Blk w gI 3 #[.int .i64 id])
    (hfin : ∀ V, Below w.heap.size w V → Calls Tryz.prog 127 #[.agg #[a, b], .agg #[.int .i64 k, .string (bs t), .int .i64 n, .slice A m c], .int .i64 id] V fun e w' => e = .returned (.bool r) ∧ Below V.heap.size V w') :
    Calls Tryz.prog 166 #[.agg #[.int .i64 k, .string (bs t), .int .i64 n, .slice A m c], .pointer (some ⟨gF, 0, none⟩), .pointer (some ⟨gI, 0, none⟩)] w fun e w' => e = .returned (.bool r) ∧ Below w.heap.size w w' := by
  obtain ⟨A0, n0, c0, rfl⟩ := ha
  obtain ⟨A1, n1, c1, rfl⟩ := hb'
  obtain ⟨W, g, hW, hg, hs, kb, hal⟩ := boxA w #[.int .i64 k, .string (bs t), .int .i64 n, .slice A m c] 50
  obtain ⟨p0, p1, p2, p3, _⟩ := kb.four
  obtain ⟨f0, f1, _, _, _⟩ := (kF.ext hal).two
  obtain ⟨i0, _, _⟩ := (kI.ext hal).one
  have hc := hfin W hal
  have HW := Lib.hid hW; have Hc := Lib.hid hc
  rw [← hW] at p0 p1 p2 p3 f0 f1 i0
  clear hW hc hfin kF kI kb
  go_enter Tryz.func166, Tryz.ntmps166
  go_wp2_with fail
  rw [HW.out]
  refine Hc.out.mono ?_
  rintro e w2 ⟨rfl, hb2⟩
  clear p0 p1 p2 p3 f0 f1 i0
  go_wp2_with fail
  go_ret
  exact ⟨rfl, hal.trans (hb2.mono hal.size)⟩
set_option maxHeartbeats 2000000 in
theorem notpart_ok (gP gF gI : Nat) (k n : Int) (t : Str) (A : Option Addr) (m c : Nat) (r : Bool) (w : World) (kP : Blk w gP 67 #[.func (.func 166) #[] #[.pointer (some ⟨gF, 0, none⟩), .pointer (some ⟨gI, 0, none⟩)]])
    (hpart : ∀ V, Below w.heap.size w V → Calls Tryz.prog 166 #[.agg #[.int .i64 k, .string (bs t), .int .i64 n, .slice A m c], .pointer (some ⟨gF, 0, none⟩), .pointer (some ⟨gI, 0, none⟩)] V fun e w' => e = .returned (.bool r) ∧ Below V.heap.size V w') :
    Calls Tryz.prog 173 #[.agg #[.int .i64 k, .string (bs t), .int .i64 n, .slice A m c], .pointer (some ⟨gP, 0, none⟩)] w fun e w' => e = .returned (.bool (!r)) ∧ Below w.heap.size w w' := by
  obtain ⟨W, g, hW, hg, hs, kb, hal⟩ := boxA w #[.int .i64 k, .string (bs t), .int .i64 n, .slice A m c] 50
  obtain ⟨p0, p1, p2, p3, _⟩ := kb.four
  obtain ⟨f0, _, _⟩ := (kP.ext hal).one
  have hc := hpart W hal
  have HW := Lib.hid hW; have Hc := Lib.hid hc
  rw [← hW] at p0 p1 p2 p3 f0
  clear hW hc hpart kP kb
  go_enter Tryz.func173, Tryz.ntmps173
  go_wp2_with fail
  rw [HW.out]
  refine Hc.out.mono ?_
  rintro e w2 ⟨rfl, hb2⟩
  clear p0 p1 p2 p3 f0
  go_wp2_with fail
  go_ret
  exact ⟨rfl, hal.trans (hb2.mono hal.size)⟩
set_option maxRecDepth 100000 in
set_option maxHeartbeats 8000000 in
theorem finds_ok (a b : Value) (x : Ix.Idx) (id : Int) (hc : Ix.Canon x) : ∀ (f : Nat) (q : Q) (v : Value) (w : World), SlR intC M0 w a x.1 → SlR termC M0 w b x.2 → QAt f M0 w v q → q.bulk ≤ 4000000 → (∀ p ∈ Q.pre (f + 1) q, Q.errOf p = 0) →
    Calls Tryz.prog 127 #[.agg #[a, b], v, .int .i64 id] w fun e w' => e = .returned (.bool (Sr.findsF (f + 1) x q id)) ∧ Below w.heap.size w w' := by
  intro f
  induction f using Nat.strongRecOn with | _ f ih => ?_
  intro q v w h0 h1 hq hbk hok
  have hself := hok q (by rw [Q.pre]; exact .head _)
  have hparts : ∀ p ∈ q.parts, ∀ r ∈ Q.pre f p, Q.errOf r = 0 := fun p hp r hr => hok r (by rw [Q.pre]; exact .tail _ (List.mem_flatMap.2 ⟨p, hp, hr⟩))
  have hpb : ∀ p ∈ q.parts, p.bulk ≤ 4000000 := fun p hp => by have := Q.bulks_mem hp; have := Q.bulk_eq q; omega
  have htl : q.text.length ≤ 4000000 := by have := Q.bulk_eq q; omega
  obtain ⟨⟨k1, k8⟩, t1, t4, t5, t8⟩ := Sr.node_text hself
  have hkinds := kinds ⟨k1, k8⟩
  obtain ⟨A0, c0, rfl, _, _⟩ := h0.form
  obtain ⟨A1, c1, rfl, _, _⟩ := h1.form
  have hfind : ∀ (p : Q) (g : Nat) (A2 : Option Addr) (c2 : Nat) (V : World), p ∈ q.parts → f = g + 1 → Below w.heap.size w V → QAt g M0 V (.agg #[.int .i64 p.kind, .string (bs p.text), .int .i64 p.num, .slice A2 p.parts.length c2]) p →
      Calls Tryz.prog 127 #[.agg #[.slice A0 x.1.length c0, .slice A1 x.2.length c1], .agg #[.int .i64 p.kind, .string (bs p.text), .int .i64 p.num, .slice A2 p.parts.length c2], .int .i64 id] V fun e w' => e = .returned (.bool (Sr.findsF f x p id)) ∧ Below V.heap.size V w' := fun p g A2 c2 V hp hfg hb hqa => by
    subst hfg
    exact ih g (by omega) p _ V (h0.ext hb) (h1.ext hb) hqa (hpb p hp) (hparts p hp)
  obtain ⟨A, c, rfl, _, htm, _, hv⟩ := hq
  obtain ⟨k, t, n, ps⟩ := q
  simp only [Q.kind_node, Q.text_node, Q.num_node, Q.parts_node] at hv t1 t4 t5 t8 hkinds hfind htl htm ⊢
  obtain ⟨W, hW, kF, kQ, kI, kP, hal, hsW⟩ := box4 w #[.slice A0 x.1.length c0, .slice A1 x.2.length c1] #[.int .i64 k, .string (bs t), .int .i64 n, .slice A ps.length c] #[.int .i64 id] #[.func (.func 166) #[] #[.pointer (some ⟨w.heap.size, 0, none⟩), .pointer (some ⟨w.heap.size + 1 + 1, 0, none⟩)]] 110 50 3 67
  have hsp := split_ok M0 t W htl (fun b h => h.elim)
  obtain ⟨p0, p1, p2, p3, _⟩ := kQ.four
  have hres : Sr.findsF (f + 1) x (.node k t n ps) id = if k = 2 then decide (0 < (Sr.places x t id).length) else if k = 3 then Sr.prefixF x t id else if k = 4 then Sr.phraseF x (splitS t) id else if k = 5 then Sr.nearF x ((splitS t).headD []) ((splitS t).getD 1 []) n id else if k = 6 then !(ps.any fun p => !Sr.findsF f x p id) else if k = 7 then ps.any fun p => Sr.findsF f x p id else if k = 8 then !Sr.findsF f x (ps.headD (.node 0 [] 0 [])) id else true := by rw [Sr.findsF]; rfl
  have hspl := splitS_ne t
  have hspn : (splitS t).length ≤ 4000000 := by rw [splitS_len]; have := List.count_le_length (a := (32 : UInt8)) (l := t); have := Q.bulk_eq (.node k t n ps); simp only [Q.text_node, Q.parts_node] at this; omega
  have hspm : ∀ y ∈ splitS t, y.length ≤ maxLen := fun y hy => by have := (splitS_mem t y hy).2; omega
  obtain ⟨l, hl⟩ : ∃ l, splitS t = l := ⟨_, rfl⟩
  rw [hl] at hsp hres hspl hspn hspm t1 t4 t5
  obtain ⟨res, hr⟩ : ∃ r, Sr.findsF (f + 1) x (.node k t n ps) id = r := ⟨_, rfl⟩
  rw [hr] at hres ⊢
  have HW := Lib.hid hW; have Hsp := Lib.hid hsp; have Hres := Lib.hid hres; have Hfind := Lib.hid hfind; have Ht := Lib.hid (And.intro t5 (And.intro t8 (And.intro hspl (And.intro hspn hspm)))); have Hal := Lib.hid hal
  rw [← hW] at p1
  clear hW hsp hres hfind t1 t4 t5 t8 hspl hspn hspm hl hr hal hsW p0 p2 p3 hself hparts hpb hok hbk k1 k8 ih
  go_enter Tryz.func127, Tryz.ntmps127
  go_wp2_with fail
  rw [HW.out]
  refine Hsp.out.mono ?_
  rintro e w2 ⟨v2, rfl, hown, hb2⟩
  obtain ⟨W2, rfl⟩ : ∃ W2, W2 = w2 := ⟨_, rfl⟩
  have hl := hown.read0
  obtain ⟨A3, c3, rfl, hlc3, hcm3⟩ := hl.form
  unfold maxLen at hcm3
  have hal := Hal.out
  have hb02 := hal.trans (hb2.mono hal.size)
  replace kF := kF.ext hb2
  replace kQ := kQ.ext hb2
  replace kI := kI.ext hb2
  replace kP := kP.ext hb2
  replace h0 := h0.ext hb02
  replace h1 := h1.ext hb02
  replace hv := hv.ext hb02
  clear p1 hal Hal Hsp HW hown hb2
  -- what a part answers
  have hpart : ∀ (p : Q) (g : Nat) (A2 : Option Addr) (c2 : Nat) (V : World), p ∈ ps → f = g + 1 → Below W2.heap.size W2 V → QAt g M0 V (.agg #[.int .i64 p.kind, .string (bs p.text), .int .i64 p.num, .slice A2 p.parts.length c2]) p →
      Calls Tryz.prog 166 #[.agg #[.int .i64 p.kind, .string (bs p.text), .int .i64 p.num, .slice A2 p.parts.length c2], .pointer (some ⟨w.heap.size, 0, none⟩), .pointer (some ⟨w.heap.size + 1 + 1, 0, none⟩)] V fun e w' => e = .returned (.bool (Sr.findsF f x p id)) ∧ Below V.heap.size V w' := fun p g A2 c2 V hp hfg hb hqa =>
    part_ok w.heap.size (w.heap.size + 1 + 1) _ _ ⟨_, _, _, rfl⟩ ⟨_, _, _, rfl⟩ id p.kind p.num p.text A2 p.parts.length c2 _ V (kF.ext hb) (kI.ext hb) fun V' hb' => Hfind.out p g A2 c2 V' hp hfg (hb02.trans ((hb.trans (hb'.mono hb.size)).mono hb02.size)) (hqa.ext hb')
  have Hpart := Lib.hid hpart; have Hb02 := Lib.hid hb02; have Hcc := Lib.hid (And.intro hlc3 hcm3)
  obtain ⟨n0, hn0⟩ : ∃ m, x.1.length = m := ⟨_, rfl⟩
  obtain ⟨n1, hn1⟩ : ∃ m, x.2.length = m := ⟨_, rfl⟩
  obtain ⟨p0, p1, p2, p3, _⟩ := kQ.four
  obtain ⟨i0, _, _⟩ := kI.one
  obtain ⟨m0, _, _⟩ := kP.one
  have fin : ∀ (w3 : World), Below W2.heap.size W2 w3 → Below w.heap.size w w3 := fun w3 hb => hb02.trans (hb.mono hb02.size)
  have Fin := Lib.hid fin
  clear hpart hb02 fin Hfind hlc3 hcm3
  rcases hkinds with rfl | rfl | rfl | rfl | rfl | rfl | rfl | rfl
  · -- all
    have hr : res = true := Hres.out
    go_wp2_with fail
    go_ret
    exact ⟨ret_bool hr.symm, Fin.out _ (Below.refl _ _)⟩
  · -- a word
    have hr : res = decide (0 < (Sr.places x t id).length) := Hres.out
    have hpl := places_ok (.slice A0 x.1.length c0) (.slice A1 x.2.length c1) x t id W2 h0 h1 hc htm
    obtain ⟨pl, hpe⟩ : ∃ p, Sr.places x t id = p := ⟨_, rfl⟩
    rw [hpe] at hpl hr
    have Hr := Lib.hid hr
    clear hr
    rw [hn0, hn1] at hpl kF ⊢
    obtain ⟨f0, f1, _, _, _⟩ := kF.two
    have Hpl := Lib.hid hpl
    clear hpl h0 h1 hv hl hpe
    go_wp2_with fail
    refine Hpl.out.mono ?_
    rintro e w3 ⟨v3, rfl, hv3, hb3⟩
    obtain ⟨A5, c5, rfl, _, _⟩ := hv3.form
    have ed : decide ((0 : Int) < (pl.length : Int)) = decide (0 < pl.length) := by simp
    clear f0 f1 p0 p1 p2 p3 i0 m0
    go_wp2_with fail
    go_ret
    exact ⟨ret_bool (by rw [Hr.out]), Fin.out _ hb3⟩
  · -- a prefix
    have hr : res = Sr.prefixF x t id := Hres.out
    have hpl := prefix_ok (.slice A0 x.1.length c0) (.slice A1 x.2.length c1) x t id W2 h1 ⟨_, _, _, rfl⟩
    obtain ⟨pl, hpe⟩ : ∃ p, Sr.prefixF x t id = p := ⟨_, rfl⟩
    rw [hpe] at hpl hr
    have Hr := Lib.hid hr
    clear hr
    rw [hn0, hn1] at hpl kF ⊢
    obtain ⟨f0, f1, _, _, _⟩ := kF.two
    have Hpl := Lib.hid hpl
    clear hpl h0 h1 hv hl hpe
    go_wp2_with fail
    refine Hpl.out.mono ?_
    rintro e w3 ⟨rfl, hb3⟩
    clear f0 f1 p0 p1 p2 p3 i0 m0
    go_wp2_with fail
    go_ret
    exact ⟨ret_bool (by rw [Hr.out]), Fin.out _ hb3⟩
  · -- a phrase
    have hr : res = Sr.phraseF x l id := Hres.out
    have hpl := phrase_ok (.slice A0 x.1.length c0) (.slice A1 x.2.length c1) (.slice A3 l.length c3) x l id W2 h0 h1 hc hl (List.length_pos_iff.2 Ht.out.2.2.1) Ht.out.2.2.2.1
    obtain ⟨pl, hpe⟩ : ∃ p, Sr.phraseF x l id = p := ⟨_, rfl⟩
    rw [hpe] at hpl hr
    have Hr := Lib.hid hr
    clear hr
    rw [hn0, hn1] at hpl kF ⊢
    obtain ⟨f0, f1, _, _, _⟩ := kF.two
    have Hpl := Lib.hid hpl
    clear hpl h0 h1 hv hl hpe
    go_wp2_with fail
    refine Hpl.out.mono ?_
    rintro e w3 ⟨rfl, hb3⟩
    clear f0 f1 p0 p1 p2 p3 i0 m0
    go_wp2_with fail
    go_ret
    exact ⟨ret_bool (by rw [Hr.out]), Fin.out _ hb3⟩
  · -- two words near one another
    obtain ⟨y0, y1, hy, _, _⟩ := Ht.out.1 rfl
    have hr : res = Sr.nearF x (l.headD []) (l.getD 1 []) n id := Hres.out
    have hmx := Ht.out.2.2.2.2
    rw [hy] at hl hmx hr ⊢
    have e0 : ([y0, y1] : List Str).headD [] = y0 := rfl
    have e1 : ([y0, y1] : List Str).getD 1 [] = y1 := rfl
    rw [e0, e1] at hr
    have hpl := fun V (hb : Below W2.heap.size W2 V) => near_ok (.slice A0 x.1.length c0) (.slice A1 x.2.length c1) x y0 y1 n id V (h0.ext hb) (h1.ext hb) hc (hmx _ (by simp)) (hmx _ (by simp))
    obtain ⟨pl, hpe⟩ : ∃ p, Sr.nearF x y0 y1 n id = p := ⟨_, rfl⟩
    rw [hpe] at hr
    have Hr := Lib.hid hr
    clear hr
    simp only [hpe] at hpl
    rw [hn0, hn1] at kF ⊢
    simp only [hn0, hn1] at hpl
    obtain ⟨bl, ol, hA3, _, _, s0, _⟩ := hl.strAt (k := 0) (by simp)
    obtain ⟨bl', ol', hA3', _, _, s1, _⟩ := hl.strAt (k := 1) (by simp)
    subst hA3
    injection hA3' with hA3'
    injection hA3' with hA4 hA5
    subst hA4 hA5
    have s0' : W2.cell? ⟨bl, ol, none⟩ = some (.string (bs y0)) := s0
    have s1' : W2.cell? ⟨bl, ol + 1, none⟩ = some (.string (bs y1)) := s1
    have hSS : ∀ W', Below W2.heap.size W2 W' → W'.cell? ⟨w.heap.size, 0, none⟩ = some (.slice A0 n0 c0) ∧ W'.cell? ⟨w.heap.size, 1, none⟩ = some (.slice A1 n1 c1) ∧ W'.cell? ⟨w.heap.size + 1, 2, none⟩ = some (.int .i64 n) ∧ W'.cell? ⟨w.heap.size + 1 + 1, 0, none⟩ = some (.int .i64 id) ∧ W'.cell? ⟨bl, ol, none⟩ = some (.string (bs y0)) ∧ W'.cell? ⟨bl, ol + 1, none⟩ = some (.string (bs y1)) := fun W' hb =>
      ⟨(kF.ext hb).two.1, (kF.ext hb).two.2.1, (kQ.ext hb).four.2.2.1, (kI.ext hb).one.1, (hb.cell (World.block_lt_of_cell? W2 _ s0')).trans s0', (hb.cell (World.block_lt_of_cell? W2 _ s1')).trans s1'⟩
    have HS := Lib.hid hSS; have Hn := Lib.hid hpl
    have hlen : ([y0, y1] : List Str).length = 2 := rfl
    rw [hlen]
    clear hpl h0 h1 hv hl hpe hSS s0 s1 s0' s1' hmx e0 e1 hlen kF kQ kI kP i0 m0 hy
    go_wp2_with fail
    have hS := HS.out _ (below_drewN' W2.heap.size W2 1)
    clear p0 p1 p2 p3
    refine wp_region_D (fun W => W.cell? ⟨w.heap.size, 0, none⟩ = some (.slice A0 n0 c0) ∧ W.cell? ⟨w.heap.size, 1, none⟩ = some (.slice A1 n1 c1) ∧ W.cell? ⟨w.heap.size + 1, 2, none⟩ = some (.int .i64 n) ∧ W.cell? ⟨w.heap.size + 1 + 1, 0, none⟩ = some (.int .i64 id) ∧ W.cell? ⟨bl, ol, none⟩ = some (.string (bs y0)) ∧ W.cell? ⟨bl, ol + 1, none⟩ = some (.string (bs y1))) (fun _ => false) (by kernel_rfl) ?_
    change anyD _ _ _ _ _ _ _ _ _ (W2.drewN 1)
    have hbV := below_drewN' W2.heap.size W2 1
    generalize W2.drewN 1 = V0 at hS hbV ⊢
    (refine anyD_light (i := 0) (v := ?_) rfl (by kernel_rfl) (by kernel_rfl) (by kernel_rfl) (by kernel_rfl) (by kernel_rfl) (fun _ _ _ h => h) (.inl ⟨by kernel_rfl, fun W9 hW9 => ?_⟩) hS ?_; rotate_left; · (obtain ⟨hw0, hw1, hw2, hw3, hw4, hw5⟩ := hW9; go_simp; rfl))
    (refine anyD_light (i := 1) (v := ?_) rfl (by kernel_rfl) (by kernel_rfl) (by kernel_rfl) (by kernel_rfl) (by kernel_rfl) (fun _ _ _ h => h) (.inl ⟨by kernel_rfl, fun W9 hW9 => ?_⟩) hS ?_; rotate_left; · (obtain ⟨hw0, hw1, hw2, hw3, hw4, hw5⟩ := hW9; go_simp; rfl))
    (refine anyD_light (i := 2) (v := ?_) rfl (by kernel_rfl) (by kernel_rfl) (by kernel_rfl) (by kernel_rfl) (by kernel_rfl) (fun _ _ _ h => h) (.inl ⟨by kernel_rfl, fun W9 hW9 => ?_⟩) hS ?_; rotate_left; · (obtain ⟨hw0, hw1, hw2, hw3, hw4, hw5⟩ := hW9; go_simp; rfl))
    (refine anyD_light (i := 3) (v := ?_) rfl (by kernel_rfl) (by kernel_rfl) (by kernel_rfl) (by kernel_rfl) (by kernel_rfl) (fun _ _ _ h => h) (.inl ⟨by kernel_rfl, fun W9 hW9 => ?_⟩) hS ?_; rotate_left; · (obtain ⟨hw0, hw1, hw2, hw3, hw4, hw5⟩ := hW9; go_simp; rfl))
    (refine anyD_light (i := 4) (v := ?_) rfl (by kernel_rfl) (by kernel_rfl) (by kernel_rfl) (by kernel_rfl) (by kernel_rfl) (fun _ _ _ h => h) (.inl ⟨by kernel_rfl, fun W9 hW9 => ?_⟩) hS ?_; rotate_left; · (obtain ⟨hw0, hw1, hw2, hw3, hw4, hw5⟩ := hW9; go_simp; rfl))
    (refine anyD_light (i := 5) (v := ?_) rfl (by kernel_rfl) (by kernel_rfl) (by kernel_rfl) (by kernel_rfl) (by kernel_rfl) (fun _ _ _ h => h) (.inl ⟨by kernel_rfl, fun W9 hW9 => ?_⟩) hS ?_; rotate_left; · (obtain ⟨hw0, hw1, hw2, hw3, hw4, hw5⟩ := hW9; go_simp; rfl))
    go_simp
    (refine anyD_light (i := 6) (v := ?_) rfl (by kernel_rfl) (by kernel_rfl) (by kernel_rfl) (by kernel_rfl) (by kernel_rfl) (fun _ _ _ h => h) (.inl ⟨by kernel_rfl, fun W9 hW9 => ?_⟩) hS ?_; rotate_left; · (obtain ⟨hw0, hw1, hw2, hw3, hw4, hw5⟩ := hW9; go_simp; rfl))
    (refine anyD_light (i := 7) (v := ?_) rfl (by kernel_rfl) (by kernel_rfl) (by kernel_rfl) (by kernel_rfl) (by kernel_rfl) (fun _ _ _ h => h) (.inl ⟨by kernel_rfl, fun W9 hW9 => ?_⟩) hS ?_; rotate_left; · (obtain ⟨hw0, hw1, hw2, hw3, hw4, hw5⟩ := hW9; go_simp; rfl))
    (refine anyD_light (i := 8) (v := ?_) rfl (by kernel_rfl) (by kernel_rfl) (by kernel_rfl) (by kernel_rfl) (by kernel_rfl) (fun _ _ _ h => h) (.inl ⟨by kernel_rfl, fun W9 hW9 => ?_⟩) hS ?_; rotate_left; · (obtain ⟨hw0, hw1, hw2, hw3, hw4, hw5⟩ := hW9; go_simp; rfl))
    (refine anyD_light (i := 9) (v := ?_) rfl (by kernel_rfl) (by kernel_rfl) (by kernel_rfl) (by kernel_rfl) (by kernel_rfl) (fun _ _ _ h => h) (.inl ⟨by kernel_rfl, fun W9 hW9 => ?_⟩) hS ?_; rotate_left; · (obtain ⟨hw0, hw1, hw2, hw3, hw4, hw5⟩ := hW9; go_simp; rfl))
    go_simp
    refine anyD_one (i := 10) (by kernel_rfl) rfl rfl (fun K hK => ?_)
    have HK := Lib.hid hK
    clear hK
    unfold Oper.wp
    go_simp
    refine ((Hn.out V0 hbV)).mono ?_
    rintro e w3 ⟨rfl, hb3⟩
    replace hbV := hbV.trans (hb3.mono hbV.size)
    clear hb3 hS
    have hS := HS.out _ hbV
    refine HK.out _ _ (fun _ => hS) ?_
    clear HK
    (refine anyD_light (i := 11) (v := ?_) rfl (by kernel_rfl) (by kernel_rfl) (by kernel_rfl) (by kernel_rfl) (by kernel_rfl) (fun _ _ _ h => h) (.inl ⟨by kernel_rfl, fun W9 hW9 => ?_⟩) hS ?_; rotate_left; · (obtain ⟨hw0, hw1, hw2, hw3, hw4, hw5⟩ := hW9; go_simp; rfl))
    go_simp
    refine anyD_done (by kernel_rfl) ?_ _
    clear hS
    go_wp2
    go_ret
    exact ⟨ret_bool (by rw [Hr.out]), Fin.out _ hbV⟩
  · -- a conjunction
    have hr : res = !(ps.any fun p => !Sr.findsF f x p id) := Hres.out
    have hpl := queryCont_ok 173 #[.pointer (some ⟨w.heap.size + 1 + 1 + 1, 0, none⟩)] f (fun p => !Sr.findsF f x p id) ps (.slice A ps.length c) W2 hv (fun args w => enters_of Tryz.func173 (by kernel_rfl) rfl args w)
      (fun p g A2 c2 w1 hp hb1 hfg hqa => by
        have := notpart_ok (w.heap.size + 1 + 1 + 1) w.heap.size (w.heap.size + 1 + 1) p.kind p.num p.text A2 p.parts.length c2 _ w1 (kP.ext hb1) fun V hb => Hpart.out p g A2 c2 V hp hfg (hb1.trans (hb.mono hb1.size)) (hqa.ext hb)
        simpa using this)
    obtain ⟨pl, hpe⟩ : ∃ r, (ps.any fun p => !Sr.findsF f x p id) = r := ⟨_, rfl⟩
    rw [hpe] at hpl hr
    have Hr := Lib.hid hr
    clear hr
    have Hpl := Lib.hid hpl
    clear hpl h0 h1 hv hl hpe
    go_wp2_with fail
    refine Hpl.out.mono ?_
    rintro e w3 ⟨rfl, hb3⟩
    clear p0 p1 p2 p3 i0 m0
    go_wp2_with fail
    go_ret
    exact ⟨ret_bool (by rw [Hr.out]), Fin.out _ hb3⟩
  · -- a disjunction
    have hr : res = ps.any fun p => Sr.findsF f x p id := Hres.out
    have hpl := queryCont_ok 166 #[.pointer (some ⟨w.heap.size, 0, none⟩), .pointer (some ⟨w.heap.size + 1 + 1, 0, none⟩)] f (fun p => Sr.findsF f x p id) ps (.slice A ps.length c) W2 hv (fun args w => enters_of Tryz.func166 (by kernel_rfl) rfl args w)
      (fun p g A2 c2 w1 hp hb1 hfg hqa => by
        have := Hpart.out p g A2 c2 w1 hp hfg hb1 hqa
        simpa using this)
    obtain ⟨pl, hpe⟩ : ∃ r, (ps.any fun p => Sr.findsF f x p id) = r := ⟨_, rfl⟩
    rw [hpe] at hpl hr
    have Hr := Lib.hid hr
    clear hr
    have Hpl := Lib.hid hpl
    clear hpl h0 h1 hv hl hpe
    go_wp2_with fail
    refine Hpl.out.mono ?_
    rintro e w3 ⟨rfl, hb3⟩
    clear p0 p1 p2 p3 i0 m0
    go_wp2_with fail
    go_ret
    exact ⟨ret_bool (by rw [Hr.out]), Fin.out _ hb3⟩
  · -- a negation
    obtain ⟨p, hp⟩ := Ht.out.2.1 rfl
    have hr : res = !Sr.findsF f x (ps.headD (.node 0 [] 0 [])) id := Hres.out
    subst hp
    obtain ⟨bp, op, g, A4, c4, rfl, hfg, _, hbp, s0, s1, s2, s3, hqa⟩ := hv.qAt (k := 0) (by simp)
    have hh : ([p] : List Q).headD (.node 0 [] 0 []) = p := rfl
    rw [hh] at hr
    have hg0 : ([p] : List Q)[0] = p := rfl
    rw [hg0] at s0 s1 s2 s3 hqa
    have s0' : W2.cell? ⟨bp, op, none⟩ = some (.int .i64 p.kind) := by simpa using s0
    have s1' : W2.cell? ⟨bp, op + 1, none⟩ = some (.string (bs p.text)) := by simpa using s1
    have s2' : W2.cell? ⟨bp, op + 2, none⟩ = some (.int .i64 p.num) := by simpa using s2
    have s3' : W2.cell? ⟨bp, op + 3, none⟩ = some (.slice A4 p.parts.length c4) := by simpa using s3
    have hpl := fun V (hb : Below W2.heap.size W2 V) => Hpart.out p g A4 c4 V (by simp) hfg hb (hqa.ext hb)
    obtain ⟨pk, hpk⟩ : ∃ r, p.kind = r := ⟨_, rfl⟩
    obtain ⟨pt, hpt⟩ : ∃ r, p.text = r := ⟨_, rfl⟩
    obtain ⟨pn, hpn⟩ : ∃ r, p.num = r := ⟨_, rfl⟩
    obtain ⟨pl, hpll⟩ : ∃ r, p.parts.length = r := ⟨_, rfl⟩
    obtain ⟨rr, hrr⟩ : ∃ r, Sr.findsF f x p id = r := ⟨_, rfl⟩
    simp only [hpk, hpt, hpn, hpll, hrr] at hpl
    rw [hpk] at s0'
    rw [hpt] at s1'
    rw [hpn] at s2'
    rw [hpll] at s3'
    rw [hrr] at hr
    have Hr := Lib.hid hr
    clear hr
    have hlen : ([p] : List Q).length = 1 := rfl
    rw [hlen] at kQ p3 ⊢
    have hSS : ∀ W', Below W2.heap.size W2 W' → W'.cell? ⟨w.heap.size + 1 + 1 + 1, 0, none⟩ = some (.func (.func 166) #[] #[.pointer (some ⟨w.heap.size, 0, none⟩), .pointer (some ⟨w.heap.size + 1 + 1, 0, none⟩)]) ∧ W'.cell? ⟨w.heap.size + 1, 3, none⟩ = some (.slice (some ⟨bp, op, none⟩) 1 c) ∧ W'.cell? ⟨bp, op, none⟩ = some (.int .i64 pk) ∧ W'.cell? ⟨bp, op + 1, none⟩ = some (.string (bs pt)) ∧ W'.cell? ⟨bp, op + 2, none⟩ = some (.int .i64 pn) ∧ W'.cell? ⟨bp, op + 3, none⟩ = some (.slice A4 pl c4) := fun W' hb =>
      ⟨(kP.ext hb).one.1, (kQ.ext hb).four.2.2.2.1, (hb.cell (p := ⟨bp, op, none⟩) hbp).trans s0', (hb.cell (p := ⟨bp, op + 1, none⟩) hbp).trans s1', (hb.cell (p := ⟨bp, op + 2, none⟩) hbp).trans s2', (hb.cell (p := ⟨bp, op + 3, none⟩) hbp).trans s3'⟩
    have HS := Lib.hid hSS; have Hn := Lib.hid hpl
    clear hpl h0 h1 hv hl hSS s0 s1 s2 s3 s0' s1' s2' s3' hqa hh hg0 hlen hpk hpt hpn hpll hrr kF kQ kI kP i0 m0 p1 p2
    go_wp2_with fail
    have hS := HS.out _ (below_drewN' W2.heap.size W2 1)
    clear p0 p3
    refine wp_region_D (fun W => W.cell? ⟨w.heap.size + 1 + 1 + 1, 0, none⟩ = some (.func (.func 166) #[] #[.pointer (some ⟨w.heap.size, 0, none⟩), .pointer (some ⟨w.heap.size + 1 + 1, 0, none⟩)]) ∧ W.cell? ⟨w.heap.size + 1, 3, none⟩ = some (.slice (some ⟨bp, op, none⟩) 1 c) ∧ W.cell? ⟨bp, op, none⟩ = some (.int .i64 pk) ∧ W.cell? ⟨bp, op + 1, none⟩ = some (.string (bs pt)) ∧ W.cell? ⟨bp, op + 2, none⟩ = some (.int .i64 pn) ∧ W.cell? ⟨bp, op + 3, none⟩ = some (.slice A4 pl c4)) (fun _ => false) (by kernel_rfl) ?_
    change anyD _ _ _ _ _ _ _ _ _ (W2.drewN 1)
    have hbV := below_drewN' W2.heap.size W2 1
    generalize W2.drewN 1 = V0 at hS hbV ⊢
    (refine anyD_light (i := 0) (v := ?_) rfl (by kernel_rfl) (by kernel_rfl) (by kernel_rfl) (by kernel_rfl) (by kernel_rfl) (fun _ _ _ h => h) (.inl ⟨by kernel_rfl, fun W9 hW9 => ?_⟩) hS ?_; rotate_left; · (obtain ⟨hw0, hw1, hw2, hw3, hw4, hw5⟩ := hW9; go_simp; rfl))
    (refine anyD_light (i := 1) (v := ?_) rfl (by kernel_rfl) (by kernel_rfl) (by kernel_rfl) (by kernel_rfl) (by kernel_rfl) (fun _ _ _ h => h) (.inl ⟨by kernel_rfl, fun W9 hW9 => ?_⟩) hS ?_; rotate_left; · (obtain ⟨hw0, hw1, hw2, hw3, hw4, hw5⟩ := hW9; go_simp; rfl))
    (refine anyD_light (i := 2) (v := ?_) rfl (by kernel_rfl) (by kernel_rfl) (by kernel_rfl) (by kernel_rfl) (by kernel_rfl) (fun _ _ _ h => h) (.inl ⟨by kernel_rfl, fun W9 hW9 => ?_⟩) hS ?_; rotate_left; · (obtain ⟨hw0, hw1, hw2, hw3, hw4, hw5⟩ := hW9; go_simp; rfl))
    (refine anyD_light (i := 3) (v := ?_) rfl (by kernel_rfl) (by kernel_rfl) (by kernel_rfl) (by kernel_rfl) (by kernel_rfl) (fun _ _ _ h => h) (.inl ⟨by kernel_rfl, fun W9 hW9 => ?_⟩) hS ?_; rotate_left; · (obtain ⟨hw0, hw1, hw2, hw3, hw4, hw5⟩ := hW9; go_simp; rfl))
    (refine anyD_light (i := 4) (v := ?_) rfl (by kernel_rfl) (by kernel_rfl) (by kernel_rfl) (by kernel_rfl) (by kernel_rfl) (fun _ _ _ h => h) (.inl ⟨by kernel_rfl, fun W9 hW9 => ?_⟩) hS ?_; rotate_left; · (obtain ⟨hw0, hw1, hw2, hw3, hw4, hw5⟩ := hW9; go_simp; rfl))
    go_simp
    refine anyD_one (i := 5) (by kernel_rfl) rfl rfl (fun K hK => ?_)
    have HK := Lib.hid hK
    clear hK
    unfold Oper.wp
    go_simp
    refine ((Hn.out V0 hbV)).mono ?_
    rintro e w3 ⟨rfl, hb3⟩
    replace hbV := hbV.trans (hb3.mono hbV.size)
    clear hb3 hS
    have hS := HS.out _ hbV
    refine HK.out _ _ (fun _ => hS) ?_
    clear HK
    (refine anyD_light (i := 6) (v := ?_) rfl (by kernel_rfl) (by kernel_rfl) (by kernel_rfl) (by kernel_rfl) (by kernel_rfl) (fun _ _ _ h => h) (.inl ⟨by kernel_rfl, fun W9 hW9 => ?_⟩) hS ?_; rotate_left; · (obtain ⟨hw0, hw1, hw2, hw3, hw4, hw5⟩ := hW9; go_simp; rfl))
    (refine anyD_light (i := 7) (v := ?_) rfl (by kernel_rfl) (by kernel_rfl) (by kernel_rfl) (by kernel_rfl) (by kernel_rfl) (fun _ _ _ h => h) (.inl ⟨by kernel_rfl, fun W9 hW9 => ?_⟩) hS ?_; rotate_left; · (obtain ⟨hw0, hw1, hw2, hw3, hw4, hw5⟩ := hW9; go_simp; rfl))
    go_simp
    refine anyD_done (by kernel_rfl) ?_ _
    clear hS
    go_wp2
    go_ret
    exact ⟨ret_bool (by rw [Hr.out]), Fin.out _ hbV⟩
end Go.Proofs.YtfjpedgddgbelaaGreatDoor
/-
  (search.finder).found: the iterator; search.Find.
-/
namespace Go.Proofs.YtfjpedgddgbelaaGreatDoor
open Go.RowKit
set_option linter.unusedVariables false
/-- What the iterator reads: the finder, the query. -/
structure FdAt (gF gQ f : Nat) (a b qv : Value) (qc : Array Value) (x : Ix.Idx) (q : Q) (w : World) : Prop where
  kF : Blk w gF 110 #[a, b]
  kQ : Blk w gQ 50 qc
  ids : SlR intC M0 w a x.1
  terms : SlR termC M0 w b x.2
  q : QAt f M0 w qv q
theorem FdAt.ext {gF gQ f : Nat} {a b qv : Value} {qc : Array Value} {x : Ix.Idx} {q : Q} {w w' : World} (h : FdAt gF gQ f a b qv qc x q w) (hb : Below w.heap.size w w') : FdAt gF gQ f a b qv qc x q w' :=
  ⟨h.kF.ext hb, h.kQ.ext hb, h.ids.ext hb, h.terms.ext hb, h.q.ext hb⟩
def fdFP (gF gQ f : Nat) (a b qv : Value) (qc : Array Value) (x : Ix.Idx) (q : Q) (S : Nat → Prop) (w : World) : Prop := ∃ w0, FdAt gF gQ f a b qv qc x q w0 ∧ Below w0.heap.size w0 w ∧ ∀ b, S b → w0.heap.size ≤ b
theorem fdFP.at {gF gQ f : Nat} {a b qv : Value} {qc : Array Value} {x : Ix.Idx} {q : Q} {S : Nat → Prop} {w : World} (h : fdFP gF gQ f a b qv qc x q S w) : FdAt gF gQ f a b qv qc x q w := by
  obtain ⟨w0, h1, h2, _⟩ := h
  exact h1.ext h2
theorem fdFP.ext {gF gQ f : Nat} {a b qv : Value} {qc : Array Value} {x : Ix.Idx} {q : Q} {S : Nat → Prop} {w w' : World} (h : fdFP gF gQ f a b qv qc x q S w) (hb : Below w.heap.size w w') : fdFP gF gQ f a b qv qc x q S w' := by
  obtain ⟨w0, h1, h2, h3⟩ := h
  exact ⟨w0, h1, h2.trans (hb.mono h2.size), h3⟩
theorem fdFP.chg {gF gQ f : Nat} {a b qv : Value} {qc : Array Value} {x : Ix.Idx} {q : Q} {S S' : Nat → Prop} {w w' : World} (h : fdFP gF gQ f a b qv qc x q S w) (hc : Chg S S' w w') : fdFP gF gQ f a b qv qc x q S' w' := by
  obtain ⟨w0, h1, h2, h3⟩ := h
  refine ⟨w0, h1, ⟨hc.os.trans h2.os, hc.tape.trans h2.tape, hc.output.trans h2.output, Nat.le_trans h2.size hc.size, fun b hb => ?_⟩, fun b hb => ?_⟩
  · exact (hc.same b (by have := h2.size; omega) fun hS => by have := h3 b hS; omega).trans (h2.block b hb)
  · have h4 := h2.size
    rcases (hc.own b hb).2 with h | h
    · exact h3 b h
    · omega
set_option maxRecDepth 100000 in
set_option maxHeartbeats 4000000 in
theorem found_iter (gF gQ f : Nat) (A0 A1 A : Option Addr) (n0 c0 n1 c1 m c : Nat) (k n : Int) (t : Str) (x : Ix.Idx) (q : Q) (hcan : Ix.Canon x) (hbk : q.bulk ≤ 4000000) (hok : ∀ p ∈ Q.pre (f + 1) q, Q.errOf p = 0) :
    Iter Tryz.prog 126 #[.pointer (some ⟨gF, 0, none⟩), .pointer (some ⟨gQ, 0, none⟩)] encI1 (x.1.filter fun id => Sr.findsF (f + 1) x q id) (fdFP gF gQ f (.slice A0 n0 c0) (.slice A1 n1 c1) (.agg #[.int .i64 k, .string (bs t), .int .i64 n, .slice A m c]) #[.int .i64 k, .string (bs t), .int .i64 n, .slice A m c] x q) := by
  intro ll J Jx S W hFP hS hJ hJx hY h0
  refine callsIn_of_wp Tryz.func126 rfl trivial ?_ rfl
  simp only [Tryz.ntmps126, List.size_toArray, List.length_cons, List.length_nil, Nat.reduceAdd, Nat.reduceSub, Array.replicate_succ, Array.replicate_zero, List.push_toArray, List.append_toArray, List.nil_append, List.cons_append]
  have hF1 : Fence.wide.fn 127 := trivial
  have hF3 : Fence.wide.depth = none := rfl
  have hF4 : Fence.wide.round = none := rfl
  obtain ⟨p, hp⟩ : ∃ p : Int → Bool, (fun id => Sr.findsF (f + 1) x q id) = p := ⟨_, rfl⟩
  have Hp := Lib.hid hp
  rw [hp] at hY ⊢
  have HY := Lib.hid hY; have HJ := Lib.hid hJ; have HJx := Lib.hid hJx; have HS := Lib.hid hS
  obtain ⟨R, hR⟩ : ∃ R, x.1.filter p = R := ⟨_, rfl⟩
  rw [hR] at HY ⊢
  have HR := Lib.hid hR
  have hfd := hFP.at
  obtain ⟨A0', c0', he, hlc, hcm⟩ := hfd.ids.form
  injection he with e1 e2 e3
  subst e1 e2 e3
  obtain ⟨f0, f1, _, _, _⟩ := hfd.kF.two
  unfold maxLen at hcm
  clear hY hJ hJx hS hR hp hfd
  gi_wp2
  clear f0 f1
  gi_loopw [10] (fun i wr => ∃ (pos kk : Nat) (T : Nat → Prop), i = .int .i64 (pos : Int) ∧ J kk T wr ∧ fdFP gF gQ f (.slice A0 x.1.length c0) (.slice A1 n1 c1) (.agg #[.int .i64 k, .string (bs t), .int .i64 n, .slice A m c]) #[.int .i64 k, .string (bs t), .int .i64 n, .slice A m c] x q T wr ∧ Hid (∀ b, T b → b < wr.heap.size) ∧ W.heap.size ≤ wr.heap.size ∧
      Hid (R = R.take kk ++ (x.1.drop pos).filter p) ∧ pos ≤ x.1.length ∧ kk ≤ R.length) (fun i _ => x.1.length - (intOf i).toNat)
  case atStart => exact ⟨0, 0, S, rfl, h0, hFP, HS, Nat.le_refl _, Lib.hid (by rw [List.drop_zero, HR.out]; rfl), by omega, by omega⟩
  case round =>
    obtain ⟨pos, kk, T, rfl, hj, hfp, hT, hsz, hrec, hpl, hkk⟩ := hrel
    have hfd := hfp.at
    obtain ⟨f0, f1, _, _, _⟩ := hfd.kF.two
    obtain ⟨p0, p1, p2, p3, _⟩ := hfd.kQ.four
    by_cases hlt : pos < x.1.length
    · obtain ⟨b, off, rfl, _, _, q0, hl1, hl2⟩ := hfd.ids.intAt hlt
      have hst : (x.1.drop pos).filter p = if p x.1[pos] then x.1[pos] :: (x.1.drop (pos + 1)).filter p else (x.1.drop (pos + 1)).filter p := by
        rw [List.drop_eq_getElem_cons hlt, List.filter_cons]
      obtain ⟨id, hid⟩ : ∃ y, y = x.1[pos] := ⟨_, rfl⟩
      rw [← hid] at q0 hst
      have hfin := finds_ok (.slice (some ⟨b, off, none⟩) x.1.length c0) (.slice A1 n1 c1) x id hcan f q (.agg #[.int .i64 k, .string (bs t), .int .i64 n, .slice A m c]) wr hfd.ids hfd.terms hfd.q hbk hok
      have hpe : Sr.findsF (f + 1) x q id = p id := by rw [← Hp.out]
      rw [hpe] at hfin
      rw [hst] at hrec
      obtain ⟨tt, htt⟩ : ∃ tt, p id = tt := ⟨_, rfl⟩
      rw [htt] at hfin hrec
      have Hfin := Lib.hid hfin
      clear hfin hst hid htt hpe hl1 hl2 hfd
      gi_wp2_with fail
      refine (callsIn_wide.2 Hfin.out).mono ?_
      rintro e w2 ⟨rfl, hb2⟩
      have hfp2 := hfp.ext hb2
      have hj2 := HJ.out _ _ _ _ hj (Kept.of_below hb2)
      have hsz2 : W.heap.size ≤ w2.heap.size := Nat.le_trans hsz hb2.size
      have hT2 : Hid (∀ b, T b → b < w2.heap.size) := Lib.hid fun b hb => by have := hT.out b hb; have := hb2.size; omega
      clear hb2 hfp hj hsz hT q0 f0 f1 p0 p1 p2 p3 Hfin
      cases tt with
      | false =>
        gi_wp2
        refine ⟨fun _ h => (by cases h), ?_⟩
        gi_wp2
        go_roundw
        case rel => exact ⟨pos + 1, kk, T, by go_num, hj2, hfp2, hT2, hsz2, Lib.hid (by have := hrec.out; simpa using this), by omega, hkk⟩
        case measure => simp [intOf]; omega
      | true =>
        have h := hrec.out
        simp only [if_true] at h
        obtain ⟨hk', hx, hr'⟩ := list_at hkk h
        have hy := HY.out kk hk' T w2 hj2 hsz2
        rw [hx] at hy
        have Hr' := Lib.hid hr'
        clear hx hr' h hrec
        obtain ⟨fn, tmps, assign, body, hyy, hRR⟩ := hy
        dsimp only [encI1] at hyy
        gi_wp2_with fail
        refine hRR.mono ?_
        rintro e w4 ⟨T', hchg, hor4⟩
        obtain ⟨tt, rfl⟩ : ∃ tt, e = .returned (.bool tt) := hor4.elim (fun h => ⟨_, h.1⟩) (fun h => ⟨_, h.1⟩)
        have Hor4 := Lib.hid hor4
        clear hor4 hyy hRR
        have hfp4 := hfp2.chg hchg
        have hsz4 : W.heap.size ≤ w4.heap.size := Nat.le_trans hsz2 hchg.size
        cases tt with
        | true =>
          have hj4 : J (kk + 1) T' w4 := Hor4.out.elim (fun h => h.2) (fun h => by cases h.1)
          gi_wp2
          go_roundw
          case rel => exact ⟨pos + 1, kk + 1, T', by go_num, hj4, hfp4, Lib.hid (fun b hb => (hchg.own b hb).1), hsz4, Hr', by omega, hk'⟩
          case measure => simp [intOf]; omega
        | false =>
          have hx4 : Jx (kk + 1) T' w4 := Hor4.out.elim (fun h => by cases h.1) (fun h => h.2)
          gi_wp2
          exact bodyPost_ret (results_none rfl _ _ _) rfl ⟨⟨_, rfl⟩, .inr ⟨kk + 1, T', hx4⟩⟩
    · obtain rfl : pos = x.1.length := by omega
      have hke : kk = R.length := by
        have h := congrArg List.length hrec.out
        rw [List.drop_length, List.filter_nil, List.append_nil, List.length_take] at h
        omega
      have Hke := Lib.hid hke
      clear hke hrec
      gi_wp2
      exact bodyPost_end (results_none rfl _ _ _) rfl ⟨⟨_, rfl⟩, .inl ⟨T, by rw [← Hke.out]; exact hj⟩⟩
end Go.Proofs.YtfjpedgddgbelaaGreatDoor
/-
  search.Find.
-/
namespace Go.Proofs.YtfjpedgddgbelaaGreatDoor
open Go.RowKit
set_option linter.unusedVariables false
set_option maxHeartbeats 2000000 in
theorem found_ok (A0 A1 A : Option Addr) (n0 c0 n1 c1 m c : Nat) (k n : Int) (t : Str) (w : World) : Calls Tryz.prog 79 #[.agg #[.slice A0 n0 c0, .slice A1 n1 c1], .agg #[.int .i64 k, .string (bs t), .int .i64 n, .slice A m c]] w fun e w' =>
    ∃ g, e = .returned (.func (.func 126) #[] #[.pointer (some ⟨g, 0, none⟩), .pointer (some ⟨g + 1, 0, none⟩)]) ∧ Blk w' g 110 #[.slice A0 n0 c0, .slice A1 n1 c1] ∧ Blk w' (g + 1) 50 #[.int .i64 k, .string (bs t), .int .i64 n, .slice A m c] ∧ Below w.heap.size w w' := by
  obtain ⟨W, g, hW, hg, hs, kF, kQ, hal⟩ := boxPair w #[.slice A0 n0 c0, .slice A1 n1 c1] 110 #[.int .i64 k, .string (bs t), .int .i64 n, .slice A m c] 50
  have HW := Lib.hid hW
  clear hW
  go_enter Tryz.func79, Tryz.ntmps79
  go_wp2_with fail
  rw [HW.out]
  go_ret
  exact ⟨g, rfl, kF, kQ, hal⟩
/-- what Find answers -/
def SFindAt (x : Ix.Idx) (q : Q) (w : World) (e : Ending) (w' : World) : Prop :=
  ∃ (A : Option Addr) (c : Nat) (L : List Int), e = .returned (.tuple #[.slice A L.length c, .agg #[.int .i64 (Sr.findR x q).2.1, .int .i64 (Sr.findR x q).2.2]]) ∧ Hid (L = (Sr.findR x q).1) ∧ Own intC M0 w' w.heap.size 3 (.slice A L.length c) L ∧ Below w.heap.size w w'
theorem pre8 {q : Q} (h : (Q.fault q).1 = 0) {f : Nat} (hf : 8 ≤ f) : ∀ p ∈ Q.pre f q, Q.errOf p = 0 := by
  have hg := Q.fault_zero.1 h
  rw [(pre_up hg.1 hf).1]
  exact hg.2.2
set_option maxRecDepth 100000 in
set_option maxHeartbeats 8000000 in
theorem sfind_ok (a b qv : Value) (x : Ix.Idx) (q : Q) (f : Nat) (w : World) (h0 : SlR intC M0 w a x.1) (h1 : SlR termC M0 w b x.2) (hq0 : QAt f M0 w qv q) (hsz : SzIx x.2) (hbk : q.bulk ≤ 4000000) (hT : TabsU w) :
    Calls Tryz.prog 31 #[.agg #[a, b], qv] w (SFindAt x q w) := by
  have hq := hq0.mono (g := max f 7) (Nat.le_max_left _ _)
  have hf7 : 8 ≤ max f 7 + 1 := by omega
  generalize max f 7 = f at hq hf7
  have hqv := hq
  obtain ⟨A0, c0, rfl, _, _⟩ := h0.form
  obtain ⟨A1, c1, rfl, _, _⟩ := h1.form
  obtain ⟨A, c, rfl, _, htm, _, hv⟩ := hq
  obtain ⟨W, g, hW, hg, hs, kX, kQ, kR, hal⟩ := box3 w #[.slice A0 x.1.length c0, .slice A1 x.2.length c1] #[.int .i64 q.kind, .string (bs q.text), .int .i64 q.num, .slice A q.parts.length c] #[.int .i64 0, .int .i64 0] 25 50 27
  have hval := validate_ok (.slice A0 x.1.length c0) (.slice A1 x.2.length c1) x.1 x.2 W (h0.ext hal) (h1.ext hal) hsz
  rw [show Ix.indexF (x.1, x.2) = Ix.indexF x from rfl] at hval
  have hres : Sr.findR x q = if (Ix.indexF x).1 ≠ 0 then ([], Ix.indexF x) else if (Q.fault q).1 ≠ 0 then ([], (Q.fault q).1, -5) else (Sr.foundF x q, 0, 0) := rfl
  obtain ⟨⟨fl, ra, rb⟩, hr⟩ : ∃ r, Sr.findR x q = r := ⟨_, rfl⟩
  unfold SFindAt
  rw [hr] at hres ⊢
  dsimp only
  have hcan := Ix.indexF_zero x
  obtain ⟨⟨ia, ib⟩, hia⟩ : ∃ r, Ix.indexF x = r := ⟨_, rfl⟩
  rw [hia] at hval hres hcan
  dsimp only at hval hres hcan
  obtain ⟨n0, hn0⟩ : ∃ n, x.1.length = n := ⟨_, rfl⟩
  obtain ⟨n1, hn1⟩ : ∃ n, x.2.length = n := ⟨_, rfl⟩
  rw [hn0, hn1] at kX hval hW ⊢
  obtain ⟨f0, f1, _, _, _⟩ := kX.two
  have HW := Lib.hid hW; have Hval := Lib.hid hval; have Hres := Lib.hid hres; have Hcan := Lib.hid hcan; have HX := Lib.hid (And.intro h0 (And.intro h1 (And.intro hqv hT)))
  have Hn : Hid (x.1.length = n0 ∧ x.2.length = n1) := Lib.hid ⟨hn0, hn1⟩
  rw [← hW] at f0 f1
  clear hW hval hres hcan h0 h1 hqv hT hn0 hn1 hia hr hq0 hv
  go_enter Tryz.func31, Tryz.ntmps31
  go_wp2_with fail
  rw [HW.out]
  refine Hval.out.mono ?_
  rintro e w2 ⟨rfl, hb2⟩
  obtain ⟨V, g2, hV, hg2, hs2, kV, hbV⟩ := boxA w2 #[.int .i64 ia, .int .i64 ib] 27
  obtain ⟨v0, v1, _, _, _⟩ := kV.two
  have hb02 := hb2.trans (hbV.mono hb2.size)
  have kX2 := kX.ext hb02
  have kQ2 := kQ.ext hb02
  have kR2 := kR.ext hb02
  have hbv := hal.trans (hb02.mono hal.size)
  have HV := Lib.hid hV; have HkX := Lib.hid kX2; have HkQ := Lib.hid kQ2; have HkR := Lib.hid kR2; have Hbv := Lib.hid hbv; have HkV := Lib.hid kV
  rw [← hV] at v0 v1
  clear f0 f1 hV kX kQ kR kX2 kQ2 kR2 hb02 hbv kV hb2 hbV hal
  go_wp2_with fail
  rw [HV.out]
  rw [HV.out] at v0 v1
  refine (failed_ok ia ib _).mono ?_
  rintro e w3 ⟨rfl, hb3⟩
  have hbw3 := Hbv.out.trans (hb3.mono Hbv.out.size)
  have hgw : w.heap.size ≤ g + 1 + 1 := by omega
  by_cases hi : ia = 0
  · have hi0 : (ia != 0) = false := by simpa using hi
    have hres := Hres.out
    rw [if_neg (by simp [hi])] at hres
    have hx3 := HX.out
    have hvq := qvalidate_ok f q _ w3 (hx3.2.2.1.ext hbw3) hbk (hx3.2.2.2.ext hbw3)
    have hfz : (Q.fault q).1 = 0 → ∀ p ∈ Q.pre (f + 1) q, Q.errOf p = 0 := fun h => pre8 h hf7
    have hup : (Q.fault q).1 = 0 → ∀ id, Sr.findsF (f + 1) x q id = Sr.findsF 8 x q id := fun h id => Sr.finds_up h hf7 x id
    have hff : Sr.foundF x q = x.1.filter fun id => Sr.findsF 8 x q id := rfl
    obtain ⟨⟨qa, qb⟩, hqf⟩ : ∃ r, Q.fault q = r := ⟨_, rfl⟩
    rw [hqf] at hvq hres hfz hup
    dsimp only at hvq hres hfz hup
    obtain ⟨q0, q1, q2, q3, _⟩ := (HkQ.out.ext hb3).four
    have kR3 := HkR.out.ext hb3
    have Hvq := Lib.hid hvq; have Hres2 := Lib.hid hres; have Hfz := Lib.hid hfz; have Hup := Lib.hid hup; have Hff := Lib.hid hff; have HkR3 := Lib.hid kR3
    clear hvq hres hfz hup hff kR3 v0 v1 hx3
    go_wp2_with fail
    refine Hvq.out.mono ?_
    rintro e w4 ⟨rfl, hb4⟩
    obtain ⟨U, g4, hU, hg4, hs4, kU, hbU⟩ := boxA w4 #[.int .i64 qa, .int .i64 qb] 27
    have hbw4 := hbw3.trans ((hb4.trans (hbU.mono hb4.size)).mono hbw3.size)
    have hb34 := hb4.trans (hbU.mono hb4.size)
    have kR4 := HkR3.out.ext hb34
    have kQ4 := (HkQ.out.ext hb3).ext hb34
    have kX4 := (HkX.out.ext hb3).ext hb34
    obtain ⟨u0, u1, _, _, _⟩ := kU.two
    have HU := Lib.hid hU; have HkR4 := Lib.hid kR4; have HkQ4 := Lib.hid kQ4; have HkX4 := Lib.hid kX4; have Hb4 := Lib.hid hbw4; have HkU := Lib.hid kU
    rw [← hU] at u0 u1
    clear q0 q1 q2 q3 hU kR4 kQ4 kX4 hbw4 hb34 kU hb4 hbU hbw3
    go_wp2_with fail
    rw [HU.out]
    refine (failed_ok qa qb _).mono ?_
    rintro e w5 ⟨rfl, hb5⟩
    have hbw5 := Hb4.out.trans (hb5.mono Hb4.out.size)
    have kR5 := HkR4.out.ext hb5
    by_cases hq : qa = 0
    · have hqn : (qa != 0) = false := by simpa using hq
      have hres := Hres2.out
      rw [if_neg (by simp [hq])] at hres
      injection hres with r1 r2
      injection r2 with r2 r3
      have hcan := Hcan.out.1 hi
      have hx5 := HX.out
      obtain ⟨q0, q1, q2, q3, _⟩ := (HkQ4.out.ext hb5).four
      obtain ⟨y0, y1, _, _, _⟩ := (HkX4.out.ext hb5).two
      have Hr := Lib.hid (And.intro r1 (And.intro r2 r3)); have HkR5 := Lib.hid kR5; have Hb5 := Lib.hid hbw5
      clear u0 u1 r1 r2 r3 kR5 hbw5
      go_wp2_with fail
      refine (found_ok A0 A1 A n0 c0 n1 c1 q.parts.length c q.kind q.num q.text w5).mono ?_
      rintro e w6 ⟨gg, rfl, kF6, kQ6, hb6⟩
      have hbw6 := Hb5.out.trans (hb6.mono Hb5.out.size)
      have hfd : FdAt gg (gg + 1) f (.slice A0 n0 c0) (.slice A1 n1 c1) (.agg #[.int .i64 q.kind, .string (bs q.text), .int .i64 q.num, .slice A q.parts.length c]) #[.int .i64 q.kind, .string (bs q.text), .int .i64 q.num, .slice A q.parts.length c] x q w6 := by
        have e1 := Hn.out.1; have e2 := Hn.out.2
        exact ⟨kF6, kQ6, by rw [← e1]; exact hx5.1.ext hbw6, by rw [← e2]; exact hx5.2.1.ext hbw6, hx5.2.2.1.ext hbw6⟩
      have hcol := collect_ok 126 #[.pointer (some ⟨gg, 0, none⟩), .pointer (some ⟨gg + 1, 0, none⟩)] _ _ (found_iter gg (gg + 1) f A0 A1 A n0 c0 n1 c1 q.parts.length c q.kind q.num q.text x q hcan hbk (Hfz.out hq)) (fun args w => enters_of Tryz.func126 (by kernel_rfl) rfl args w)
        (fun id hid => by have := hcan.idr id (List.mem_filter.1 hid).1; omega) (by have h1 := List.length_filter_le (fun id => Sr.findsF (f + 1) x q id) x.1; have h2 := hcan.few; omega) w6 (fun S' W' hS' hb' => ⟨w6, hfd, hb', hS'⟩)
      have hl : (x.1.filter fun id => Sr.findsF (f + 1) x q id) = fl := by
        rw [Hr.out.1, Hff.out]
        exact List.filter_congr fun id _ => Hup.out hq id
      rw [hl] at hcol
      have Hcol := Lib.hid hcol; have HkR6 := Lib.hid (HkR5.out.ext hb6); have Hb6 := Lib.hid hbw6
      clear hcol hl hfd kF6 kQ6 hbw6 hcan hx5 hb6 q0 q1 q2 q3 y0 y1
      go_wp2_with fail
      refine Hcol.out.mono ?_
      rintro e w7 ⟨A7, c7, L, rfl, hL, hown, hb7⟩
      have kR7 := HkR6.out.ext hb7
      have hbw7 := Hb6.out.trans (hb7.mono Hb6.out.size)
      go_wp2_with fail
      refine (none_ok _).mono ?_
      rintro e w8 ⟨rfl, hb8⟩
      have kR8 := kR7.ext hb8
      have hbw8 := hbw7.trans (hb8.mono hbw7.size)
      obtain ⟨z0, z1, z2, z3, _⟩ := kR8.two
      have hown8 := hown.ext hb8
      have hlow : w.heap.size ≤ w6.heap.size := Hb6.out.size
      have hgl := HkR6.out.lt
      clear hown
      go_wp2_with fail
      obtain ⟨e0, e1⟩ := kR8.put2 (.int .i64 0) (.int .i64 0)
      have h1 := Hr.out.2.1; have h2 := Hr.out.2.2
      refine bodyPost_ret (v := .tuple #[.slice A7 L.length c7, .agg #[.int .i64 0, .int .i64 0]]) (by simp [results, Tryz.results31, go_sem, e0, e1]) rfl ⟨A7, c7, L, by rw [h1, h2], hL, ?_, below_set2 hbw8 hgw _ _⟩
      exact (hown8.flatC flatC_int (fun b hb => by have hx := hown8.base b hb; exact (Below.heap_setCell _ _ _ _ (by show b ≠ g + 1 + 1; omega)).trans (Below.heap_setCell _ _ _ _ (by show b ≠ g + 1 + 1; omega)))).weak (by omega) (fun _ h => h)
    · have hqn : (qa != 0) = true := by simpa using hq
      have hres := Hres2.out
      rw [if_pos hq] at hres
      injection hres with r1 r2
      injection r2 with r2 r3
      obtain ⟨y0, y1, _, _, _⟩ := (HkU.out.ext hb5).two
      have Hr := Lib.hid (And.intro r1 (And.intro r2 r3)); have HkR5 := Lib.hid kR5; have Hb5 := Lib.hid hbw5
      clear u0 u1 r1 r2 r3 kR5 hbw5
      go_wp2_with fail
      refine (fault_ok qa (-5) _).mono ?_
      rintro e w6 ⟨rfl, hb6⟩
      have kR6 := HkR5.out.ext hb6
      have hbw6 := Hb5.out.trans (hb6.mono Hb5.out.size)
      obtain ⟨z0, z1, z2, z3, _⟩ := kR6.two
      clear y0 y1
      go_wp2_with fail
      obtain ⟨e0, e1⟩ := kR6.put2 (.int .i64 qa) (.int .i64 (-5))
      have h1 := Hr.out.2.1; have h2 := Hr.out.2.2
      exact bodyPost_ret (v := .tuple #[.slice none 0 0, .agg #[.int .i64 qa, .int .i64 (-5)]]) (by simp [results, Tryz.results31, go_sem, e0, e1]) rfl ⟨none, 0, [], by rw [h1, h2]; rfl, Lib.hid Hr.out.1.symm, Own.nil _ _ _ _ _, below_set2 hbw6 hgw _ _⟩
  · have hi0 : (ia != 0) = true := by simpa using hi
    have hres := Hres.out
    rw [if_pos hi] at hres
    injection hres with r1 r2
    injection r2 with r2 r3
    have Hr := Lib.hid (And.intro r1 (And.intro r2 r3))
    have kR3 := HkR.out.ext hb3
    obtain ⟨y0, y1, _, _, _⟩ := (HkV.out.ext hb3).two
    obtain ⟨z0, z1, z2, z3, _⟩ := kR3.two
    clear v0 v1 r1 r2 r3
    go_wp2_with fail
    go_region
    obtain ⟨e0, e1⟩ := kR3.put2 (.int .i64 ia) (.int .i64 ib)
    obtain ⟨W9, hW9⟩ : ∃ W9, (w3.setCell ⟨g + 1 + 1, 0, none⟩ (.int .i64 ia)).setCell ⟨g + 1 + 1, 1, none⟩ (.int .i64 ib) = W9 := ⟨_, rfl⟩
    have hbw9 : Below w.heap.size w W9 := by rw [← hW9]; exact below_set2 hbw3 hgw _ _
    rw [hW9] at e0 e1 ⊢
    go_wp2_with fail
    have h1 := Hr.out.2.1; have h2 := Hr.out.2.2
    have e0' : W9.drew.cell? ⟨g + 1 + 1, 0, none⟩ = some (.int .i64 ia) := e0
    have e1' : W9.drew.cell? ⟨g + 1 + 1, 1, none⟩ = some (.int .i64 ib) := e1
    exact bodyPost_ret (v := .tuple #[.slice none 0 0, .agg #[.int .i64 ia, .int .i64 ib]]) (by simp [results, Tryz.results31, go_sem, e0', e1']) rfl ⟨none, 0, [], by rw [h1, h2]; rfl, Lib.hid Hr.out.1.symm, Own.nil _ _ _ _ _, below_drew hbw9⟩
end Go.Proofs.YtfjpedgddgbelaaGreatDoor

/-
  Contracts and plain facts, one after another: Indexes: what the code and the reference compute; plain; Rows of elements of several cells: append in place, copy, clear; Insert and Delete on what the call owns. No program is named here.
-/
import Derived.Test.YtjamjkjmlckgeaaGreatDoorF6
import Derived.Test.YtjamjkjmlckgeaaGreatDoorF2
import Derived.Test.YtjamjkjmlckgeaaGreatDoorF4
import Derived.Laws.CopyOwn
import Derived.Lib.AppendZerosOnto
import Derived.Lib.Overlaps
import Derived.Lib.SliceRun
namespace Go.Proofs.YtjamjkjmlckgeaaGreatDoor
namespace Ix
abbrev Post := Int × List Int
abbrev Term := Str × List Post
abbrev Idx := List Int × List Term
def ltI (a b : Int) : Bool := decide (a < b)
theorem totI : Al.Tot ltI := tot_int
/-- number i of a list is in its range, and greater than the one ahead of it -/
def okAt (l : List Int) (low : Int) (i : Nat) : Bool := (decide (low ≤ l.getD i 0) && decide (l.getD i 0 ≤ 1000000)) && (decide (i = 0) || decide (l.getD (i - 1) 0 < l.getD i 0))
def rising (l : List Int) (low : Int) : Bool := (List.range l.length).all (okAt l low)
theorem rising_iff (l : List Int) (low : Int) : rising l low = true ↔ l.Pairwise (· < ·) ∧ ∀ n ∈ l, low ≤ n ∧ n ≤ 1000000 := by
  unfold rising
  rw [List.all_eq_true]
  constructor
  · intro h
    have hi : ∀ i (hi : i < l.length), low ≤ l[i] ∧ l[i] ≤ 1000000 ∧ ∀ (h0 : 0 < i), l[i - 1] < l[i] := by
      intro i hi
      have := h i (List.mem_range.2 hi)
      unfold okAt at this
      rw [List.getD_eq_getElem?_getD, List.getElem?_eq_getElem hi, Option.getD_some] at this
      simp only [Bool.and_eq_true, Bool.or_eq_true, decide_eq_true_eq] at this
      refine ⟨this.1.1, this.1.2, fun h0 => ?_⟩
      rcases this.2 with e | e
      · omega
      · rw [List.getD_eq_getElem?_getD, List.getElem?_eq_getElem (by omega), Option.getD_some] at e
        exact e
    have key : ∀ (j i : Nat) (hij : i < j) (hj : j < l.length), l[i] < l[j] := by
      intro j
      induction j with
      | zero => intro i hij; omega
      | succ j ih =>
        intro i hij hj
        have h1 := (hi (j + 1) hj).2.2 (by omega)
        simp only [Nat.add_sub_cancel] at h1
        by_cases e : i = j
        · subst e; exact h1
        · exact Int.lt_trans (ih i (by omega) (by omega)) h1
    refine ⟨List.pairwise_iff_getElem.2 fun i j hi' hj' hij => key j i hij hj', fun n hn => ?_⟩
    obtain ⟨i, hi', rfl⟩ := List.mem_iff_getElem.1 hn
    exact ⟨(hi i hi').1, (hi i hi').2.1⟩
  · rintro ⟨hp, hr⟩ i hi
    have hi := List.mem_range.1 hi
    unfold okAt
    rw [List.getD_eq_getElem?_getD, List.getElem?_eq_getElem hi, Option.getD_some]
    have h1 := hr _ (List.getElem_mem hi)
    simp only [Bool.and_eq_true, Bool.or_eq_true, decide_eq_true_eq]
    refine ⟨h1, ?_⟩
    by_cases h0 : i = 0
    · exact .inl h0
    · right
      rw [List.getD_eq_getElem?_getD, List.getElem?_eq_getElem (show i - 1 < l.length by omega), Option.getD_some]
      exact List.pairwise_iff_getElem.1 hp (i - 1) i (by omega) hi (by omega)
/-- the code of the first error of postings -/
def postErr (ids : List Int) : List Post → Int
  | [] => 0
  | p :: r => if p.2.length = 0 ∨ rising p.2 0 = false then 19 else if ids.contains p.1 = false then 6 else postErr ids r
def wordBad (ts : List Term) (i : Nat) : Bool := decide (0 < i) && !ltS (ts.getD (i - 1) ([], [])).1 (ts.getD i ([], [])).1
def termErr (ids : List Int) (ts : List Term) (i : Nat) : Int :=
  if postErr ids (ts.getD i ([], [])).2 ≠ 0 then postErr ids (ts.getD i ([], [])).2
  else if (ts.getD i ([], [])).1.length = 0 ∨ 8000 < (ts.getD i ([], [])).1.length then 10
  else if (ts.getD i ([], [])).2.length = 0 ∨ rising ((ts.getD i ([], [])).2.map fun p => p.1) 1 = false ∨ wordBad ts i = true then 19 else 0
def faultGo (x : Idx) : Nat → Nat → Int × Int
  | 0, _ => (0, 0)
  | f + 1, k => if termErr x.1 x.2 k = 0 then faultGo x f (k + 1) else (termErr x.1 x.2 k, (k : Int))
def indexF (x : Idx) : Int × Int := if 300 < x.1.length then (2, -1) else if rising x.1 1 = false then (19, -1) else if 1000000 < x.2.length then (2, -2) else faultGo x x.2.length 0
/-- what a valid index is -/
structure Canon (x : Idx) : Prop where
  few : x.1.length ≤ 300
  ids : x.1.Pairwise (· < ·)
  idr : ∀ n ∈ x.1, 1 ≤ n ∧ n ≤ 1000000
  many : x.2.length ≤ 1000000
  srt : Al.Sorted ltS x.2
  word : ∀ t ∈ x.2, t.1 ≠ [] ∧ t.1.length ≤ 8000
  post : ∀ t ∈ x.2, t.2 ≠ [] ∧ Al.Sorted ltI t.2 ∧ ∀ p ∈ t.2, p.1 ∈ x.1 ∧ p.2 ≠ [] ∧ p.2.Pairwise (· < ·) ∧ ∀ n ∈ p.2, 0 ≤ n ∧ n ≤ 1000000
theorem postErr_zero (ids : List Int) : ∀ ps : List Post, postErr ids ps = 0 ↔ ∀ p ∈ ps, p.1 ∈ ids ∧ p.2 ≠ [] ∧ rising p.2 0 = true
  | [] => by simp [postErr]
  | p :: r => by
    rw [postErr]
    by_cases h1 : p.2.length = 0 ∨ rising p.2 0 = false
    · rw [if_pos h1]
      constructor
      · intro h; omega
      · intro h
        obtain ⟨_, h2, h3⟩ := h p List.mem_cons_self
        rcases h1 with h1 | h1
        · exact absurd (List.eq_nil_of_length_eq_zero h1) h2
        · rw [h3] at h1; cases h1
    · rw [if_neg h1]
      have h1' : p.2 ≠ [] ∧ rising p.2 0 = true := ⟨fun e => h1 (.inl (by rw [e]; rfl)), by cases h : rising p.2 0 with | true => rfl | false => exact absurd (.inr h) h1⟩
      by_cases h2 : ids.contains p.1 = false
      · rw [if_pos h2]
        constructor
        · intro h; omega
        · intro h
          have := (h p List.mem_cons_self).1
          rw [List.contains_iff_mem.2 this] at h2; cases h2
      · rw [if_neg h2, postErr_zero ids r]
        have h2' : p.1 ∈ ids := by simpa using h2
        constructor
        · intro h q hq
          rcases List.mem_cons.1 hq with e | e
          · subst e; exact ⟨h2', h1'⟩
          · exact h q e
        · exact fun h q hq => h q (List.mem_cons_of_mem _ hq)
theorem pair_sorted (ps : List Post) : (ps.map fun p => p.1).Pairwise (· < ·) ↔ Al.Sorted ltI ps := by
  unfold Al.Sorted ltI
  rw [List.pairwise_map]
  simp
theorem faultGo_zero (x : Idx) : ∀ (f k : Nat), (faultGo x f k).1 = 0 ↔ ∀ j, k ≤ j → j < k + f → termErr x.1 x.2 j = 0
  | 0, k => by
    refine ⟨fun _ j h1 h2 => by omega, fun _ => rfl⟩
  | f + 1, k => by
    rw [faultGo]
    split
    · rename_i h0
      rw [faultGo_zero x f (k + 1)]
      constructor
      · intro h j h1 h2
        by_cases e : j = k
        · rw [e]; exact h0
        · exact h j (by omega) (by omega)
      · exact fun h j h1 h2 => h j (by omega) (by omega)
    · rename_i h0
      constructor
      · intro h; exact absurd h h0
      · intro h; exact absurd (h k (by omega) (by omega)) h0
theorem faultGo_zero2 (x : Idx) : ∀ (f k : Nat), (faultGo x f k).1 = 0 → faultGo x f k = (0, 0)
  | 0, _, _ => rfl
  | f + 1, k, h => by
    rw [faultGo] at h ⊢
    split at h
    · rename_i h0; rw [if_pos h0]; exact faultGo_zero2 x f (k + 1) h
    · rename_i h0; exact absurd h h0
theorem getD_get {α : Type} {l : List α} {i : Nat} (h : i < l.length) (d : α) : l.getD i d = l[i] := by
  rw [List.getD_eq_getElem?_getD, List.getElem?_eq_getElem h, Option.getD_some]
theorem termErr_zero (ids : List Int) (ts : List Term) (i : Nat) (hi : i < ts.length) : termErr ids ts i = 0 ↔
    (∀ p ∈ ts[i].2, p.1 ∈ ids ∧ p.2 ≠ [] ∧ rising p.2 0 = true) ∧ (ts[i].1 ≠ [] ∧ ts[i].1.length ≤ 8000) ∧ ts[i].2 ≠ [] ∧ rising (ts[i].2.map fun p => p.1) 1 = true ∧ ∀ (h0 : 0 < i), ltS ts[i - 1].1 ts[i].1 = true := by
  unfold termErr
  rw [getD_get hi, ← postErr_zero]
  by_cases h1 : postErr ids ts[i].2 ≠ 0
  · rw [if_pos h1]
    exact ⟨fun h => absurd h h1, fun h => absurd h.1 h1⟩
  · rw [if_neg h1]
    have h1' : postErr ids ts[i].2 = 0 := by simpa using h1
    by_cases h2 : ts[i].1.length = 0 ∨ 8000 < ts[i].1.length
    · rw [if_pos h2]
      constructor
      · intro h; omega
      · rintro ⟨_, ⟨h3, h4⟩, _⟩
        rcases h2 with h2 | h2
        · exact absurd (List.eq_nil_of_length_eq_zero h2) h3
        · omega
    · rw [if_neg h2]
      have h2' : ts[i].1 ≠ [] ∧ ts[i].1.length ≤ 8000 := ⟨fun e => h2 (.inl (by rw [e]; rfl)), by omega⟩
      have hw : wordBad ts i = true ↔ ∃ (h0 : 0 < i), ltS ts[i - 1].1 ts[i].1 = false := by
        unfold wordBad
        rw [getD_get hi]
        by_cases h0 : 0 < i
        · rw [getD_get (show i - 1 < ts.length by omega)]
          simp [h0]
        · simp [h0]
      by_cases h3 : ts[i].2.length = 0 ∨ rising (ts[i].2.map fun p => p.1) 1 = false ∨ wordBad ts i = true
      · rw [if_pos h3]
        constructor
        · intro h; omega
        · rintro ⟨_, _, h4, h5, h6⟩
          rcases h3 with h3 | h3 | h3
          · exact absurd (List.eq_nil_of_length_eq_zero h3) h4
          · rw [h5] at h3; cases h3
          · obtain ⟨h0, h7⟩ := hw.1 h3
            rw [h6 h0] at h7; cases h7
      · rw [if_neg h3]
        refine ⟨fun _ => ⟨h1', h2', fun e => h3 (.inl (by rw [e]; rfl)), ?_, fun h0 => ?_⟩, fun _ => rfl⟩
        · cases h : rising (ts[i].2.map fun p => p.1) 1 with
          | true => rfl
          | false => exact absurd (.inr (.inl h)) h3
        · cases h : ltS ts[i - 1].1 ts[i].1 with
          | true => rfl
          | false => exact absurd (.inr (.inr (hw.2 ⟨h0, h⟩))) h3
theorem sorted_adj {ts : List Term} (h : ∀ (i : Nat) (hi : i < ts.length) (h0 : 0 < i), ltS ts[i - 1].1 ts[i].1 = true) : Al.Sorted ltS ts := by
  have key : ∀ (j i : Nat) (hij : i < j) (hj : j < ts.length), ltS ts[i].1 ts[j].1 = true := by
    intro j
    induction j with
    | zero => intro i hij; omega
    | succ j ih =>
      intro i hij hj
      have h1 := h (j + 1) hj (by omega)
      simp only [Nat.add_sub_cancel] at h1
      by_cases e : i = j
      · subst e; exact h1
      · exact tot_str.trans _ _ _ (ih i (by omega) (by omega)) h1
  exact List.pairwise_iff_getElem.2 fun i j hi hj hij => key j i hij hj
theorem indexF_zero (x : Idx) : (indexF x).1 = 0 ↔ Canon x := by
  unfold indexF
  by_cases h1 : 300 < x.1.length
  · rw [if_pos h1]
    refine ⟨fun h => ?_, fun h => ?_⟩
    · simp only at h; omega
    · have := h.few; omega
  rw [if_neg h1]
  by_cases h2 : rising x.1 1 = false
  · rw [if_pos h2]
    refine ⟨fun h => ?_, fun h => ?_⟩
    · simp only at h; omega
    · rw [(rising_iff _ _).2 ⟨h.ids, h.idr⟩] at h2; cases h2
  rw [if_neg h2]
  have h2' := (rising_iff _ _).1 (by simpa using h2)
  by_cases h3 : 1000000 < x.2.length
  · rw [if_pos h3]
    refine ⟨fun h => ?_, fun h => ?_⟩
    · simp only at h; omega
    · have := h.many; omega
  rw [if_neg h3, faultGo_zero]
  constructor
  · intro h
    have ht := fun (i : Nat) (hi : i < x.2.length) => (termErr_zero x.1 x.2 i hi).1 (h i (by omega) (by omega))
    refine ⟨by omega, h2'.1, h2'.2, by omega, sorted_adj fun i hi h0 => (ht i hi).2.2.2.2 h0, fun t htm => ?_, fun t htm => ?_⟩
    · obtain ⟨i, hi, rfl⟩ := List.mem_iff_getElem.1 htm
      exact (ht i hi).2.1
    · obtain ⟨i, hi, rfl⟩ := List.mem_iff_getElem.1 htm
      obtain ⟨a, b, c, d, e⟩ := ht i hi
      refine ⟨c, (pair_sorted _).1 ((rising_iff _ _).1 d).1, fun p hp => ?_⟩
      obtain ⟨h4, h5, h6⟩ := a p hp
      exact ⟨h4, h5, (rising_iff _ _).1 h6⟩
  · intro h j _ hj
    have hj' : j < x.2.length := by omega
    have hm := List.getElem_mem hj'
    obtain ⟨h4, h5, h6⟩ := h.post _ hm
    refine (termErr_zero x.1 x.2 j hj').2 ⟨fun p hp => ?_, h.word _ hm, h4, ?_, fun h0 => List.pairwise_iff_getElem.1 h.srt (j - 1) j (by omega) hj' (by omega)⟩
    · obtain ⟨a, b, c⟩ := h6 p hp
      exact ⟨a, b, (rising_iff _ _).2 c⟩
    · refine (rising_iff _ _).2 ⟨(pair_sorted _).2 h5, fun n hn => ?_⟩
      obtain ⟨p, hp, rfl⟩ := List.mem_map.1 hn
      exact h.idr _ (h6 p hp).1
theorem indexF_zero2 {x : Idx} (h : (indexF x).1 = 0) : indexF x = (0, 0) := by
  have hc := (indexF_zero x).1 h
  have h2 : rising x.1 1 = true := (rising_iff _ _).2 ⟨hc.ids, hc.idr⟩
  have h1 := hc.few
  have h3 := hc.many
  unfold indexF at h ⊢
  rw [if_neg (by omega), if_neg (by rw [h2]; simp), if_neg (by omega)] at h ⊢
  exact faultGo_zero2 _ _ _ h
/-! ### what is at a place -/
def cont (ts : List Term) (w : Str) (i : Int) : List Int := ((Al.look ts w).bind fun ps => Al.look ps i).getD []
structure Wf (ts : List Term) : Prop where
  srt : Al.Sorted ltS ts
  post : ∀ t ∈ ts, t.2 ≠ [] ∧ Al.Sorted ltI t.2 ∧ ∀ p ∈ t.2, p.2 ≠ []
theorem Canon.wf {x : Idx} (h : Canon x) : Wf x.2 := ⟨h.srt, fun t ht => ⟨(h.post t ht).1, (h.post t ht).2.1, fun p hp => ((h.post t ht).2.2 p hp).2.1⟩⟩
theorem Wf.ext {ts ts' : List Term} (h : Wf ts) (h' : Wf ts') (hc : ∀ w i, cont ts w i = cont ts' w i) : ts = ts' := by
  have some_of : ∀ {ts ts' : List Term} (_ : Wf ts) (_ : Wf ts') (_ : ∀ w i, cont ts w i = cont ts' w i) (w : Str) (ps : List Post), Al.look ts w = some ps → ∃ ps', Al.look ts' w = some ps' := by
    intro ts ts' h h' hc w ps hw
    have hm := Al.look_mem hw
    obtain ⟨h1, h2, h3⟩ := h.post _ hm
    simp only at h1 h2 h3
    obtain ⟨p, r, rfl⟩ : ∃ p r, ps = p :: r := by cases ps with | nil => exact absurd rfl h1 | cons p r => exact ⟨p, r, rfl⟩
    have h4 : cont ts w p.1 = p.2 := by
      unfold cont
      rw [hw]
      show (Al.look (p :: r) p.1).getD [] = _
      rw [Al.look_of_mem totI h2 (show (p.1, p.2) ∈ p :: r from List.mem_cons_self)]
      rfl
    have h5 := h3 p List.mem_cons_self
    rw [hc w p.1] at h4
    cases hw' : Al.look ts' w with
    | some ps' => exact ⟨ps', rfl⟩
    | none =>
      unfold cont at h4
      rw [hw'] at h4
      exact absurd h4.symm h5
  refine Al.ext tot_str h.srt h'.srt fun w => ?_
  cases hw : Al.look ts w with
  | none =>
    cases hw' : Al.look ts' w with
    | none => rfl
    | some ps' => obtain ⟨ps, h1⟩ := some_of h' h (fun w i => (hc w i).symm) w ps' hw'; rw [hw] at h1; cases h1
  | some ps =>
    obtain ⟨ps', hw'⟩ := some_of h h' hc w ps hw
    rw [hw']
    congr 1
    obtain ⟨_, h2, h3⟩ := h.post _ (Al.look_mem hw)
    obtain ⟨_, h2', h3'⟩ := h'.post _ (Al.look_mem hw')
    refine Al.ext totI h2 h2' fun i => ?_
    have h4 := hc w i
    unfold cont at h4
    rw [hw, hw'] at h4
    simp only [Option.bind_some] at h4
    cases e : Al.look ps i with
    | none =>
      cases e' : Al.look ps' i with
      | none => rfl
      | some q => rw [e, e'] at h4; exact absurd h4.symm (h3' _ (Al.look_mem e'))
    | some q =>
      cases e' : Al.look ps' i with
      | none => rw [e, e'] at h4; exact absurd h4 (h3 _ (Al.look_mem e))
      | some q' => rw [e, e'] at h4; exact congrArg some h4
/-- a place of a word of a text is added -/
def putP (id place : Int) (ps : List Post) : List Post := Al.upd ltI (fun q => q.getD [] ++ [place]) id ps
def putT (id place : Int) (w : Str) (ts : List Term) : List Term := Al.upd ltS (fun o => putP id place (o.getD [])) w ts
def putAll (id : Int) : List Str → Nat → List Term → List Term
  | [], _, ts => ts
  | w :: s, n, ts => putAll id s (n + 1) (putT id (n : Int) w ts)
theorem putP_ne (id place : Int) (ps : List Post) : putP id place ps ≠ [] := by
  cases ps with
  | nil => simp [putP, Al.upd]
  | cons p r =>
    unfold putP
    rw [Al.upd]
    split
    · simp
    · split <;> simp
theorem nil_sorted {K V : Type} {lt : K → K → Bool} : Al.Sorted lt ([] : List (K × V)) := List.Pairwise.nil
theorem Wf.get {ts : List Term} (h : Wf ts) (w : Str) : Al.Sorted ltI ((Al.look ts w).getD []) ∧ ∀ p ∈ (Al.look ts w).getD [], p.2 ≠ [] := by
  cases hw : Al.look ts w with
  | none => exact ⟨nil_sorted, by simp⟩
  | some ps => exact (h.post _ (Al.look_mem hw)).2
theorem putP_some {id place : Int} {ps : List Post} (hs : Al.Sorted ltI ps) (h : ∀ p ∈ ps, p.2 ≠ []) : ∀ p ∈ putP id place ps, p.2 ≠ [] := by
  intro p hp
  have h1 := Al.sorted_upd totI (f := fun q : Option (List Int) => q.getD [] ++ [place]) (k := id) hs
  have h2 := Al.look_of_mem totI h1 (show (p.1, p.2) ∈ _ from hp)
  rw [Al.look_upd totI hs] at h2
  split at h2
  · injection h2 with h2; rw [← h2]; simp
  · exact h _ (Al.look_mem h2)
theorem Wf.put {ts : List Term} (h : Wf ts) (id place : Int) (w : Str) : Wf (putT id place w ts) := by
  have h1 := Al.sorted_upd tot_str (f := fun o => putP id place (o.getD [])) (k := w) h.srt
  refine ⟨h1, fun t ht => ?_⟩
  have h2 := Al.look_of_mem tot_str h1 (show (t.1, t.2) ∈ _ from ht)
  rw [Al.look_upd tot_str h.srt] at h2
  split at h2
  · injection h2 with h2
    obtain ⟨h3, h4⟩ := h.get w
    rw [← h2]
    exact ⟨putP_ne _ _ _, Al.sorted_upd totI h3, putP_some h3 h4⟩
  · exact h.post _ (Al.look_mem h2)
theorem cont_put {ts : List Term} (h : Wf ts) (id place : Int) (w w' : Str) (i : Int) : cont (putT id place w ts) w' i = if w' = w ∧ i = id then cont ts w id ++ [place] else cont ts w' i := by
  unfold cont putT
  rw [Al.look_upd tot_str h.srt]
  by_cases hw : w' = w
  · subst hw
    simp only [if_true, true_and, Option.bind_some]
    unfold putP
    rw [Al.look_upd totI (h.get w').1]
    by_cases hi : i = id
    · subst hi
      simp only [if_true, Option.getD_some]
      cases Al.look ts w' <;> rfl
    · simp only [hi, if_false]
      cases Al.look ts w' <;> rfl
  · simp only [hw, if_false, false_and]
/-- where a word stands among others -/
def occ (w : Str) : List Str → Nat → List Int
  | [], _ => []
  | a :: s, n => if a = w then (n : Int) :: occ w s (n + 1) else occ w s (n + 1)
theorem Wf.putAll (id : Int) : ∀ (s : List Str) (n : Nat) {ts : List Term}, Wf ts → Wf (Ix.putAll id s n ts)
  | [], _, _, h => h
  | w :: s, n, _, h => Wf.putAll id s (n + 1) (h.put id n w)
theorem cont_putAll (id : Int) : ∀ (s : List Str) (n : Nat) {ts : List Term}, Wf ts → ∀ (w : Str) (i : Int), cont (putAll id s n ts) w i = if i = id then cont ts w id ++ occ w s n else cont ts w i
  | [], n, ts, h, w, i => by
    rw [putAll, occ, List.append_nil]
    split
    · rename_i e; rw [e]
    · rfl
  | a :: s, n, ts, h, w, i => by
    rw [putAll, cont_putAll id s (n + 1) (h.put id n a) w i, occ]
    by_cases hi : i = id
    · subst hi
      simp only [if_true]
      rw [cont_put h]
      by_cases hw : w = a
      · subst hw; simp
      · have : ¬ a = w := fun e => hw e.symm
        simp [hw, this]
    · simp only [hi, if_false]
      rw [cont_put h]
      simp [hi]
/-- a text is taken out -/
def removeT (id : Int) (ts : List Term) : List Term := (ts.map fun t => (t.1, t.2.filter fun p => !(p.1 == id))).filter fun t => !(t.2.length == 0)
theorem Wf.remove {ts : List Term} (h : Wf ts) (id : Int) : Wf (removeT id ts) := by
  unfold removeT
  refine ⟨Al.sorted_filter (Al.sorted_map _ h.srt) _, fun t ht => ?_⟩
  obtain ⟨h1, h2⟩ := List.mem_filter.1 ht
  obtain ⟨t', ht', rfl⟩ := List.mem_map.1 h1
  obtain ⟨h3, h4, h5⟩ := h.post _ ht'
  refine ⟨fun e => ?_, Al.sorted_filter h4 _, fun p hp => h5 p (List.mem_filter.1 hp).1⟩
  simp only at e
  rw [e] at h2
  simp at h2
theorem cont_remove {ts : List Term} (h : Wf ts) (id : Int) (w : Str) (i : Int) : cont (removeT id ts) w i = if i = id then [] else cont ts w i := by
  unfold cont removeT
  rw [Al.look_filter tot_str (Al.sorted_map _ h.srt), Al.look_map]
  cases hw : Al.look ts w with
  | none => simp
  | some ps =>
    have hs := (h.post _ (Al.look_mem hw)).2.1
    simp only [Option.map_some, Option.bind_some]
    have hl := Al.look_filter totI hs (fun p => !(p.1 == id)) i
    split
    · simp only [Option.bind_some]
      rw [hl]
      cases Al.look ps i with
      | none => simp
      | some q =>
        by_cases hi : i = id
        · subst hi; simp
        · simp [hi]
    · rename_i he
      have he' : ps.filter (fun p => !(p.1 == id)) = [] := List.eq_nil_of_length_eq_zero (by simpa using he)
      rw [he'] at hl
      by_cases hi : i = id
      · simp [hi]
      · simp only [hi, if_false, Option.bind_none]
        cases hq : Al.look ps i with
        | none => rfl
        | some q =>
          rw [hq] at hl
          simp [hi, Al.look] at hl
/-! ### the laws -/
theorem remove_put {ts : List Term} (h : Wf ts) (id : Int) (s : List Str) (hid : ∀ w, cont ts w id = []) : removeT id (putAll id s 0 ts) = ts := by
  have h1 := Wf.putAll id s 0 h
  refine Wf.ext (h1.remove id) h fun w i => ?_
  rw [cont_remove h1]
  split
  · rename_i e; rw [e, hid]
  · rename_i e; rw [cont_putAll id s 0 h, if_neg e]
theorem put_comm {ts : List Term} (h : Wf ts) (id id' : Int) (s s' : List Str) (hne : id ≠ id') : putAll id' s' 0 (putAll id s 0 ts) = putAll id s 0 (putAll id' s' 0 ts) := by
  have h1 := Wf.putAll id s 0 h
  have h2 := Wf.putAll id' s' 0 h
  refine Wf.ext (Wf.putAll id' s' 0 h1) (Wf.putAll id s 0 h2) fun w i => ?_
  rw [cont_putAll id' s' 0 h1, cont_putAll id s 0 h2, cont_putAll id s 0 h, cont_putAll id' s' 0 h, cont_putAll id s 0 h, cont_putAll id' s' 0 h]
  by_cases e1 : i = id
  · subst e1
    simp [hne]
  · by_cases e2 : i = id'
    · subst e2
      simp [e1]
    · simp [e1, e2]
end Ix
end Go.Proofs.YtjamjkjmlckgeaaGreatDoor
namespace Go.Proofs.YtjamjkjmlckgeaaGreatDoor
open Go.RowKit

section
variable {P : Program} {w : World} {k bytes : Nat} {t e : TypeId}

theorem Blk.setRow {g : Nat} {cur cs : Array Value} (h : Blk w g e cur) : Blk (w.setRow g cs) g e cs := setRow_heap w g cur cs e (0, 0) h
theorem setRow_same {g : Nat} {cur : Array Value} (h : Blk w g e cur) (o : Nat) : w.setRow g (splice cur.toList o []).toArray = w := by
  have : (splice cur.toList o []).toArray = cur := by simp [splice]
  rw [this]
  exact setRow_self w g cur e (0, 0) h
theorem add_zero_lit (g o : Nat) (i : Nat) : (⟨g, o, none⟩ : Addr).add i = ⟨g, o + i, none⟩ := Addr.add_lit _ _ _

/-- append onto a row that has room. -/
theorem run_append_in (T : SlT P k t e bytes) (ty : TypeId) {g n c : Nat} {cur : Array Value} (hg : Blk w g e cur) (A : Option Addr) (m c2 : Nat) (news : List Value) (hl : news.length = m * k)
    (hA : 0 < m → ∃ ad, A = some ad ∧ ∀ (j : Nat) (u : Value), news[j]? = some u → w.cell? (ad.add j) = some u) (h1 : ∀ u ∈ news, u.oneCell' = true) (hroom : n + m ≤ c) (hfit : n * k + news.length ≤ cur.size) :
    (Builtin.append_ #[t, t] ty #[.slice (some ⟨g, 0, none⟩) n c, .slice A m c2]).run P w = .ok (.slice (some ⟨g, 0, none⟩) (n + m) c) (w.setRow g (splice cur.toList (n * k) news).toArray) := by
  obtain ⟨i, z, hi, hz, hk, hb, hzs⟩ := T.hi
  rcases Nat.eq_zero_or_pos m with h0 | h0
  · subst h0
    have : news = [] := List.eq_nil_of_length_eq_zero (by simpa using hl)
    subst this
    rw [setRow_same hg]
    cases A <;> simp [Builtin.append_, run_underlying T.ht, sizeOf, typeInfo, hi, Builtin.lenOf, Builtin.firstCells, storeCells, loadCells, loadCellsFrom, show n ≤ c by omega]
  · obtain ⟨ad, rfl, hc⟩ := hA h0
    have := run_append_room (P := P) w t ty e i T.ht hi g n c cur hg ad m c2 news (by rw [hk]; exact hl) hc h1 hroom (by rw [hk]; exact hfit)
    rw [this, hk]
    simp [splice]

/-- copy into a row. -/
theorem run_copy_in (T : SlT P k t e bytes) {g o : Nat} {cur : Array Value} (hg : Blk w g e cur) (dp A : Option Addr) (dLen dCap sLen sCap : Nat) (cs : List Value) (hl : cs.length = Nat.min sLen dLen * k)
    (hpos : 0 < cs.length → dp = some ⟨g, o, none⟩ ∧ ∃ ad, A = some ad ∧ ∀ (j : Nat) (u : Value), cs[j]? = some u → w.cell? (ad.add j) = some u) (h1 : ∀ u ∈ cs, u.oneCell' = true) (hfit : o + cs.length ≤ cur.size) (ty : TypeId) :
    (Builtin.copy_ #[t, t] ty #[.slice dp dLen dCap, .slice A sLen sCap]).run P w = .ok (.int .i64 (Nat.min sLen dLen : Nat)) (w.setRow g (splice cur.toList o cs).toArray) := by
  obtain ⟨i, z, hi, hz, hk, hb, hzs⟩ := T.hi
  rcases Nat.eq_zero_or_pos cs.length with h0 | h0
  · have : cs = [] := List.eq_nil_of_length_eq_zero h0
    subst this
    rw [setRow_same hg]
    have h2 : Nat.min sLen dLen * k = 0 := by simpa using hl.symm
    cases A <;> cases dp <;> simp [Builtin.copy_, run_underlying T.ht, sizeOf, typeInfo, hi, hk, Builtin.lenOf, Builtin.firstCells, h2, storeCells, loadCells, loadCellsFrom, goInt]
  · obtain ⟨rfl, ad, rfl, hc⟩ := hpos h0
    have hld := run_loadCells_list (P := P) w ad cs hc
    have hst := run_storeCells_at P g o e cs 0 cur w hg (by simpa using hfit) h1
    simp [Builtin.copy_, run_underlying T.ht, Builtin.lenOf, Builtin.firstCells, sizeOf, typeInfo, hi, hk, ← hl, hld, hst, goInt, splice]

theorem zeroCells_one (z : Array Value) (h0 : 0 < z.size) (h : ∀ u ∈ z.toList, u.oneCell' = true) (m : Nat) : ∀ u ∈ (Builtin.zeroCells z m).toList, u.oneCell' = true := by
  intro u hu
  simp only [Builtin.zeroCells, Array.toList_map, Array.toList_range, List.mem_map, List.mem_range] at hu
  obtain ⟨i, _, rfl⟩ := hu
  have hlt : i % z.size < z.size := Nat.mod_lt _ h0
  rw [getElem!_pos z (i % z.size) hlt]
  exact h _ (by simp)
/-- clear on a part of a row. -/
theorem run_clear_in (T : SlT P k t e bytes) {g o : Nat} {cur : Array Value} (hg : Blk w g e cur) (m c : Nat) (h0 : 0 < m) (hk0 : 0 < k) (hone : ∀ i z, P.info? e = some i → i.zero = some z → ∀ u ∈ z.cells.toList, u.oneCell' = true) (hfit : o + m * k ≤ cur.size) : ∃ zs : List Value, zs.length = m * k ∧ ∀ ty : TypeId,
    (Builtin.clear_ #[t] ty #[.slice (some ⟨g, o, none⟩) m c]).run P w = .ok (.tuple #[]) (w.setRow g (splice cur.toList o zs).toArray) := by
  obtain ⟨i, z, hi, hz, hk, hb, hzs⟩ := T.hi
  have hlen : (Builtin.zeroCells z.cells m).toList.length = m * k := by rw [Array.length_toList, size_zeroCells, hzs]
  have hst := run_storeCells_at P g o e (Builtin.zeroCells z.cells m).toList 0 cur w hg (by rw [hlen]; simpa using hfit) (zeroCells_one z.cells (by omega) (hone i z hi hz) m)
  refine ⟨_, hlen, fun ty => ?_⟩
  obtain ⟨m', rfl⟩ : ∃ m', m = m' + 1 := ⟨m - 1, by omega⟩
  simp [Builtin.clear_, run_underlying T.ht, zeroValue, typeInfo, hi, hz, hst, splice]
end
section
variable {P : Program} {w w' : World} {o : Oper} {a : Act} {K : Act → World → Prop} {Q : Exit → Act → World → Prop} {ts : Array TypeId} {v vx vy : Value} {ops : Array Oper} {rest : List Oper}
theorem wp_append_run (x y : Operand) (ho : o.op = .call { callee := .builtin .append, args := #[x, y], argTypes := ts }) (hx : a.eval x = vx) (hy : a.eval y = vy)
    (hrun : (Builtin.append_ ts o.type #[vx, vy]).run P w = .ok v w') (h : K (a.put o.dst v) w') : o.wp P a w K Q := by
  unfold Oper.wp execOp
  simp only [ho, resolve, invoke, builtin, Sem.run_bind, Sem.run_pure, Result.andThen_ok, List.map_toArray, List.map_cons, List.map_nil, hx, hy, hrun]
  exact h
theorem wp_copy_run (x y : Operand) (ho : o.op = .call { callee := .builtin .copy, args := #[x, y], argTypes := ts }) (hx : a.eval x = vx) (hy : a.eval y = vy)
    (hrun : (Builtin.copy_ ts o.type #[vx, vy]).run P w = .ok v w') (h : K (a.put o.dst v) w') : o.wp P a w K Q := by
  unfold Oper.wp execOp
  simp only [ho, resolve, invoke, builtin, Sem.run_bind, Sem.run_pure, Result.andThen_ok, List.map_toArray, List.map_cons, List.map_nil, hx, hy, hrun]
  exact h
theorem wp_clear_run (x : Operand) (ho : o.op = .call { callee := .builtin .clear, args := #[x], argTypes := ts }) (hx : a.eval x = vx)
    (hrun : (Builtin.clear_ ts o.type #[vx]).run P w = .ok v w') (h : K (a.put o.dst v) w') : o.wp P a w K Q := by
  unfold Oper.wp execOp
  simp only [ho, resolve, invoke, builtin, Sem.run_bind, Sem.run_pure, Result.andThen_ok, List.map_toArray, List.map_cons, List.map_nil, hx, hrun]
  exact h
theorem wpList_of_wp (hgd : Region.wanted o (yielded ops a.tmps) = true) (h : ∀ K : Act → World → Prop, (∀ a w, wpList P ops Q rest a w → K a w) → o.wp P a w K Q) : wpList P ops Q (o :: rest) a w := by
  refine wpList_step fun K hK => ?_
  rw [if_pos hgd]
  exact h K hK
theorem wpList_append_run' (hgd : Region.wanted o (yielded ops a.tmps) = true) (x y : Operand) (ho : o.op = .call { callee := .builtin .append, args := #[x, y], argTypes := ts }) (hx : a.eval x = vx) (hy : a.eval y = vy)
    (hrun : (Builtin.append_ ts o.type #[vx, vy]).run P w = .ok v w') (h : wpList P ops Q rest (a.put o.dst v) w') : wpList P ops Q (o :: rest) a w :=
  wpList_of_wp hgd fun _ hK => wp_append_run x y ho hx hy hrun (hK _ _ h)
theorem wpList_copy_run' (hgd : Region.wanted o (yielded ops a.tmps) = true) (x y : Operand) (ho : o.op = .call { callee := .builtin .copy, args := #[x, y], argTypes := ts }) (hx : a.eval x = vx) (hy : a.eval y = vy)
    (hrun : (Builtin.copy_ ts o.type #[vx, vy]).run P w = .ok v w') (h : wpList P ops Q rest (a.put o.dst v) w') : wpList P ops Q (o :: rest) a w :=
  wpList_of_wp hgd fun _ hK => wp_copy_run x y ho hx hy hrun (hK _ _ h)
theorem wpList_clear_run' (hgd : Region.wanted o (yielded ops a.tmps) = true) (x : Operand) (ho : o.op = .call { callee := .builtin .clear, args := #[x], argTypes := ts }) (hx : a.eval x = vx)
    (hrun : (Builtin.clear_ ts o.type #[vx]).run P w = .ok v w') (h : wpList P ops Q rest (a.put o.dst v) w') : wpList P ops Q (o :: rest) a w :=
  wpList_of_wp hgd fun _ hK => wp_clear_run x ho hx hrun (hK _ _ h)
end
/-- The cells of what is owned. -/
theorem Own.cells {α : Type} {C : Codec α} {M : Nat → Prop} {w : World} {B g n c : Nat} {e : TypeId} {l : List α} {cur : Array Value} (h : Own C M w B e (.slice (some ⟨g, 0, none⟩) n c) l) (hb : Blk w g e cur) :
    cur.size = c * C.n ∧ Els C (fun b => M b ∨ b = g) w (cur.toList.take (l.length * C.n)) l := by
  obtain ⟨xs, ho, he⟩ := h
  rcases ho.2 with ⟨h, _⟩ | ⟨g', cap, cur', hv, _, hb', _, _, h3, htk⟩
  · cases h
  · injection hv with hv1 hv2 hv3
    injection hv1 with hv1
    injection hv1 with hv1
    subst hv1 hv3
    have : cur' = cur := by have h1 := hb'.symm.trans hb; simpa using h1
    subst this
    rw [htk]
    exact ⟨h3, he.sub fun b _ hor => hor.imp id fun e => by rw [e]; rfl⟩
/-- A row that is known whole is owned. -/
theorem Own.mk_row {α : Type} {C : Codec α} {M : Nat → Prop} {w : World} {B g n c : Nat} {e : TypeId} {l : List α} {cur : Array Value} {xs : List Value} (hb : Blk w g e cur) (hB : B ≤ g) (hsz : cur.size = c * C.n) (hn : l.length = n) (hc : n ≤ c) (hm : c ≤ maxLen)
    (he : Els C (fun b => M b ∨ b = g) w xs l) (hx : cur.toList.take (n * C.n) = xs) : Own C M w B e (.slice (some ⟨g, 0, none⟩) n c) l := by
  subst hn
  refine ⟨xs, ⟨he.1, .inr ⟨g, c, cur, rfl, hB, hb, hc, hm, hsz, hx⟩⟩, he.sub fun b _ hor => hor.imp id fun h => ?_⟩
  simp only [Value.ownBlock, Option.some.injEq] at h
  exact h.symm
theorem splice_take {α : Type} (L D : List α) (a n : Nat) (h : a + D.length ≤ L.length) (hn : n = a + D.length) : (splice L a D).take n = L.take a ++ D := by
  subst hn
  have h1 : (L.take a).length = a := by rw [List.length_take]; omega
  rw [splice, ← List.append_assoc, List.take_append_of_le_length (by rw [List.length_append, h1]; omega), List.take_of_length_le (by rw [List.length_append, h1]; omega)]
/-- A gap made, and filled. -/
theorem splice_two {α : Type} (L X D : List α) (a b n : Nat) (hb : X.length = b) (h : a + b + D.length ≤ L.length) (hn : n = a + b + D.length) : (splice (splice L (a + b) D) a X).take n = L.take a ++ (X ++ D) := by
  subst hb hn
  have hl : (splice L (a + X.length) D).length = L.length := length_splice _ _ _ h
  have h1 : (L.take a).length = a := by rw [List.length_take]; omega
  have e1 : (splice L (a + X.length) D).take a = L.take a := by
    rw [splice, List.take_append_of_le_length (by rw [List.length_take]; omega), List.take_take, Nat.min_eq_left (by omega)]
  have e2 : (splice L (a + X.length) D).drop (a + X.length) = D ++ L.drop (a + X.length + D.length) := by
    have h2 : (L.take (a + X.length)).length = a + X.length := by rw [List.length_take]; omega
    have h3 := List.drop_left (l₁ := L.take (a + X.length)) (l₂ := D ++ L.drop (a + X.length + D.length))
    rw [h2] at h3
    exact h3
  rw [splice, e1, e2, ← List.append_assoc, ← List.append_assoc, List.take_append_of_le_length (by simp only [List.length_append, h1]; omega), List.take_of_length_le (by simp only [List.length_append, h1]; omega), List.append_assoc]
/-- Filled, and the rest behind. -/
theorem splice_two' {α : Type} (L X D : List α) (a b n : Nat) (hb : X.length = b) (h : a + b + D.length ≤ L.length) (hn : n = a + b + D.length) : (splice (splice L a X) (a + b) D).take n = L.take a ++ (X ++ D) := by
  subst hb
  have hl : (splice L a X).length = L.length := length_splice _ _ _ (by omega)
  rw [splice_take _ _ _ _ (by rw [hl]; omega) hn, splice_take _ _ _ _ (by omega) rfl, List.append_assoc]
/-- The model's own entry for slices.overlaps, at two rows of two blocks. -/
theorem run_overlaps_rows {P : Program} {w : World} {k bytes : Nat} {t e : TypeId} (T : SlT P k t e bytes) (tR : TypeId) {ga gb oa ob la ca lb cb : Nat} {ca' cb' : Array Value} (ha : Blk w ga e ca') (hb : Blk w gb e cb') (hne : ga ≠ gb) (hcb : cb'.size ≠ 0) :
    (Extern.SlicesOverlaps.overlaps #[t, t] #[tR] #[.slice (some ⟨ga, oa, none⟩) la ca, .slice (some ⟨gb, ob, none⟩) lb cb]).run P w = .ok (.bool false) w := by
  obtain ⟨i, z, hi, hz, hk, hb', hzs⟩ := T.hi
  unfold Blk at ha hb
  exact Lib.run_overlaps_apart w t tR e T.ht i.size (fun w => by simp [sizeOf, typeInfo, hi]) ⟨ga, oa, none⟩ ⟨gb, ob, none⟩ la ca lb cb hne e e ca'.size cb'.size (by simp [World.shape?, ha]) (by simp [World.shape?, hb]) hcb (by simp [World.frozen?, ha]) (by simp [World.frozen?, ha])
end Go.Proofs.YtjamjkjmlckgeaaGreatDoor

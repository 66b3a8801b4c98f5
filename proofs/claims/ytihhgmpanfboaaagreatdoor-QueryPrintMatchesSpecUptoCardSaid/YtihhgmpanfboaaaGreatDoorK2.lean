/-
  Contracts and plain facts, one after another: Sorted lists of keys and values: look-up, insertion, removal; two of the same look-ups are one. No program is named here; Indexes: what the code and the reference compute; plain; Queries: their levels, their nodes in order, the fault; plain.
-/
import Derived.Test.YtihhgmpanfboaaaGreatDoorK1
namespace Go.Proofs.YtihhgmpanfboaaaGreatDoor
namespace Al
/-- a strict order in which any two keys are compared -/
structure Tot {K : Type} (lt : K → K → Bool) : Prop where
  irrefl : ∀ a, lt a a = false
  trans : ∀ a b c, lt a b = true → lt b c = true → lt a c = true
  total : ∀ a b, lt a b = false → lt b a = false → a = b
variable {K V : Type} {lt : K → K → Bool}
theorem Tot.asymm (h : Tot lt) {a b : K} (hab : lt a b = true) : lt b a = false := by
  cases hb : lt b a with
  | false => rfl
  | true => have := h.trans _ _ _ hab hb; rw [h.irrefl] at this; cases this
theorem Tot.ne (h : Tot lt) {a b : K} (hab : lt a b = true) : a ≠ b := by
  intro e
  subst e
  rw [h.irrefl] at hab
  cases hab
def Sorted (lt : K → K → Bool) (l : List (K × V)) : Prop := l.Pairwise fun a b => lt a.1 b.1 = true
theorem sorted_filter {l : List (K × V)} (hs : Sorted lt l) (p : K × V → Bool) : Sorted lt (l.filter p) := List.Pairwise.sublist List.filter_sublist hs
theorem sorted_map {W : Type} (g : V → W) {l : List (K × V)} (hs : Sorted lt l) : Sorted lt (l.map fun p => (p.1, g p.2)) := by
  unfold Sorted
  rw [List.pairwise_map]
  exact hs
variable [DecidableEq K]
def look : List (K × V) → K → Option V
  | [], _ => none
  | p :: l, k => if p.1 = k then some p.2 else look l k
theorem look_none {l : List (K × V)} {k : K} (h : ∀ p ∈ l, p.1 ≠ k) : look l k = none := by
  induction l with
  | nil => rfl
  | cons p l ih =>
    rw [look, if_neg (h p List.mem_cons_self)]
    exact ih fun q hq => h q (List.mem_cons_of_mem _ hq)
theorem look_mem {l : List (K × V)} {k : K} {v : V} (h : look l k = some v) : (k, v) ∈ l := by
  induction l with
  | nil => cases h
  | cons p l ih =>
    rw [look] at h
    split at h
    · rename_i e
      injection h with h
      have : p.1 = k := e
      rw [← this, ← h]
      exact List.mem_cons_self
    · exact List.mem_cons_of_mem _ (ih h)
theorem look_of_mem (ht : Tot lt) {l : List (K × V)} (hs : Sorted lt l) {k : K} {v : V} (h : (k, v) ∈ l) : look l k = some v := by
  induction l with
  | nil => cases h
  | cons p l ih =>
    unfold Sorted at hs
    rw [List.pairwise_cons] at hs
    rw [look]
    rcases List.mem_cons.1 h with e | e
    · subst e; simp
    · have := ht.ne (hs.1 _ e)
      rw [if_neg this]
      exact ih hs.2 e
theorem look_none_iff {l : List (K × V)} {k : K} : look l k = none ↔ ∀ p ∈ l, p.1 ≠ k := by
  refine ⟨fun h p hp e => ?_, look_none⟩
  induction l with
  | nil => cases hp
  | cons q l ih =>
    rw [look] at h
    split at h
    · cases h
    · rename_i e2
      rcases List.mem_cons.1 hp with e3 | e3
      · subst e3; exact e2 e
      · exact ih h e3
/-- one of the same look-ups -/
theorem ext (ht : Tot lt) : ∀ {l l' : List (K × V)}, Sorted lt l → Sorted lt l' → (∀ k, look l k = look l' k) → l = l'
  | [], [], _, _, _ => rfl
  | [], p :: l', _, _, h => by have := h p.1; simp [look] at this
  | p :: l, [], _, _, h => by have := h p.1; simp [look] at this
  | p :: l, q :: l', hs, hs', h => by
    have hs0 := hs
    have hs0' := hs'
    unfold Sorted at hs hs'
    rw [List.pairwise_cons] at hs hs'
    have hpq : p.1 = q.1 := by
      apply ht.total
      · cases hlt : lt p.1 q.1 with
        | false => rfl
        | true =>
          exfalso
          have h1 := h p.1
          rw [look_of_mem ht hs0 (show (p.1, p.2) ∈ p :: l from List.mem_cons_self)] at h1
          have h2 := look_mem h1.symm
          rcases List.mem_cons.1 h2 with e | e
          · exact ht.ne hlt (by rw [← e])
          · have := ht.asymm (hs'.1 _ e); simp only at this; rw [hlt] at this; cases this
      · cases hlt : lt q.1 p.1 with
        | false => rfl
        | true =>
          exfalso
          have h1 := h q.1
          rw [look_of_mem ht hs0' (show (q.1, q.2) ∈ q :: l' from List.mem_cons_self)] at h1
          have h2 := look_mem h1
          rcases List.mem_cons.1 h2 with e | e
          · exact ht.ne hlt (by rw [← e])
          · have := ht.asymm (hs.1 _ e); simp only at this; rw [hlt] at this; cases this
    have hv : p.2 = q.2 := by
      have h1 := h p.1
      rw [look, look, hpq] at h1
      simpa using h1
    have : p = q := Prod.ext hpq hv
    subst this
    congr 1
    refine ext ht hs.2 hs'.2 fun k => ?_
    have h1 := h k
    rw [look, look] at h1
    split at h1
    · rename_i e
      have e' : p.1 = k := e
      rw [look_none fun r hr e2 => ht.ne (hs.1 r hr) (e'.trans e2.symm), look_none fun r hr e2 => ht.ne (hs'.1 r hr) (e'.trans e2.symm)]
    · exact h1
/-- the value at a key is made anew -/
def upd (lt : K → K → Bool) (f : Option V → V) (k : K) : List (K × V) → List (K × V)
  | [] => [(k, f none)]
  | p :: l => if lt p.1 k then p :: upd lt f k l else if p.1 = k then (k, f (some p.2)) :: l else (k, f none) :: p :: l
theorem key_upd {f : Option V → V} {k : K} {l : List (K × V)} {q : K × V} (h : q ∈ upd lt f k l) : q.1 = k ∨ q ∈ l := by
  induction l with
  | nil => simp [upd] at h; subst h; exact .inl rfl
  | cons p l ih =>
    rw [upd] at h
    split at h
    · rcases List.mem_cons.1 h with e | e
      · exact .inr (e ▸ List.mem_cons_self)
      · exact (ih e).imp id fun h => List.mem_cons_of_mem _ h
    · split at h
      · rcases List.mem_cons.1 h with e | e
        · subst e; exact .inl rfl
        · exact .inr (List.mem_cons_of_mem _ e)
      · rcases List.mem_cons.1 h with e | e
        · subst e; exact .inl rfl
        · exact .inr e
theorem sorted_upd (ht : Tot lt) {f : Option V → V} {k : K} {l : List (K × V)} (hs : Sorted lt l) : Sorted lt (upd lt f k l) := by
  induction l with
  | nil => unfold Sorted; simp [upd]
  | cons p l ih =>
    have hs0 := hs
    unfold Sorted at hs
    rw [List.pairwise_cons] at hs
    rw [upd]
    unfold Sorted
    split
    · rename_i hlt
      refine List.pairwise_cons.2 ⟨fun q hq => ?_, ih hs.2⟩
      rcases key_upd hq with e | e
      · rw [e]; exact hlt
      · exact hs.1 _ e
    · rename_i hlt
      split
      · rename_i e
        have e' : p.1 = k := e
        exact List.pairwise_cons.2 ⟨fun q hq => by rw [← e']; exact hs.1 q hq, hs.2⟩
      · rename_i e
        have hkp : lt k p.1 = true := by
          cases h : lt k p.1 with
          | true => rfl
          | false => exact absurd (ht.total _ _ (by simpa using hlt) h) e
        refine List.pairwise_cons.2 ⟨fun q hq => ?_, hs0⟩
        rcases List.mem_cons.1 hq with e2 | e2
        · rw [e2]; exact hkp
        · exact ht.trans _ _ _ hkp (hs.1 _ e2)
theorem look_upd (ht : Tot lt) {f : Option V → V} {k : K} {l : List (K × V)} (hs : Sorted lt l) (k' : K) : look (upd lt f k l) k' = if k' = k then some (f (look l k)) else look l k' := by
  induction l with
  | nil =>
    rw [upd, look]
    by_cases h : k' = k
    · subst h; simp [look]
    · have : ¬ k = k' := fun e => h e.symm
      simp [look, h, this]
  | cons p l ih =>
    have hs0 := hs
    unfold Sorted at hs
    rw [List.pairwise_cons] at hs
    rw [upd]
    split
    · rename_i hlt
      have hne := ht.ne hlt
      have e1 : ¬ p.1 = k := hne
      rw [look, ih hs.2]
      by_cases h : k' = k
      · subst h
        simp [look, e1]
      · simp only [h, if_false, look]
    · rename_i hlt
      split
      · rename_i e
        have e' : p.1 = k := e
        rw [look]
        by_cases h : k' = k
        · subst h
          simp [look, e]
        · have h2 : ¬ k = k' := fun e => h e.symm
          have h3 : ¬ p.1 = k' := by rw [e']; exact h2
          simp [look, h, h2, h3]
      · rename_i e
        have hkp : lt k p.1 = true := by
          cases h : lt k p.1 with
          | true => rfl
          | false => exact absurd (ht.total _ _ (by simpa using hlt) h) e
        have hn : look (p :: l) k = none := look_none fun q hq e2 => by
          rcases List.mem_cons.1 hq with e3 | e3
          · subst e3; exact ht.ne hkp e2.symm
          · exact ht.ne (ht.trans _ _ _ hkp (hs.1 _ e3)) e2.symm
        rw [look, hn]
        by_cases h : k' = k
        · subst h; simp
        · have h2 : ¬ k = k' := fun e => h e.symm
          simp [h, h2]
theorem look_filter (ht : Tot lt) {l : List (K × V)} (hs : Sorted lt l) (p : K × V → Bool) (k : K) : look (l.filter p) k = (look l k).bind fun v => if p (k, v) then some v else none := by
  cases h : look l k with
  | none =>
    rw [look_none_iff] at h
    exact look_none fun q hq => h q (List.mem_filter.1 hq).1
  | some v =>
    have hm := look_mem h
    show _ = if p (k, v) then some v else none
    split
    · rename_i hp
      exact look_of_mem ht (sorted_filter hs p) (List.mem_filter.2 ⟨hm, hp⟩)
    · rename_i hp
      refine look_none fun q hq e => hp ?_
      obtain ⟨h1, h2⟩ := List.mem_filter.1 hq
      have h3 := look_of_mem ht hs (show (q.1, q.2) ∈ l from h1)
      rw [e, h] at h3
      injection h3 with h3
      rw [h3, ← e]
      exact h2
/-- values turned in place -/
theorem look_map {W : Type} (g : V → W) (l : List (K × V)) (k : K) : look (l.map fun p => (p.1, g p.2)) k = (look l k).map g := by
  induction l with
  | nil => rfl
  | cons p l ih =>
    rw [List.map_cons, look, look, ih]
    split <;> rfl
/-- upd by a position: what stands ahead of it is smaller, what stands there and behind is not -/
theorem upd_at (ht : Tot lt) {f : Option V → V} {k : K} : ∀ {l : List (K × V)}, Sorted lt l → ∀ (i : Nat), i ≤ l.length → (∀ (m : Nat) (h : m < l.length), m < i → lt l[m].1 k = true) → (∀ (h : i < l.length), lt l[i].1 k = false) →
    upd lt f k l = l.take i ++ (match l[i]? with | some p => if p.1 = k then (k, f (some p.2)) :: l.drop (i + 1) else (k, f none) :: l.drop i | none => [(k, f none)])
  | [], _, i, hi, _, _ => by
    have : i = 0 := by simpa using hi
    subst this
    simp [upd]
  | p :: l, hs, 0, _, _, h2 => by
    have h3 := h2 (by simp)
    simp only [List.getElem_cons_zero] at h3
    rw [upd, if_neg (by rw [h3]; simp)]
    simp
  | p :: l, hs, i + 1, hi, h1, h2 => by
    have h3 := h1 0 (by simp) (by omega)
    simp only [List.getElem_cons_zero] at h3
    unfold Sorted at hs
    rw [List.pairwise_cons] at hs
    rw [upd, if_pos h3, upd_at ht hs.2 i (by simpa using hi) (fun m hm hmi => h1 (m + 1) (by simpa using hm) (by omega)) (fun h => h2 (by simpa using h))]
    simp
end Al
theorem tot_int : Al.Tot (fun a b : Int => decide (a < b)) where
  irrefl a := by simp
  trans a b c h1 h2 := by simp at h1 h2 ⊢; omega
  total a b h1 h2 := by simp at h1 h2; omega
theorem tot_str : Al.Tot ltS where
  irrefl := ltS_irrefl
  trans a b c := ltS_trans
  total a b h1 h2 := by
    rcases ltS_total a b with h | h | h
    · rw [h] at h1; cases h1
    · exact h
    · rw [h] at h2; cases h2
end Go.Proofs.YtihhgmpanfboaaaGreatDoor
namespace Go.Proofs.YtihhgmpanfboaaaGreatDoor
namespace Ix
abbrev Post := Int × List Int
abbrev Term := Str × List Post
abbrev Idx := List Int × List Term
def ltI (a b : Int) : Bool := decide (a < b)
theorem totI : Al.Tot ltI := tot_int
/-- number i of a list is in its range, and greater than the one ahead of it -/
def okAt (l : List Int) (low : Int) (i : Nat) : Bool := (decide (low ≤ l.getD i 0) && decide (l.getD i 0 ≤ 1000000)) && (decide (i = 0) || decide (l.getD (i - 1) 0 < l.getD i 0))
def rising (l : List Int) (low : Int) : Bool := (List.range l.length).all (okAt l low)
theorem rising_iff (l : List Int) (low : Int) : rising l low = true ↔ l.Pairwise (· < ·) ∧ ∀ n ∈ l, low ≤ n ∧ n ≤ 1000000 := by
  unfold rising
  rw [List.all_eq_true]
  constructor
  · intro h
    have hi : ∀ i (hi : i < l.length), low ≤ l[i] ∧ l[i] ≤ 1000000 ∧ ∀ (h0 : 0 < i), l[i - 1] < l[i] := by
      intro i hi
      have := h i (List.mem_range.2 hi)
      unfold okAt at this
      rw [List.getD_eq_getElem?_getD, List.getElem?_eq_getElem hi, Option.getD_some] at this
      simp only [Bool.and_eq_true, Bool.or_eq_true, decide_eq_true_eq] at this
      refine ⟨this.1.1, this.1.2, fun h0 => ?_⟩
      rcases this.2 with e | e
      · omega
      · rw [List.getD_eq_getElem?_getD, List.getElem?_eq_getElem (by omega), Option.getD_some] at e
        exact e
    have key : ∀ (j i : Nat) (hij : i < j) (hj : j < l.length), l[i] < l[j] := by
      intro j
      induction j with
      | zero => intro i hij; omega
      | succ j ih =>
        intro i hij hj
        have h1 := (hi (j + 1) hj).2.2 (by omega)
        simp only [Nat.add_sub_cancel] at h1
        by_cases e : i = j
        · subst e; exact h1
        · exact Int.lt_trans (ih i (by omega) (by omega)) h1
    refine ⟨List.pairwise_iff_getElem.2 fun i j hi' hj' hij => key j i hij hj', fun n hn => ?_⟩
    obtain ⟨i, hi', rfl⟩ := List.mem_iff_getElem.1 hn
    exact ⟨(hi i hi').1, (hi i hi').2.1⟩
  · rintro ⟨hp, hr⟩ i hi
    have hi := List.mem_range.1 hi
    unfold okAt
    rw [List.getD_eq_getElem?_getD, List.getElem?_eq_getElem hi, Option.getD_some]
    have h1 := hr _ (List.getElem_mem hi)
    simp only [Bool.and_eq_true, Bool.or_eq_true, decide_eq_true_eq]
    refine ⟨h1, ?_⟩
    by_cases h0 : i = 0
    · exact .inl h0
    · right
      rw [List.getD_eq_getElem?_getD, List.getElem?_eq_getElem (show i - 1 < l.length by omega), Option.getD_some]
      exact List.pairwise_iff_getElem.1 hp (i - 1) i (by omega) hi (by omega)
/-- the code of the first error of postings -/
def postErr (ids : List Int) : List Post → Int
  | [] => 0
  | p :: r => if p.2.length = 0 ∨ rising p.2 0 = false then 19 else if ids.contains p.1 = false then 6 else postErr ids r
def wordBad (ts : List Term) (i : Nat) : Bool := decide (0 < i) && !ltS (ts.getD (i - 1) ([], [])).1 (ts.getD i ([], [])).1
def termErr (ids : List Int) (ts : List Term) (i : Nat) : Int :=
  if postErr ids (ts.getD i ([], [])).2 ≠ 0 then postErr ids (ts.getD i ([], [])).2
  else if (ts.getD i ([], [])).1.length = 0 ∨ 8000 < (ts.getD i ([], [])).1.length then 10
  else if (ts.getD i ([], [])).2.length = 0 ∨ rising ((ts.getD i ([], [])).2.map fun p => p.1) 1 = false ∨ wordBad ts i = true then 19 else 0
def faultGo (x : Idx) : Nat → Nat → Int × Int
  | 0, _ => (0, 0)
  | f + 1, k => if termErr x.1 x.2 k = 0 then faultGo x f (k + 1) else (termErr x.1 x.2 k, (k : Int))
def indexF (x : Idx) : Int × Int := if 300 < x.1.length then (2, -1) else if rising x.1 1 = false then (19, -1) else if 1000000 < x.2.length then (2, -2) else faultGo x x.2.length 0
/-- what a valid index is -/
structure Canon (x : Idx) : Prop where
  few : x.1.length ≤ 300
  ids : x.1.Pairwise (· < ·)
  idr : ∀ n ∈ x.1, 1 ≤ n ∧ n ≤ 1000000
  many : x.2.length ≤ 1000000
  srt : Al.Sorted ltS x.2
  word : ∀ t ∈ x.2, t.1 ≠ [] ∧ t.1.length ≤ 8000
  post : ∀ t ∈ x.2, t.2 ≠ [] ∧ Al.Sorted ltI t.2 ∧ ∀ p ∈ t.2, p.1 ∈ x.1 ∧ p.2 ≠ [] ∧ p.2.Pairwise (· < ·) ∧ ∀ n ∈ p.2, 0 ≤ n ∧ n ≤ 1000000
theorem postErr_zero (ids : List Int) : ∀ ps : List Post, postErr ids ps = 0 ↔ ∀ p ∈ ps, p.1 ∈ ids ∧ p.2 ≠ [] ∧ rising p.2 0 = true
  | [] => by simp [postErr]
  | p :: r => by
    rw [postErr]
    by_cases h1 : p.2.length = 0 ∨ rising p.2 0 = false
    · rw [if_pos h1]
      constructor
      · intro h; omega
      · intro h
        obtain ⟨_, h2, h3⟩ := h p List.mem_cons_self
        rcases h1 with h1 | h1
        · exact absurd (List.eq_nil_of_length_eq_zero h1) h2
        · rw [h3] at h1; cases h1
    · rw [if_neg h1]
      have h1' : p.2 ≠ [] ∧ rising p.2 0 = true := ⟨fun e => h1 (.inl (by rw [e]; rfl)), by cases h : rising p.2 0 with | true => rfl | false => exact absurd (.inr h) h1⟩
      by_cases h2 : ids.contains p.1 = false
      · rw [if_pos h2]
        constructor
        · intro h; omega
        · intro h
          have := (h p List.mem_cons_self).1
          rw [List.contains_iff_mem.2 this] at h2; cases h2
      · rw [if_neg h2, postErr_zero ids r]
        have h2' : p.1 ∈ ids := by simpa using h2
        constructor
        · intro h q hq
          rcases List.mem_cons.1 hq with e | e
          · subst e; exact ⟨h2', h1'⟩
          · exact h q e
        · exact fun h q hq => h q (List.mem_cons_of_mem _ hq)
theorem pair_sorted (ps : List Post) : (ps.map fun p => p.1).Pairwise (· < ·) ↔ Al.Sorted ltI ps := by
  unfold Al.Sorted ltI
  rw [List.pairwise_map]
  simp
theorem faultGo_zero (x : Idx) : ∀ (f k : Nat), (faultGo x f k).1 = 0 ↔ ∀ j, k ≤ j → j < k + f → termErr x.1 x.2 j = 0
  | 0, k => by
    refine ⟨fun _ j h1 h2 => by omega, fun _ => rfl⟩
  | f + 1, k => by
    rw [faultGo]
    split
    · rename_i h0
      rw [faultGo_zero x f (k + 1)]
      constructor
      · intro h j h1 h2
        by_cases e : j = k
        · rw [e]; exact h0
        · exact h j (by omega) (by omega)
      · exact fun h j h1 h2 => h j (by omega) (by omega)
    · rename_i h0
      constructor
      · intro h; exact absurd h h0
      · intro h; exact absurd (h k (by omega) (by omega)) h0
theorem faultGo_zero2 (x : Idx) : ∀ (f k : Nat), (faultGo x f k).1 = 0 → faultGo x f k = (0, 0)
  | 0, _, _ => rfl
  | f + 1, k, h => by
    rw [faultGo] at h ⊢
    split at h
    · rename_i h0; rw [if_pos h0]; exact faultGo_zero2 x f (k + 1) h
    · rename_i h0; exact absurd h h0
theorem getD_get {α : Type} {l : List α} {i : Nat} (h : i < l.length) (d : α) : l.getD i d = l[i] := by
  rw [List.getD_eq_getElem?_getD, List.getElem?_eq_getElem h, Option.getD_some]
theorem termErr_zero (ids : List Int) (ts : List Term) (i : Nat) (hi : i < ts.length) : termErr ids ts i = 0 ↔
    (∀ p ∈ ts[i].2, p.1 ∈ ids ∧ p.2 ≠ [] ∧ rising p.2 0 = true) ∧ (ts[i].1 ≠ [] ∧ ts[i].1.length ≤ 8000) ∧ ts[i].2 ≠ [] ∧ rising (ts[i].2.map fun p => p.1) 1 = true ∧ ∀ (h0 : 0 < i), ltS ts[i - 1].1 ts[i].1 = true := by
  unfold termErr
  rw [getD_get hi, ← postErr_zero]
  by_cases h1 : postErr ids ts[i].2 ≠ 0
  · rw [if_pos h1]
    exact ⟨fun h => absurd h h1, fun h => absurd h.1 h1⟩
  · rw [if_neg h1]
    have h1' : postErr ids ts[i].2 = 0 := by simpa using h1
    by_cases h2 : ts[i].1.length = 0 ∨ 8000 < ts[i].1.length
    · rw [if_pos h2]
      constructor
      · intro h; omega
      · rintro ⟨_, ⟨h3, h4⟩, _⟩
        rcases h2 with h2 | h2
        · exact absurd (List.eq_nil_of_length_eq_zero h2) h3
        · omega
    · rw [if_neg h2]
      have h2' : ts[i].1 ≠ [] ∧ ts[i].1.length ≤ 8000 := ⟨fun e => h2 (.inl (by rw [e]; rfl)), by omega⟩
      have hw : wordBad ts i = true ↔ ∃ (h0 : 0 < i), ltS ts[i - 1].1 ts[i].1 = false := by
        unfold wordBad
        rw [getD_get hi]
        by_cases h0 : 0 < i
        · rw [getD_get (show i - 1 < ts.length by omega)]
          simp [h0]
        · simp [h0]
      by_cases h3 : ts[i].2.length = 0 ∨ rising (ts[i].2.map fun p => p.1) 1 = false ∨ wordBad ts i = true
      · rw [if_pos h3]
        constructor
        · intro h; omega
        · rintro ⟨_, _, h4, h5, h6⟩
          rcases h3 with h3 | h3 | h3
          · exact absurd (List.eq_nil_of_length_eq_zero h3) h4
          · rw [h5] at h3; cases h3
          · obtain ⟨h0, h7⟩ := hw.1 h3
            rw [h6 h0] at h7; cases h7
      · rw [if_neg h3]
        refine ⟨fun _ => ⟨h1', h2', fun e => h3 (.inl (by rw [e]; rfl)), ?_, fun h0 => ?_⟩, fun _ => rfl⟩
        · cases h : rising (ts[i].2.map fun p => p.1) 1 with
          | true => rfl
          | false => exact absurd (.inr (.inl h)) h3
        · cases h : ltS ts[i - 1].1 ts[i].1 with
          | true => rfl
          | false => exact absurd (.inr (.inr (hw.2 ⟨h0, h⟩))) h3
theorem sorted_adj {ts : List Term} (h : ∀ (i : Nat) (hi : i < ts.length) (h0 : 0 < i), ltS ts[i - 1].1 ts[i].1 = true) : Al.Sorted ltS ts := by
  have key : ∀ (j i : Nat) (hij : i < j) (hj : j < ts.length), ltS ts[i].1 ts[j].1 = true := by
    intro j
    induction j with
    | zero => intro i hij; omega
    | succ j ih =>
      intro i hij hj
      have h1 := h (j + 1) hj (by omega)
      simp only [Nat.add_sub_cancel] at h1
      by_cases e : i = j
      · subst e; exact h1
      · exact tot_str.trans _ _ _ (ih i (by omega) (by omega)) h1
  exact List.pairwise_iff_getElem.2 fun i j hi hj hij => key j i hij hj
theorem indexF_zero (x : Idx) : (indexF x).1 = 0 ↔ Canon x := by
  unfold indexF
  by_cases h1 : 300 < x.1.length
  · rw [if_pos h1]
    refine ⟨fun h => ?_, fun h => ?_⟩
    · simp only at h; omega
    · have := h.few; omega
  rw [if_neg h1]
  by_cases h2 : rising x.1 1 = false
  · rw [if_pos h2]
    refine ⟨fun h => ?_, fun h => ?_⟩
    · simp only at h; omega
    · rw [(rising_iff _ _).2 ⟨h.ids, h.idr⟩] at h2; cases h2
  rw [if_neg h2]
  have h2' := (rising_iff _ _).1 (by simpa using h2)
  by_cases h3 : 1000000 < x.2.length
  · rw [if_pos h3]
    refine ⟨fun h => ?_, fun h => ?_⟩
    · simp only at h; omega
    · have := h.many; omega
  rw [if_neg h3, faultGo_zero]
  constructor
  · intro h
    have ht := fun (i : Nat) (hi : i < x.2.length) => (termErr_zero x.1 x.2 i hi).1 (h i (by omega) (by omega))
    refine ⟨by omega, h2'.1, h2'.2, by omega, sorted_adj fun i hi h0 => (ht i hi).2.2.2.2 h0, fun t htm => ?_, fun t htm => ?_⟩
    · obtain ⟨i, hi, rfl⟩ := List.mem_iff_getElem.1 htm
      exact (ht i hi).2.1
    · obtain ⟨i, hi, rfl⟩ := List.mem_iff_getElem.1 htm
      obtain ⟨a, b, c, d, e⟩ := ht i hi
      refine ⟨c, (pair_sorted _).1 ((rising_iff _ _).1 d).1, fun p hp => ?_⟩
      obtain ⟨h4, h5, h6⟩ := a p hp
      exact ⟨h4, h5, (rising_iff _ _).1 h6⟩
  · intro h j _ hj
    have hj' : j < x.2.length := by omega
    have hm := List.getElem_mem hj'
    obtain ⟨h4, h5, h6⟩ := h.post _ hm
    refine (termErr_zero x.1 x.2 j hj').2 ⟨fun p hp => ?_, h.word _ hm, h4, ?_, fun h0 => List.pairwise_iff_getElem.1 h.srt (j - 1) j (by omega) hj' (by omega)⟩
    · obtain ⟨a, b, c⟩ := h6 p hp
      exact ⟨a, b, (rising_iff _ _).2 c⟩
    · refine (rising_iff _ _).2 ⟨(pair_sorted _).2 h5, fun n hn => ?_⟩
      obtain ⟨p, hp, rfl⟩ := List.mem_map.1 hn
      exact h.idr _ (h6 p hp).1
theorem indexF_zero2 {x : Idx} (h : (indexF x).1 = 0) : indexF x = (0, 0) := by
  have hc := (indexF_zero x).1 h
  have h2 : rising x.1 1 = true := (rising_iff _ _).2 ⟨hc.ids, hc.idr⟩
  have h1 := hc.few
  have h3 := hc.many
  unfold indexF at h ⊢
  rw [if_neg (by omega), if_neg (by rw [h2]; simp), if_neg (by omega)] at h ⊢
  exact faultGo_zero2 _ _ _ h
/-! ### what is at a place -/
def cont (ts : List Term) (w : Str) (i : Int) : List Int := ((Al.look ts w).bind fun ps => Al.look ps i).getD []
structure Wf (ts : List Term) : Prop where
  srt : Al.Sorted ltS ts
  post : ∀ t ∈ ts, t.2 ≠ [] ∧ Al.Sorted ltI t.2 ∧ ∀ p ∈ t.2, p.2 ≠ []
theorem Canon.wf {x : Idx} (h : Canon x) : Wf x.2 := ⟨h.srt, fun t ht => ⟨(h.post t ht).1, (h.post t ht).2.1, fun p hp => ((h.post t ht).2.2 p hp).2.1⟩⟩
theorem Wf.ext {ts ts' : List Term} (h : Wf ts) (h' : Wf ts') (hc : ∀ w i, cont ts w i = cont ts' w i) : ts = ts' := by
  have some_of : ∀ {ts ts' : List Term} (_ : Wf ts) (_ : Wf ts') (_ : ∀ w i, cont ts w i = cont ts' w i) (w : Str) (ps : List Post), Al.look ts w = some ps → ∃ ps', Al.look ts' w = some ps' := by
    intro ts ts' h h' hc w ps hw
    have hm := Al.look_mem hw
    obtain ⟨h1, h2, h3⟩ := h.post _ hm
    simp only at h1 h2 h3
    obtain ⟨p, r, rfl⟩ : ∃ p r, ps = p :: r := by cases ps with | nil => exact absurd rfl h1 | cons p r => exact ⟨p, r, rfl⟩
    have h4 : cont ts w p.1 = p.2 := by
      unfold cont
      rw [hw]
      show (Al.look (p :: r) p.1).getD [] = _
      rw [Al.look_of_mem totI h2 (show (p.1, p.2) ∈ p :: r from List.mem_cons_self)]
      rfl
    have h5 := h3 p List.mem_cons_self
    rw [hc w p.1] at h4
    cases hw' : Al.look ts' w with
    | some ps' => exact ⟨ps', rfl⟩
    | none =>
      unfold cont at h4
      rw [hw'] at h4
      exact absurd h4.symm h5
  refine Al.ext tot_str h.srt h'.srt fun w => ?_
  cases hw : Al.look ts w with
  | none =>
    cases hw' : Al.look ts' w with
    | none => rfl
    | some ps' => obtain ⟨ps, h1⟩ := some_of h' h (fun w i => (hc w i).symm) w ps' hw'; rw [hw] at h1; cases h1
  | some ps =>
    obtain ⟨ps', hw'⟩ := some_of h h' hc w ps hw
    rw [hw']
    congr 1
    obtain ⟨_, h2, h3⟩ := h.post _ (Al.look_mem hw)
    obtain ⟨_, h2', h3'⟩ := h'.post _ (Al.look_mem hw')
    refine Al.ext totI h2 h2' fun i => ?_
    have h4 := hc w i
    unfold cont at h4
    rw [hw, hw'] at h4
    simp only [Option.bind_some] at h4
    cases e : Al.look ps i with
    | none =>
      cases e' : Al.look ps' i with
      | none => rfl
      | some q => rw [e, e'] at h4; exact absurd h4.symm (h3' _ (Al.look_mem e'))
    | some q =>
      cases e' : Al.look ps' i with
      | none => rw [e, e'] at h4; exact absurd h4 (h3 _ (Al.look_mem e))
      | some q' => rw [e, e'] at h4; exact congrArg some h4
/-- a place of a word of a text is added -/
def putP (id place : Int) (ps : List Post) : List Post := Al.upd ltI (fun q => q.getD [] ++ [place]) id ps
def putT (id place : Int) (w : Str) (ts : List Term) : List Term := Al.upd ltS (fun o => putP id place (o.getD [])) w ts
def putAll (id : Int) : List Str → Nat → List Term → List Term
  | [], _, ts => ts
  | w :: s, n, ts => putAll id s (n + 1) (putT id (n : Int) w ts)
theorem putP_ne (id place : Int) (ps : List Post) : putP id place ps ≠ [] := by
  cases ps with
  | nil => simp [putP, Al.upd]
  | cons p r =>
    unfold putP
    rw [Al.upd]
    split
    · simp
    · split <;> simp
theorem nil_sorted {K V : Type} {lt : K → K → Bool} : Al.Sorted lt ([] : List (K × V)) := List.Pairwise.nil
theorem Wf.get {ts : List Term} (h : Wf ts) (w : Str) : Al.Sorted ltI ((Al.look ts w).getD []) ∧ ∀ p ∈ (Al.look ts w).getD [], p.2 ≠ [] := by
  cases hw : Al.look ts w with
  | none => exact ⟨nil_sorted, by simp⟩
  | some ps => exact (h.post _ (Al.look_mem hw)).2
theorem putP_some {id place : Int} {ps : List Post} (hs : Al.Sorted ltI ps) (h : ∀ p ∈ ps, p.2 ≠ []) : ∀ p ∈ putP id place ps, p.2 ≠ [] := by
  intro p hp
  have h1 := Al.sorted_upd totI (f := fun q : Option (List Int) => q.getD [] ++ [place]) (k := id) hs
  have h2 := Al.look_of_mem totI h1 (show (p.1, p.2) ∈ _ from hp)
  rw [Al.look_upd totI hs] at h2
  split at h2
  · injection h2 with h2; rw [← h2]; simp
  · exact h _ (Al.look_mem h2)
theorem Wf.put {ts : List Term} (h : Wf ts) (id place : Int) (w : Str) : Wf (putT id place w ts) := by
  have h1 := Al.sorted_upd tot_str (f := fun o => putP id place (o.getD [])) (k := w) h.srt
  refine ⟨h1, fun t ht => ?_⟩
  have h2 := Al.look_of_mem tot_str h1 (show (t.1, t.2) ∈ _ from ht)
  rw [Al.look_upd tot_str h.srt] at h2
  split at h2
  · injection h2 with h2
    obtain ⟨h3, h4⟩ := h.get w
    rw [← h2]
    exact ⟨putP_ne _ _ _, Al.sorted_upd totI h3, putP_some h3 h4⟩
  · exact h.post _ (Al.look_mem h2)
theorem cont_put {ts : List Term} (h : Wf ts) (id place : Int) (w w' : Str) (i : Int) : cont (putT id place w ts) w' i = if w' = w ∧ i = id then cont ts w id ++ [place] else cont ts w' i := by
  unfold cont putT
  rw [Al.look_upd tot_str h.srt]
  by_cases hw : w' = w
  · subst hw
    simp only [if_true, true_and, Option.bind_some]
    unfold putP
    rw [Al.look_upd totI (h.get w').1]
    by_cases hi : i = id
    · subst hi
      simp only [if_true, Option.getD_some]
      cases Al.look ts w' <;> rfl
    · simp only [hi, if_false]
      cases Al.look ts w' <;> rfl
  · simp only [hw, if_false, false_and]
/-- where a word stands among others -/
def occ (w : Str) : List Str → Nat → List Int
  | [], _ => []
  | a :: s, n => if a = w then (n : Int) :: occ w s (n + 1) else occ w s (n + 1)
theorem Wf.putAll (id : Int) : ∀ (s : List Str) (n : Nat) {ts : List Term}, Wf ts → Wf (Ix.putAll id s n ts)
  | [], _, _, h => h
  | w :: s, n, _, h => Wf.putAll id s (n + 1) (h.put id n w)
theorem cont_putAll (id : Int) : ∀ (s : List Str) (n : Nat) {ts : List Term}, Wf ts → ∀ (w : Str) (i : Int), cont (putAll id s n ts) w i = if i = id then cont ts w id ++ occ w s n else cont ts w i
  | [], n, ts, h, w, i => by
    rw [putAll, occ, List.append_nil]
    split
    · rename_i e; rw [e]
    · rfl
  | a :: s, n, ts, h, w, i => by
    rw [putAll, cont_putAll id s (n + 1) (h.put id n a) w i, occ]
    by_cases hi : i = id
    · subst hi
      simp only [if_true]
      rw [cont_put h]
      by_cases hw : w = a
      · subst hw; simp
      · have : ¬ a = w := fun e => hw e.symm
        simp [hw, this]
    · simp only [hi, if_false]
      rw [cont_put h]
      simp [hi]
/-- a text is taken out -/
def removeT (id : Int) (ts : List Term) : List Term := (ts.map fun t => (t.1, t.2.filter fun p => !(p.1 == id))).filter fun t => !(t.2.length == 0)
theorem Wf.remove {ts : List Term} (h : Wf ts) (id : Int) : Wf (removeT id ts) := by
  unfold removeT
  refine ⟨Al.sorted_filter (Al.sorted_map _ h.srt) _, fun t ht => ?_⟩
  obtain ⟨h1, h2⟩ := List.mem_filter.1 ht
  obtain ⟨t', ht', rfl⟩ := List.mem_map.1 h1
  obtain ⟨h3, h4, h5⟩ := h.post _ ht'
  refine ⟨fun e => ?_, Al.sorted_filter h4 _, fun p hp => h5 p (List.mem_filter.1 hp).1⟩
  simp only at e
  rw [e] at h2
  simp at h2
theorem cont_remove {ts : List Term} (h : Wf ts) (id : Int) (w : Str) (i : Int) : cont (removeT id ts) w i = if i = id then [] else cont ts w i := by
  unfold cont removeT
  rw [Al.look_filter tot_str (Al.sorted_map _ h.srt), Al.look_map]
  cases hw : Al.look ts w with
  | none => simp
  | some ps =>
    have hs := (h.post _ (Al.look_mem hw)).2.1
    simp only [Option.map_some, Option.bind_some]
    have hl := Al.look_filter totI hs (fun p => !(p.1 == id)) i
    split
    · simp only [Option.bind_some]
      rw [hl]
      cases Al.look ps i with
      | none => simp
      | some q =>
        by_cases hi : i = id
        · subst hi; simp
        · simp [hi]
    · rename_i he
      have he' : ps.filter (fun p => !(p.1 == id)) = [] := List.eq_nil_of_length_eq_zero (by simpa using he)
      rw [he'] at hl
      by_cases hi : i = id
      · simp [hi]
      · simp only [hi, if_false, Option.bind_none]
        cases hq : Al.look ps i with
        | none => rfl
        | some q =>
          rw [hq] at hl
          simp [hi, Al.look] at hl
/-! ### the laws -/
theorem remove_put {ts : List Term} (h : Wf ts) (id : Int) (s : List Str) (hid : ∀ w, cont ts w id = []) : removeT id (putAll id s 0 ts) = ts := by
  have h1 := Wf.putAll id s 0 h
  refine Wf.ext (h1.remove id) h fun w i => ?_
  rw [cont_remove h1]
  split
  · rename_i e; rw [e, hid]
  · rename_i e; rw [cont_putAll id s 0 h, if_neg e]
theorem put_comm {ts : List Term} (h : Wf ts) (id id' : Int) (s s' : List Str) (hne : id ≠ id') : putAll id' s' 0 (putAll id s 0 ts) = putAll id s 0 (putAll id' s' 0 ts) := by
  have h1 := Wf.putAll id s 0 h
  have h2 := Wf.putAll id' s' 0 h
  refine Wf.ext (Wf.putAll id' s' 0 h1) (Wf.putAll id s 0 h2) fun w i => ?_
  rw [cont_putAll id' s' 0 h1, cont_putAll id s 0 h2, cont_putAll id s 0 h, cont_putAll id' s' 0 h, cont_putAll id s 0 h, cont_putAll id' s' 0 h]
  by_cases e1 : i = id
  · subst e1
    simp [hne]
  · by_cases e2 : i = id'
    · subst e2
      simp [e1]
    · simp [e1, e2]
end Ix
end Go.Proofs.YtihhgmpanfboaaaGreatDoor
namespace Go.Proofs.YtihhgmpanfboaaaGreatDoor
set_option linter.unusedVariables false
/-- A text cut at the spaces. -/
def splitS : Str → List Str
  | [] => [[]]
  | c :: t => if c = 32 then [] :: splitS t else match splitS t with | [] => [[c]] | h :: r => (c :: h) :: r
theorem splitS_ne : ∀ s : Str, splitS s ≠ []
  | [] => by simp [splitS]
  | c :: t => by
    unfold splitS
    split
    · simp
    · split <;> simp
theorem splitS_no : ∀ s : Str, 32 ∉ s → splitS s = [s]
  | [], _ => rfl
  | c :: t, h => by
    simp only [List.mem_cons, not_or] at h
    rw [splitS, if_neg (fun e => h.1 e.symm), splitS_no t h.2]
theorem splitS_append (a b : Str) : splitS (a ++ 32 :: b) = splitS a ++ splitS b := by
  induction a with
  | nil => simp [splitS]
  | cons c t ih =>
    rw [List.cons_append, splitS, ih, splitS]
    split
    · simp
    · cases h : splitS t with
      | nil => exact absurd h (splitS_ne t)
      | cons x r => simp
theorem splitS_cut (q r : Str) (h : 32 ∉ q) : splitS (q ++ 32 :: r) = q :: splitS r := by rw [splitS_append, splitS_no q h]; rfl
theorem splitS_len (s : Str) : (splitS s).length = s.count 32 + 1 := by
  induction s with
  | nil => rfl
  | cons c t ih =>
    rw [splitS]
    split
    · rename_i h; subst h; rw [List.length_cons, ih, List.count_cons_self]
    · rename_i h
      rw [List.count_cons_of_ne (fun e => h (by simpa using e))]
      cases h2 : splitS t with
      | nil => exact absurd h2 (splitS_ne t)
      | cons a r => rw [h2] at ih; exact ih
theorem splitS_mem : ∀ (s : Str), ∀ x ∈ splitS s, 32 ∉ x ∧ x.length ≤ s.length
  | [], x, h => by simp [splitS] at h; subst h; simp
  | c :: t, x, h => by
    rw [splitS] at h
    split at h
    · rcases List.mem_cons.1 h with rfl | h
      · simp
      · have := splitS_mem t x h
        exact ⟨this.1, by rw [List.length_cons]; omega⟩
    · rename_i hc
      cases h2 : splitS t with
      | nil => exact absurd h2 (splitS_ne t)
      | cons a r =>
        rw [h2] at h
        rcases List.mem_cons.1 h with rfl | h
        · have := splitS_mem t a (by rw [h2]; exact .head _)
          refine ⟨?_, by simp only [List.length_cons]; omega⟩
          simp only [List.mem_cons, not_or]
          exact ⟨fun e => hc e.symm, this.1⟩
        · have := splitS_mem t x (by rw [h2]; exact .tail _ h)
          exact ⟨this.1, by rw [List.length_cons]; omega⟩

inductive Q where
  | node (kind : Int) (text : Str) (num : Int) (parts : List Q)
namespace Q
def kind : Q → Int | .node k _ _ _ => k
def text : Q → Str | .node _ t _ _ => t
def num : Q → Int | .node _ _ n _ => n
def parts : Q → List Q | .node _ _ _ l => l
@[simp] theorem kind_node (k : Int) (t : Str) (n : Int) (l : List Q) : (Q.node k t n l).kind = k := rfl
@[simp] theorem text_node (k : Int) (t : Str) (n : Int) (l : List Q) : (Q.node k t n l).text = t := rfl
@[simp] theorem num_node (k : Int) (t : Str) (n : Int) (l : List Q) : (Q.node k t n l).num = n := rfl
@[simp] theorem parts_node (k : Int) (t : Str) (n : Int) (l : List Q) : (Q.node k t n l).parts = l := rfl
/-- the greatest of some numbers -/
def top : List Nat → Nat
  | [] => 0
  | a :: l => max a (top l)
theorem top_le {l : List Nat} {n : Nat} : top l ≤ n ↔ ∀ a ∈ l, a ≤ n := by
  induction l with
  | nil => simp [top]
  | cons a l ih =>
    rw [top]
    constructor
    · intro h b hb
      rcases List.mem_cons.1 hb with rfl | hb
      · omega
      · exact ih.1 (by omega) b hb
    · intro h
      have h1 := h a (.head _)
      have h2 := ih.2 fun b hb => h b (.tail _ hb)
      omega
/-- the levels, f at most -/
def lev : Nat → Q → Nat
  | 0, _ => 0
  | f + 1, q => top (q.parts.map (lev f)) + 1
/-- the nodes in order, of f levels -/
def pre : Nat → Q → List Q
  | 0, _ => []
  | f + 1, q => q :: q.parts.flatMap (pre f)
/-- f levels are enough -/
def Fits : Nat → Q → Prop
  | 0, _ => False
  | f + 1, q => ∀ p ∈ q.parts, Fits f p
theorem lev_fits : ∀ (f : Nat) (q : Q), lev (f + 1) q ≤ f ↔ Fits f q
  | 0, q => by simp [lev, Fits]
  | f + 1, q => by
    rw [lev, Fits, Nat.add_le_add_iff_right, top_le]
    simp only [List.mem_map, forall_exists_index, and_imp, forall_apply_eq_imp_iff₂]
    exact ⟨fun h p hp => (lev_fits f p).1 (h p hp), fun h p hp => (lev_fits f p).2 (h p hp)⟩
theorem Fits.succ : ∀ {f : Nat} {q : Q}, Fits f q → Fits (f + 1) q
  | 0, q, h => h.elim
  | f + 1, q, h => fun p hp => Fits.succ (h p hp)
theorem flatMap_same {α β : Type} {l : List α} {f g : α → List β} (h : ∀ a ∈ l, f a = g a) : l.flatMap f = l.flatMap g := by
  induction l with
  | nil => rfl
  | cons a l ih => rw [List.flatMap_cons, List.flatMap_cons, h a (.head _), ih fun b hb => h b (.tail _ hb)]
theorem pre_fits : ∀ {f : Nat} {q : Q}, Fits f q → pre (f + 1) q = pre f q
  | 0, q, h => h.elim
  | f + 1, q, h => by
    rw [pre, pre, flatMap_same fun p hp => pre_fits (h p hp)]
theorem pre_mem_fits : ∀ {f : Nat} {q : Q}, Fits f q → ∀ p ∈ pre f q, Fits f p
  | 0, q, h, p, hp => by cases hp
  | f + 1, q, h, p, hp => by
    rw [pre] at hp
    rcases List.mem_cons.1 hp with rfl | hp
    · exact h
    · obtain ⟨r, hr, hp⟩ := List.mem_flatMap.1 hp
      exact (pre_mem_fits (h r hr) p hp).succ
/-- the parts of a node are fewer than the nodes -/
theorem pre_parts : ∀ {f : Nat} {q : Q}, Fits f q → ∀ p ∈ pre f q, p.parts.length < (pre f q).length
  | 0, q, h, p, hp => by cases hp
  | f + 1, q, h, p, hp => by
    have hle : ∀ l : List Q, (∀ r ∈ l, Fits f r) → l.length ≤ (l.flatMap (pre f)).length := by
      intro l
      induction l with
      | nil => intro _; exact Nat.le_refl _
      | cons r l ih =>
        intro hl
        have h1 := ih fun x hx => hl x (.tail _ hx)
        have h2 : 1 ≤ (pre f r).length := by
          match f, hl r (.head _) with
          | f + 1, _ => rw [pre, List.length_cons]; omega
        rw [List.flatMap_cons, List.length_append, List.length_cons]
        omega
    rw [pre] at hp ⊢
    rcases List.mem_cons.1 hp with rfl | hp
    · have := hle _ h
      rw [List.length_cons]; omega
    · obtain ⟨r, hr, hp⟩ := List.mem_flatMap.1 hp
      have h1 := pre_parts (h r hr) p hp
      have h2 : (pre f r).length ≤ (q.parts.flatMap (pre f)).length := by
        obtain ⟨s, t, e⟩ := List.append_of_mem hr
        rw [e, List.flatMap_append, List.flatMap_cons, List.length_append, List.length_append]
        omega
      rw [List.length_cons]; omega
/-- a word in lower case -/
def wordOk (s : Str) : Bool := decide (s.length ≤ 8000) && (Sm.words s == [s])
/-- what a kind permits: the least number of parts, the greatest one, the words -/
def least (k : Int) : Int := if k = 6 ∨ k = 7 then 2 else if k = 8 then 1 else 0
def most (k : Int) : Int := if k = 6 ∨ k = 7 then 60 else if k = 8 then 1 else 0
def wants (k : Int) : Int := if k = 2 ∨ k = 3 then 1 else if k = 4 then -1 else if k = 5 then 2 else 0
/-- the code of the error of a node -/
def errOf (q : Q) : Int :=
  if (decide (q.kind < 1) || decide (8 < q.kind)) = true then 4
  else if (q.parts.length : Int) < least q.kind ∨ most q.kind < (q.parts.length : Int) ∨ (q.kind ≠ 5 ∧ q.num ≠ 0) ∨ (wants q.kind = 0 ∧ q.text ≠ []) then 5
  else if q.kind = 5 ∧ (q.num < 1 ∨ 50 < q.num) then 3
  else if wants q.kind ≠ 0 ∧ ((splitS q.text).all wordOk = false ∨ (0 < wants q.kind ∧ ((splitS q.text).length : Int) ≠ wants q.kind)) then 10
  else 0
/-- the first error of some nodes -/
def errGo : List Q → Int → Int × Int
  | [], _ => (0, 0)
  | q :: l, i => if errOf q = 0 then errGo l (i + 1) else (errOf q, i)
/-- the fault of a query -/
def fault (q : Q) : Int × Int :=
  if 8 < lev 9 q then (2, -3) else if 60 < (pre 9 q).length then (2, -2) else errGo (pre 9 q) 0
theorem errGo_append (a b : List Q) (i : Int) : errGo (a ++ b) i = if (errGo a i).1 = 0 then errGo b (i + a.length) else errGo a i := by
  induction a generalizing i with
  | nil => simp [errGo]
  | cons q a ih =>
    rw [List.cons_append, errGo, errGo]
    by_cases h : errOf q = 0
    · rw [if_pos h, if_pos h, ih, List.length_cons]
      have : i + 1 + (a.length : Int) = i + ((a.length + 1 : Nat) : Int) := by omega
      rw [this]
    · rw [if_neg h, if_neg h, if_neg h]
theorem errGo_zero {l : List Q} {i : Int} : (errGo l i).1 = 0 ↔ ∀ q ∈ l, errOf q = 0 := by
  induction l generalizing i with
  | nil => simp [errGo]
  | cons q l ih =>
    rw [errGo]
    by_cases h : errOf q = 0
    · rw [if_pos h, ih]; simp [h]
    · rw [if_neg h]; simp [h]
theorem errGo_zero2 {l : List Q} {i : Int} (h : (errGo l i).1 = 0) : errGo l i = (0, 0) := by
  induction l generalizing i with
  | nil => rfl
  | cons q l ih =>
    rw [errGo] at h ⊢
    by_cases e : errOf q = 0
    · rw [if_pos e] at h ⊢; exact ih h
    · rw [if_neg e] at h; exact absurd h e
/-- what a valid query is like -/
theorem fault_zero {q : Q} : (fault q).1 = 0 ↔ Fits 8 q ∧ (pre 8 q).length ≤ 60 ∧ ∀ p ∈ pre 8 q, errOf p = 0 := by
  unfold fault
  have h89 : lev 9 q ≤ 8 ↔ Fits 8 q := lev_fits 8 q
  by_cases h : 8 < lev 9 q
  · rw [if_pos h]
    constructor
    · intro e; exact absurd e (by decide)
    · rintro ⟨e, _⟩; have := h89.2 e; omega
  · have hf := (show lev 9 q ≤ 8 ↔ Fits 8 q from lev_fits 8 q).1 (by omega)
    rw [if_neg h, pre_fits hf]
    by_cases h2 : 60 < (pre 8 q).length
    · rw [if_pos h2]
      constructor
      · intro e; exact absurd e (by decide)
      · rintro ⟨_, e, _⟩; omega
    · rw [if_neg h2, errGo_zero]
      exact ⟨fun e => ⟨hf, by omega, e⟩, fun e => e.2.2⟩
theorem fault_zero2 {q : Q} (h : (fault q).1 = 0) : fault q = (0, 0) := by
  unfold fault at h ⊢
  split at h
  · exact absurd h (by decide)
  · split at h
    · exact absurd h (by decide)
    · rename_i h1 h2
      rw [if_neg h1, if_neg h2]
      exact errGo_zero2 h
end Q
end Go.Proofs.YtihhgmpanfboaaaGreatDoor

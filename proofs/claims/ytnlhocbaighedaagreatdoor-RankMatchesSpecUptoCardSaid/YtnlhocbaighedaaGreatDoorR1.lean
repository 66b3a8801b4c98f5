/-
  Contracts and plain facts, one after another: The order of texts: plain Lean; Sorted lists of keys and values: look-up, insertion, removal; two of the same look-ups are one. No program is named here; Indexes: what the code and the reference compute; plain; Faults and ranges: the small functions; strings.Compare; The reference's In; The reference's At.
-/
import Derived.Test.YtnlhocbaighedaaGreatDoorBase
import Derived.Test.YtnlhocbaighedaaGreatDoorRows
import Derived.Sort.Walk0
import Derived.Lib.Bytealg
import Derived.Deep.QuietTactic
import Derived.BigQuiet
import Derived.Deep.RegionHeld3
import Derived.StillTailTactics
import Derived.Outline
namespace Go.Proofs.YtnlhocbaighedaaGreatDoor

abbrev Str := List UInt8
/-- One text is ahead of another. -/
def ltS (a b : Str) : Bool := Op.bytesLess a b
theorem ltS_iff (a b : Str) : ltS a b = true ↔ a < b := by rw [ltS, bytesLess_eq]; simp
theorem ltS_irrefl (a : Str) : ltS a a = false := by
 cases h : ltS a a with
 | false => rfl
 | true => exact absurd ((ltS_iff a a).1 h) (List.lt_irrefl a)
theorem ltS_trans {a b c : Str} (h : ltS a b = true) (k : ltS b c = true) : ltS a c = true := (ltS_iff _ _).2 (List.lt_trans ((ltS_iff _ _).1 h) ((ltS_iff _ _).1 k))
theorem ltS_total (a b : Str) : ltS a b = true ∨ a = b ∨ ltS b a = true := by
 rcases Std.Trichotomous.rel_or_eq_or_rel_swap (r := (· < · : Str → Str → Prop)) (a := a) (b := b) with h | h | h
 ·exact .inl ((ltS_iff _ _).2 h)
 ·exact .inr (.inl h)
 ·exact .inr (.inr ((ltS_iff _ _).2 h))
theorem ltS_asymm {a b : Str} (h : ltS a b = true) : ltS b a = false := by
 cases k : ltS b a with
 | false => rfl
 | true => have := ltS_trans h k; rw [ltS_irrefl] at this; cases this
theorem ltS_ne {a b : Str} (h : ltS a b = true) : a ≠ b := fun e => by subst e; rw [ltS_irrefl] at h; cases h
theorem cmp_eqS : ∀ a b : Str, Lib.compareBytes a b = if ltS a b then -1 else if a = b then 0 else 1
 | [], [] => rfl
 | [], _ :: _ => rfl
 | _ :: _, [] => rfl
 | x :: a, y :: b => by
  have ih := cmp_eqS a b
  have e1 : ltS (x :: a) (y :: b) = (decide (x < y) || (x == y && ltS a b)) := rfl
  rw [Lib.compareBytes, ih, e1]
  by_cases h1 : x < y
  ·simp [h1]
  ·by_cases h2 : y < x
   ·have : x ≠ y := fun e => by subst e; exact UInt8.lt_irrefl _ h2
    simp [h1, h2, this]
   ·have : x = y := UInt8.le_antisymm (UInt8.not_lt.1 h2) (UInt8.not_lt.1 h1)
    subst this
    simp [UInt8.lt_irrefl]
end Go.Proofs.YtnlhocbaighedaaGreatDoor
namespace Go.Proofs.YtnlhocbaighedaaGreatDoor
namespace Al
/-- a strict order in which any two keys are compared -/
structure Tot {K : Type} (lt : K → K → Bool) : Prop where
 irrefl : ∀ a, lt a a = false
 trans : ∀ a b c, lt a b = true → lt b c = true → lt a c = true
 total : ∀ a b, lt a b = false → lt b a = false → a = b
variable {K V : Type} {lt : K → K → Bool}
theorem Tot.asymm (h : Tot lt) {a b : K} (hab : lt a b = true) : lt b a = false := by
 cases hb : lt b a with
 | false => rfl
 | true => have := h.trans _ _ _ hab hb; rw [h.irrefl] at this; cases this
theorem Tot.ne (h : Tot lt) {a b : K} (hab : lt a b = true) : a ≠ b := by
 intro e
 subst e
 rw [h.irrefl] at hab
 cases hab
def Sorted (lt : K → K → Bool) (l : List (K × V)) : Prop := l.Pairwise fun a b => lt a.1 b.1 = true
variable [DecidableEq K]
def look : List (K × V) → K → Option V
 | [], _ => none
 | p :: l, k => if p.1 = k then some p.2 else look l k
theorem look_none {l : List (K × V)} {k : K} (h : ∀ p ∈ l, p.1 ≠ k) : look l k = none := by
 induction l with
 | nil => rfl
 | cons p l ih =>
  rw [look, if_neg (h p List.mem_cons_self)]
  exact ih fun q hq => h q (List.mem_cons_of_mem _ hq)
theorem look_mem {l : List (K × V)} {k : K} {v : V} (h : look l k = some v) : (k, v) ∈ l := by
 induction l with
 | nil => cases h
 | cons p l ih =>
  rw [look] at h
  split at h
  ·rename_i e
   injection h with h
   have : p.1 = k := e
   rw [← this, ← h]
   exact List.mem_cons_self
  ·exact List.mem_cons_of_mem _ (ih h)
theorem look_of_mem (ht : Tot lt) {l : List (K × V)} (hs : Sorted lt l) {k : K} {v : V} (h : (k, v) ∈ l) : look l k = some v := by
 induction l with
 | nil => cases h
 | cons p l ih =>
  unfold Sorted at hs
  rw [List.pairwise_cons] at hs
  rw [look]
  rcases List.mem_cons.1 h with e | e
  ·subst e; simp
  ·have := ht.ne (hs.1 _ e)
   rw [if_neg this]
   exact ih hs.2 e
/-- one of the same look-ups -/
theorem ext (ht : Tot lt) : ∀ {l l' : List (K × V)}, Sorted lt l → Sorted lt l' → (∀ k, look l k = look l' k) → l = l'
 | [], [], _, _, _ => rfl
 | [], p :: l', _, _, h => by have := h p.1; simp [look] at this
 | p :: l, [], _, _, h => by have := h p.1; simp [look] at this
 | p :: l, q :: l', hs, hs', h => by
  have hs0 := hs
  have hs0' := hs'
  unfold Sorted at hs hs'
  rw [List.pairwise_cons] at hs hs'
  have hpq : p.1 = q.1 := by
   apply ht.total
   ·cases hlt : lt p.1 q.1 with
    | false => rfl
    | true =>
     exfalso
     have h1 := h p.1
     rw [look_of_mem ht hs0 (show (p.1, p.2) ∈ p :: l from List.mem_cons_self)] at h1
     have h2 := look_mem h1.symm
     rcases List.mem_cons.1 h2 with e | e
     ·exact ht.ne hlt (by rw [← e])
     ·have := ht.asymm (hs'.1 _ e); simp only at this; rw [hlt] at this; cases this
   ·cases hlt : lt q.1 p.1 with
    | false => rfl
    | true =>
     exfalso
     have h1 := h q.1
     rw [look_of_mem ht hs0' (show (q.1, q.2) ∈ q :: l' from List.mem_cons_self)] at h1
     have h2 := look_mem h1
     rcases List.mem_cons.1 h2 with e | e
     ·exact ht.ne hlt (by rw [← e])
     ·have := ht.asymm (hs.1 _ e); simp only at this; rw [hlt] at this; cases this
  have hv : p.2 = q.2 := by
   have h1 := h p.1
   rw [look, look, hpq] at h1
   simpa using h1
  have : p = q := Prod.ext hpq hv
  subst this
  congr 1
  refine ext ht hs.2 hs'.2 fun k => ?_
  have h1 := h k
  rw [look, look] at h1
  split at h1
  ·rename_i e
   have e' : p.1 = k := e
   rw [look_none fun r hr e2 => ht.ne (hs.1 r hr) (e'.trans e2.symm), look_none fun r hr e2 => ht.ne (hs'.1 r hr) (e'.trans e2.symm)]
  ·exact h1
/-- the value at a key is made anew -/
def upd (lt : K → K → Bool) (f : Option V → V) (k : K) : List (K × V) → List (K × V)
 | [] => [(k, f none)]
 | p :: l => if lt p.1 k then p :: upd lt f k l else if p.1 = k then (k, f (some p.2)) :: l else (k, f none) :: p :: l
theorem key_upd {f : Option V → V} {k : K} {l : List (K × V)} {q : K × V} (h : q ∈ upd lt f k l) : q.1 = k ∨ q ∈ l := by
 induction l with
 | nil => simp [upd] at h; subst h; exact .inl rfl
 | cons p l ih =>
  rw [upd] at h
  split at h
  ·rcases List.mem_cons.1 h with e | e
   ·exact .inr (e ▸ List.mem_cons_self)
   ·exact (ih e).imp id fun h => List.mem_cons_of_mem _ h
  ·split at h
   ·rcases List.mem_cons.1 h with e | e
    ·subst e; exact .inl rfl
    ·exact .inr (List.mem_cons_of_mem _ e)
   ·rcases List.mem_cons.1 h with e | e
    ·subst e; exact .inl rfl
    ·exact .inr e
theorem sorted_upd (ht : Tot lt) {f : Option V → V} {k : K} {l : List (K × V)} (hs : Sorted lt l) : Sorted lt (upd lt f k l) := by
 induction l with
 | nil => unfold Sorted; simp [upd]
 | cons p l ih =>
  have hs0 := hs
  unfold Sorted at hs
  rw [List.pairwise_cons] at hs
  rw [upd]
  unfold Sorted
  split
  ·rename_i hlt
   refine List.pairwise_cons.2 ⟨fun q hq => ?_, ih hs.2⟩
   rcases key_upd hq with e | e
   ·rw [e]; exact hlt
   ·exact hs.1 _ e
  ·rename_i hlt
   split
   ·rename_i e
    have e' : p.1 = k := e
    exact List.pairwise_cons.2 ⟨fun q hq => by rw [← e']; exact hs.1 q hq, hs.2⟩
   ·rename_i e
    have hkp : lt k p.1 = true := by
     cases h : lt k p.1 with
     | true => rfl
     | false => exact absurd (ht.total _ _ (by simpa using hlt) h) e
    refine List.pairwise_cons.2 ⟨fun q hq => ?_, hs0⟩
    rcases List.mem_cons.1 hq with e2 | e2
    ·rw [e2]; exact hkp
    ·exact ht.trans _ _ _ hkp (hs.1 _ e2)
theorem look_upd (ht : Tot lt) {f : Option V → V} {k : K} {l : List (K × V)} (hs : Sorted lt l) (k' : K) : look (upd lt f k l) k' = if k' = k then some (f (look l k)) else look l k' := by
 induction l with
 | nil =>
  rw [upd, look]
  by_cases h : k' = k
  ·subst h; simp [look]
  ·have : ¬ k = k' := fun e => h e.symm
   simp [look, h, this]
 | cons p l ih =>
  have hs0 := hs
  unfold Sorted at hs
  rw [List.pairwise_cons] at hs
  rw [upd]
  split
  ·rename_i hlt
   have hne := ht.ne hlt
   have e1 : ¬ p.1 = k := hne
   rw [look, ih hs.2]
   by_cases h : k' = k
   ·subst h
    simp [look, e1]
   ·simp only [h, if_false, look]
  ·rename_i hlt
   split
   ·rename_i e
    have e' : p.1 = k := e
    rw [look]
    by_cases h : k' = k
    ·subst h
     simp [look, e]
    ·have h2 : ¬ k = k' := fun e => h e.symm
     have h3 : ¬ p.1 = k' := by rw [e']; exact h2
     simp [look, h, h2, h3]
   ·rename_i e
    have hkp : lt k p.1 = true := by
     cases h : lt k p.1 with
     | true => rfl
     | false => exact absurd (ht.total _ _ (by simpa using hlt) h) e
    have hn : look (p :: l) k = none := look_none fun q hq e2 => by
     rcases List.mem_cons.1 hq with e3 | e3
     ·subst e3; exact ht.ne hkp e2.symm
     ·exact ht.ne (ht.trans _ _ _ hkp (hs.1 _ e3)) e2.symm
    rw [look, hn]
    by_cases h : k' = k
    ·subst h; simp
    ·have h2 : ¬ k = k' := fun e => h e.symm
     simp [h, h2]
/-- upd by a position: what stands ahead of it is smaller, what stands there and behind is not -/
theorem upd_at (ht : Tot lt) {f : Option V → V} {k : K} : ∀ {l : List (K × V)}, Sorted lt l → ∀ (i : Nat), i ≤ l.length → (∀ (m : Nat) (h : m < l.length), m < i → lt l[m].1 k = true) → (∀ (h : i < l.length), lt l[i].1 k = false) →
  upd lt f k l = l.take i ++ (match l[i]? with | some p => if p.1 = k then (k, f (some p.2)) :: l.drop (i + 1) else (k, f none) :: l.drop i | none => [(k, f none)])
 | [], _, i, hi, _, _ => by
  have : i = 0 := by simpa using hi
  subst this
  simp [upd]
 | p :: l, hs, 0, _, _, h2 => by
  have h3 := h2 (by simp)
  simp only [List.getElem_cons_zero] at h3
  rw [upd, if_neg (by rw [h3]; simp)]
  simp
 | p :: l, hs, i + 1, hi, h1, h2 => by
  have h3 := h1 0 (by simp) (by omega)
  simp only [List.getElem_cons_zero] at h3
  unfold Sorted at hs
  rw [List.pairwise_cons] at hs
  rw [upd, if_pos h3, upd_at ht hs.2 i (by simpa using hi) (fun m hm hmi => h1 (m + 1) (by simpa using hm) (by omega)) (fun h => h2 (by simpa using h))]
  simp
end Al
theorem tot_int : Al.Tot (fun a b : Int => decide (a < b)) where
 irrefl a := by simp
 trans a b c h1 h2 := by simp at h1 h2 ⊢; omega
 total a b h1 h2 := by simp at h1 h2; omega
theorem tot_str : Al.Tot ltS where
 irrefl := ltS_irrefl
 trans a b c := ltS_trans
 total a b h1 h2 := by
  rcases ltS_total a b with h | h | h
  ·rw [h] at h1; cases h1
  ·exact h
  ·rw [h] at h2; cases h2
end Go.Proofs.YtnlhocbaighedaaGreatDoor
namespace Go.Proofs.YtnlhocbaighedaaGreatDoor
namespace Ix
abbrev Post := Int × List Int
abbrev Term := Str × List Post
abbrev Idx := List Int × List Term
def ltI (a b : Int) : Bool := decide (a < b)
theorem totI : Al.Tot ltI := tot_int
/-- number i of a list is in its range, and greater than the one ahead of it -/
def okAt (l : List Int) (low : Int) (i : Nat) : Bool := (decide (low ≤ l.getD i 0) && decide (l.getD i 0 ≤ 1000000)) && (decide (i = 0) || decide (l.getD (i - 1) 0 < l.getD i 0))
def rising (l : List Int) (low : Int) : Bool := (List.range l.length).all (okAt l low)
theorem rising_iff (l : List Int) (low : Int) : rising l low = true ↔ l.Pairwise (· < ·) ∧ ∀ n ∈ l, low ≤ n ∧ n ≤ 1000000 := by
 unfold rising
 rw [List.all_eq_true]
 constructor
 ·intro h
  have hi : ∀ i (hi : i < l.length), low ≤ l[i] ∧ l[i] ≤ 1000000 ∧ ∀ (h0 : 0 < i), l[i - 1] < l[i] := by
   intro i hi
   have := h i (List.mem_range.2 hi)
   unfold okAt at this
   rw [List.getD_eq_getElem?_getD, List.getElem?_eq_getElem hi, Option.getD_some] at this
   simp only [Bool.and_eq_true, Bool.or_eq_true, decide_eq_true_eq] at this
   refine ⟨this.1.1, this.1.2, fun h0 => ?_⟩
   rcases this.2 with e | e
   ·omega
   ·rw [List.getD_eq_getElem?_getD, List.getElem?_eq_getElem (by omega), Option.getD_some] at e
    exact e
  have key : ∀ (j i : Nat) (hij : i < j) (hj : j < l.length), l[i] < l[j] := by
   intro j
   induction j with
   | zero => intro i hij; omega
   | succ j ih =>
    intro i hij hj
    have h1 := (hi (j + 1) hj).2.2 (by omega)
    simp only [Nat.add_sub_cancel] at h1
    by_cases e : i = j
    ·subst e; exact h1
    ·exact Int.lt_trans (ih i (by omega) (by omega)) h1
  refine ⟨List.pairwise_iff_getElem.2 fun i j hi' hj' hij => key j i hij hj', fun n hn => ?_⟩
  obtain ⟨i, hi', rfl⟩ := List.mem_iff_getElem.1 hn
  exact ⟨(hi i hi').1, (hi i hi').2.1⟩
 ·rintro ⟨hp, hr⟩ i hi
  have hi := List.mem_range.1 hi
  unfold okAt
  rw [List.getD_eq_getElem?_getD, List.getElem?_eq_getElem hi, Option.getD_some]
  have h1 := hr _ (List.getElem_mem hi)
  simp only [Bool.and_eq_true, Bool.or_eq_true, decide_eq_true_eq]
  refine ⟨h1, ?_⟩
  by_cases h0 : i = 0
  ·exact .inl h0
  ·right
   rw [List.getD_eq_getElem?_getD, List.getElem?_eq_getElem (show i - 1 < l.length by omega), Option.getD_some]
   exact List.pairwise_iff_getElem.1 hp (i - 1) i (by omega) hi (by omega)
/-- the code of the first error of postings -/
def postErr (ids : List Int) : List Post → Int
 | [] => 0
 | p :: r => if p.2.length = 0 ∨ rising p.2 0 = false then 19 else if ids.contains p.1 = false then 6 else postErr ids r
def wordBad (ts : List Term) (i : Nat) : Bool := decide (0 < i) && !ltS (ts.getD (i - 1) ([], [])).1 (ts.getD i ([], [])).1
def termErr (ids : List Int) (ts : List Term) (i : Nat) : Int :=
 if postErr ids (ts.getD i ([], [])).2 ≠ 0 then postErr ids (ts.getD i ([], [])).2
 else if (ts.getD i ([], [])).1.length = 0 ∨ 8000 < (ts.getD i ([], [])).1.length then 10
 else if (ts.getD i ([], [])).2.length = 0 ∨ rising ((ts.getD i ([], [])).2.map fun p => p.1) 1 = false ∨ wordBad ts i = true then 19 else 0
def faultGo (x : Idx) : Nat → Nat → Int × Int
 | 0, _ => (0, 0)
 | f + 1, k => if termErr x.1 x.2 k = 0 then faultGo x f (k + 1) else (termErr x.1 x.2 k, (k : Int))
def indexF (x : Idx) : Int × Int := if 300 < x.1.length then (2, -1) else if rising x.1 1 = false then (19, -1) else if 1000000 < x.2.length then (2, -2) else faultGo x x.2.length 0
/-- what a valid index is -/
structure Canon (x : Idx) : Prop where
 few : x.1.length ≤ 300
 ids : x.1.Pairwise (· < ·)
 idr : ∀ n ∈ x.1, 1 ≤ n ∧ n ≤ 1000000
 many : x.2.length ≤ 1000000
 srt : Al.Sorted ltS x.2
 word : ∀ t ∈ x.2, t.1 ≠ [] ∧ t.1.length ≤ 8000
 post : ∀ t ∈ x.2, t.2 ≠ [] ∧ Al.Sorted ltI t.2 ∧ ∀ p ∈ t.2, p.1 ∈ x.1 ∧ p.2 ≠ [] ∧ p.2.Pairwise (· < ·) ∧ ∀ n ∈ p.2, 0 ≤ n ∧ n ≤ 1000000
theorem postErr_zero (ids : List Int) : ∀ ps : List Post, postErr ids ps = 0 ↔ ∀ p ∈ ps, p.1 ∈ ids ∧ p.2 ≠ [] ∧ rising p.2 0 = true
 | [] => by simp [postErr]
 | p :: r => by
  rw [postErr]
  by_cases h1 : p.2.length = 0 ∨ rising p.2 0 = false
  ·rw [if_pos h1]
   constructor
   ·intro h; omega
   ·intro h
    obtain ⟨_, h2, h3⟩ := h p List.mem_cons_self
    rcases h1 with h1 | h1
    ·exact absurd (List.eq_nil_of_length_eq_zero h1) h2
    ·rw [h3] at h1; cases h1
  ·rw [if_neg h1]
   have h1' : p.2 ≠ [] ∧ rising p.2 0 = true := ⟨fun e => h1 (.inl (by rw [e]; rfl)), by cases h : rising p.2 0 with | true => rfl | false => exact absurd (.inr h) h1⟩
   by_cases h2 : ids.contains p.1 = false
   ·rw [if_pos h2]
    constructor
    ·intro h; omega
    ·intro h
     have := (h p List.mem_cons_self).1
     rw [List.contains_iff_mem.2 this] at h2; cases h2
   ·rw [if_neg h2, postErr_zero ids r]
    have h2' : p.1 ∈ ids := by simpa using h2
    constructor
    ·intro h q hq
     rcases List.mem_cons.1 hq with e | e
     ·subst e; exact ⟨h2', h1'⟩
     ·exact h q e
    ·exact fun h q hq => h q (List.mem_cons_of_mem _ hq)
theorem pair_sorted (ps : List Post) : (ps.map fun p => p.1).Pairwise (· < ·) ↔ Al.Sorted ltI ps := by
 unfold Al.Sorted ltI
 rw [List.pairwise_map]
 simp
theorem faultGo_zero (x : Idx) : ∀ (f k : Nat), (faultGo x f k).1 = 0 ↔ ∀ j, k ≤ j → j < k + f → termErr x.1 x.2 j = 0
 | 0, k => by
  refine ⟨fun _ j h1 h2 => by omega, fun _ => rfl⟩
 | f + 1, k => by
  rw [faultGo]
  split
  ·rename_i h0
   rw [faultGo_zero x f (k + 1)]
   constructor
   ·intro h j h1 h2
    by_cases e : j = k
    ·rw [e]; exact h0
    ·exact h j (by omega) (by omega)
   ·exact fun h j h1 h2 => h j (by omega) (by omega)
  ·rename_i h0
   constructor
   ·intro h; exact absurd h h0
   ·intro h; exact absurd (h k (by omega) (by omega)) h0
theorem faultGo_zero2 (x : Idx) : ∀ (f k : Nat), (faultGo x f k).1 = 0 → faultGo x f k = (0, 0)
 | 0, _, _ => rfl
 | f + 1, k, h => by
  rw [faultGo] at h ⊢
  split at h
  ·rename_i h0; rw [if_pos h0]; exact faultGo_zero2 x f (k + 1) h
  ·rename_i h0; exact absurd h h0
theorem getD_get {α : Type} {l : List α} {i : Nat} (h : i < l.length) (d : α) : l.getD i d = l[i] := by
 rw [List.getD_eq_getElem?_getD, List.getElem?_eq_getElem h, Option.getD_some]
theorem termErr_zero (ids : List Int) (ts : List Term) (i : Nat) (hi : i < ts.length) : termErr ids ts i = 0 ↔
  (∀ p ∈ ts[i].2, p.1 ∈ ids ∧ p.2 ≠ [] ∧ rising p.2 0 = true) ∧ (ts[i].1 ≠ [] ∧ ts[i].1.length ≤ 8000) ∧ ts[i].2 ≠ [] ∧ rising (ts[i].2.map fun p => p.1) 1 = true ∧ ∀ (h0 : 0 < i), ltS ts[i - 1].1 ts[i].1 = true := by
 unfold termErr
 rw [getD_get hi, ← postErr_zero]
 by_cases h1 : postErr ids ts[i].2 ≠ 0
 ·rw [if_pos h1]
  exact ⟨fun h => absurd h h1, fun h => absurd h.1 h1⟩
 ·rw [if_neg h1]
  have h1' : postErr ids ts[i].2 = 0 := by simpa using h1
  by_cases h2 : ts[i].1.length = 0 ∨ 8000 < ts[i].1.length
  ·rw [if_pos h2]
   constructor
   ·intro h; omega
   ·rintro ⟨_, ⟨h3, h4⟩, _⟩
    rcases h2 with h2 | h2
    ·exact absurd (List.eq_nil_of_length_eq_zero h2) h3
    ·omega
  ·rw [if_neg h2]
   have h2' : ts[i].1 ≠ [] ∧ ts[i].1.length ≤ 8000 := ⟨fun e => h2 (.inl (by rw [e]; rfl)), by omega⟩
   have hw : wordBad ts i = true ↔ ∃ (h0 : 0 < i), ltS ts[i - 1].1 ts[i].1 = false := by
    unfold wordBad
    rw [getD_get hi]
    by_cases h0 : 0 < i
    ·rw [getD_get (show i - 1 < ts.length by omega)]
     simp [h0]
    ·simp [h0]
   by_cases h3 : ts[i].2.length = 0 ∨ rising (ts[i].2.map fun p => p.1) 1 = false ∨ wordBad ts i = true
   ·rw [if_pos h3]
    constructor
    ·intro h; omega
    ·rintro ⟨_, _, h4, h5, h6⟩
     rcases h3 with h3 | h3 | h3
     ·exact absurd (List.eq_nil_of_length_eq_zero h3) h4
     ·rw [h5] at h3; cases h3
     ·obtain ⟨h0, h7⟩ := hw.1 h3
      rw [h6 h0] at h7; cases h7
   ·rw [if_neg h3]
    refine ⟨fun _ => ⟨h1', h2', fun e => h3 (.inl (by rw [e]; rfl)), ?_, fun h0 => ?_⟩, fun _ => rfl⟩
    ·cases h : rising (ts[i].2.map fun p => p.1) 1 with
     | true => rfl
     | false => exact absurd (.inr (.inl h)) h3
    ·cases h : ltS ts[i - 1].1 ts[i].1 with
     | true => rfl
     | false => exact absurd (.inr (.inr (hw.2 ⟨h0, h⟩))) h3
theorem sorted_adj {ts : List Term} (h : ∀ (i : Nat) (hi : i < ts.length) (h0 : 0 < i), ltS ts[i - 1].1 ts[i].1 = true) : Al.Sorted ltS ts := by
 have key : ∀ (j i : Nat) (hij : i < j) (hj : j < ts.length), ltS ts[i].1 ts[j].1 = true := by
  intro j
  induction j with
  | zero => intro i hij; omega
  | succ j ih =>
   intro i hij hj
   have h1 := h (j + 1) hj (by omega)
   simp only [Nat.add_sub_cancel] at h1
   by_cases e : i = j
   ·subst e; exact h1
   ·exact tot_str.trans _ _ _ (ih i (by omega) (by omega)) h1
 exact List.pairwise_iff_getElem.2 fun i j hi hj hij => key j i hij hj
theorem indexF_zero (x : Idx) : (indexF x).1 = 0 ↔ Canon x := by
 unfold indexF
 by_cases h1 : 300 < x.1.length
 ·rw [if_pos h1]
  refine ⟨fun h => ?_, fun h => ?_⟩
  ·simp only at h; omega
  ·have := h.few; omega
 rw [if_neg h1]
 by_cases h2 : rising x.1 1 = false
 ·rw [if_pos h2]
  refine ⟨fun h => ?_, fun h => ?_⟩
  ·simp only at h; omega
  ·rw [(rising_iff _ _).2 ⟨h.ids, h.idr⟩] at h2; cases h2
 rw [if_neg h2]
 have h2' := (rising_iff _ _).1 (by simpa using h2)
 by_cases h3 : 1000000 < x.2.length
 ·rw [if_pos h3]
  refine ⟨fun h => ?_, fun h => ?_⟩
  ·simp only at h; omega
  ·have := h.many; omega
 rw [if_neg h3, faultGo_zero]
 constructor
 ·intro h
  have ht := fun (i : Nat) (hi : i < x.2.length) => (termErr_zero x.1 x.2 i hi).1 (h i (by omega) (by omega))
  refine ⟨by omega, h2'.1, h2'.2, by omega, sorted_adj fun i hi h0 => (ht i hi).2.2.2.2 h0, fun t htm => ?_, fun t htm => ?_⟩
  ·obtain ⟨i, hi, rfl⟩ := List.mem_iff_getElem.1 htm
   exact (ht i hi).2.1
  ·obtain ⟨i, hi, rfl⟩ := List.mem_iff_getElem.1 htm
   obtain ⟨a, b, c, d, e⟩ := ht i hi
   refine ⟨c, (pair_sorted _).1 ((rising_iff _ _).1 d).1, fun p hp => ?_⟩
   obtain ⟨h4, h5, h6⟩ := a p hp
   exact ⟨h4, h5, (rising_iff _ _).1 h6⟩
 ·intro h j _ hj
  have hj' : j < x.2.length := by omega
  have hm := List.getElem_mem hj'
  obtain ⟨h4, h5, h6⟩ := h.post _ hm
  refine (termErr_zero x.1 x.2 j hj').2 ⟨fun p hp => ?_, h.word _ hm, h4, ?_, fun h0 => List.pairwise_iff_getElem.1 h.srt (j - 1) j (by omega) hj' (by omega)⟩
  ·obtain ⟨a, b, c⟩ := h6 p hp
   exact ⟨a, b, (rising_iff _ _).2 c⟩
  ·refine (rising_iff _ _).2 ⟨(pair_sorted _).2 h5, fun n hn => ?_⟩
   obtain ⟨p, hp, rfl⟩ := List.mem_map.1 hn
   exact h.idr _ (h6 p hp).1
theorem indexF_zero2 {x : Idx} (h : (indexF x).1 = 0) : indexF x = (0, 0) := by
 have hc := (indexF_zero x).1 h
 have h2 : rising x.1 1 = true := (rising_iff _ _).2 ⟨hc.ids, hc.idr⟩
 have h1 := hc.few
 have h3 := hc.many
 unfold indexF at h ⊢
 rw [if_neg (by omega), if_neg (by rw [h2]; simp), if_neg (by omega)] at h ⊢
 exact faultGo_zero2 _ _ _ h
/-! ### what is at a place -/
def cont (ts : List Term) (w : Str) (i : Int) : List Int := ((Al.look ts w).bind fun ps => Al.look ps i).getD []
structure Wf (ts : List Term) : Prop where
 srt : Al.Sorted ltS ts
 post : ∀ t ∈ ts, t.2 ≠ [] ∧ Al.Sorted ltI t.2 ∧ ∀ p ∈ t.2, p.2 ≠ []
theorem Canon.wf {x : Idx} (h : Canon x) : Wf x.2 := ⟨h.srt, fun t ht => ⟨(h.post t ht).1, (h.post t ht).2.1, fun p hp => ((h.post t ht).2.2 p hp).2.1⟩⟩
theorem Wf.ext {ts ts' : List Term} (h : Wf ts) (h' : Wf ts') (hc : ∀ w i, cont ts w i = cont ts' w i) : ts = ts' := by
 have some_of : ∀ {ts ts' : List Term} (_ : Wf ts) (_ : Wf ts') (_ : ∀ w i, cont ts w i = cont ts' w i) (w : Str) (ps : List Post), Al.look ts w = some ps → ∃ ps', Al.look ts' w = some ps' := by
  intro ts ts' h h' hc w ps hw
  have hm := Al.look_mem hw
  obtain ⟨h1, h2, h3⟩ := h.post _ hm
  simp only at h1 h2 h3
  obtain ⟨p, r, rfl⟩ : ∃ p r, ps = p :: r := by cases ps with | nil => exact absurd rfl h1 | cons p r => exact ⟨p, r, rfl⟩
  have h4 : cont ts w p.1 = p.2 := by
   unfold cont
   rw [hw]
   show (Al.look (p :: r) p.1).getD [] = _
   rw [Al.look_of_mem totI h2 (show (p.1, p.2) ∈ p :: r from List.mem_cons_self)]
   rfl
  have h5 := h3 p List.mem_cons_self
  rw [hc w p.1] at h4
  cases hw' : Al.look ts' w with
  | some ps' => exact ⟨ps', rfl⟩
  | none =>
   unfold cont at h4
   rw [hw'] at h4
   exact absurd h4.symm h5
 refine Al.ext tot_str h.srt h'.srt fun w => ?_
 cases hw : Al.look ts w with
 | none =>
  cases hw' : Al.look ts' w with
  | none => rfl
  | some ps' => obtain ⟨ps, h1⟩ := some_of h' h (fun w i => (hc w i).symm) w ps' hw'; rw [hw] at h1; cases h1
 | some ps =>
  obtain ⟨ps', hw'⟩ := some_of h h' hc w ps hw
  rw [hw']
  congr 1
  obtain ⟨_, h2, h3⟩ := h.post _ (Al.look_mem hw)
  obtain ⟨_, h2', h3'⟩ := h'.post _ (Al.look_mem hw')
  refine Al.ext totI h2 h2' fun i => ?_
  have h4 := hc w i
  unfold cont at h4
  rw [hw, hw'] at h4
  simp only [Option.bind_some] at h4
  cases e : Al.look ps i with
  | none =>
   cases e' : Al.look ps' i with
   | none => rfl
   | some q => rw [e, e'] at h4; exact absurd h4.symm (h3' _ (Al.look_mem e'))
  | some q =>
   cases e' : Al.look ps' i with
   | none => rw [e, e'] at h4; exact absurd h4 (h3 _ (Al.look_mem e))
   | some q' => rw [e, e'] at h4; exact congrArg some h4
/-- a place of a word of a text is added -/
def putP (id place : Int) (ps : List Post) : List Post := Al.upd ltI (fun q => q.getD [] ++ [place]) id ps
def putT (id place : Int) (w : Str) (ts : List Term) : List Term := Al.upd ltS (fun o => putP id place (o.getD [])) w ts
def putAll (id : Int) : List Str → Nat → List Term → List Term
 | [], _, ts => ts
 | w :: s, n, ts => putAll id s (n + 1) (putT id (n : Int) w ts)
theorem putP_ne (id place : Int) (ps : List Post) : putP id place ps ≠ [] := by
 cases ps with
 | nil => simp [putP, Al.upd]
 | cons p r =>
  unfold putP
  rw [Al.upd]
  split
  ·simp
  ·split <;> simp
theorem nil_sorted {K V : Type} {lt : K → K → Bool} : Al.Sorted lt ([] : List (K × V)) := List.Pairwise.nil
theorem Wf.get {ts : List Term} (h : Wf ts) (w : Str) : Al.Sorted ltI ((Al.look ts w).getD []) ∧ ∀ p ∈ (Al.look ts w).getD [], p.2 ≠ [] := by
 cases hw : Al.look ts w with
 | none => exact ⟨nil_sorted, by simp⟩
 | some ps => exact (h.post _ (Al.look_mem hw)).2
theorem putP_some {id place : Int} {ps : List Post} (hs : Al.Sorted ltI ps) (h : ∀ p ∈ ps, p.2 ≠ []) : ∀ p ∈ putP id place ps, p.2 ≠ [] := by
 intro p hp
 have h1 := Al.sorted_upd totI (f := fun q : Option (List Int) => q.getD [] ++ [place]) (k := id) hs
 have h2 := Al.look_of_mem totI h1 (show (p.1, p.2) ∈ _ from hp)
 rw [Al.look_upd totI hs] at h2
 split at h2
 ·injection h2 with h2; rw [← h2]; simp
 ·exact h _ (Al.look_mem h2)
theorem Wf.put {ts : List Term} (h : Wf ts) (id place : Int) (w : Str) : Wf (putT id place w ts) := by
 have h1 := Al.sorted_upd tot_str (f := fun o => putP id place (o.getD [])) (k := w) h.srt
 refine ⟨h1, fun t ht => ?_⟩
 have h2 := Al.look_of_mem tot_str h1 (show (t.1, t.2) ∈ _ from ht)
 rw [Al.look_upd tot_str h.srt] at h2
 split at h2
 ·injection h2 with h2
  obtain ⟨h3, h4⟩ := h.get w
  rw [← h2]
  exact ⟨putP_ne _ _ _, Al.sorted_upd totI h3, putP_some h3 h4⟩
 ·exact h.post _ (Al.look_mem h2)
theorem cont_put {ts : List Term} (h : Wf ts) (id place : Int) (w w' : Str) (i : Int) : cont (putT id place w ts) w' i = if w' = w ∧ i = id then cont ts w id ++ [place] else cont ts w' i := by
 unfold cont putT
 rw [Al.look_upd tot_str h.srt]
 by_cases hw : w' = w
 ·subst hw
  simp only [if_true, true_and, Option.bind_some]
  unfold putP
  rw [Al.look_upd totI (h.get w').1]
  by_cases hi : i = id
  ·subst hi
   simp only [if_true, Option.getD_some]
   cases Al.look ts w' <;> rfl
  ·simp only [hi, if_false]
   cases Al.look ts w' <;> rfl
 ·simp only [hw, if_false, false_and]
/-- where a word stands among others -/
def occ (w : Str) : List Str → Nat → List Int
 | [], _ => []
 | a :: s, n => if a = w then (n : Int) :: occ w s (n + 1) else occ w s (n + 1)
theorem Wf.putAll (id : Int) : ∀ (s : List Str) (n : Nat) {ts : List Term}, Wf ts → Wf (Ix.putAll id s n ts)
 | [], _, _, h => h
 | w :: s, n, _, h => Wf.putAll id s (n + 1) (h.put id n w)
theorem cont_putAll (id : Int) : ∀ (s : List Str) (n : Nat) {ts : List Term}, Wf ts → ∀ (w : Str) (i : Int), cont (putAll id s n ts) w i = if i = id then cont ts w id ++ occ w s n else cont ts w i
 | [], n, ts, h, w, i => by
  rw [putAll, occ, List.append_nil]
  split
  ·rename_i e; rw [e]
  ·rfl
 | a :: s, n, ts, h, w, i => by
  rw [putAll, cont_putAll id s (n + 1) (h.put id n a) w i, occ]
  by_cases hi : i = id
  ·subst hi
   simp only [if_true]
   rw [cont_put h]
   by_cases hw : w = a
   ·subst hw; simp
   ·have : ¬ a = w := fun e => hw e.symm
    simp [hw, this]
  ·simp only [hi, if_false]
   rw [cont_put h]
   simp [hi]
/-- a text is taken out -/
def removeT (id : Int) (ts : List Term) : List Term := (ts.map fun t => (t.1, t.2.filter fun p => !(p.1 == id))).filter fun t => !(t.2.length == 0)
/-! ### the laws -/
end Ix
end Go.Proofs.YtnlhocbaighedaaGreatDoor
namespace Go.Proofs.YtnlhocbaighedaaGreatDoor
open Go.RowKit

theorem ret_str {a b : ByteArray} (h : a = b) : Ending.returned (.string a) = .returned (.string b) := by rw [h]
theorem ret_bool {a b : Bool} (h : a = b) : Ending.returned (.bool a) = .returned (.bool b) := by rw [h]
/-! ### Faults -/
theorem none_ok (w : World) : Calls Tryz.prog 24 #[] w fun e w' => e = .returned (.agg #[.int .i64 0, .int .i64 0]) ∧ Below w.heap.size w w' := by
 go_enter Tryz.func24, Tryz.ntmps24
 go_wp2
 exact bodyPost_ret (v := .agg #[.int .i64 0, .int .i64 0]) (by simp [results, Tryz.results24, go_sem]) rfl ⟨rfl, (Below.refl _ _).alloc (Nat.le_refl _) _⟩
theorem fault_ok (a b : Int) (w : World) : Calls Tryz.prog 21 #[.int .i64 a, .int .i64 b] w fun e w' => e = .returned (.agg #[.int .i64 a, .int .i64 b]) ∧ Below w.heap.size w w' := by
 go_enter Tryz.func21, Tryz.ntmps21
 go_wp2
 exact bodyPost_ret (v := .agg #[.int .i64 a, .int .i64 b]) (by simp [results, Tryz.results21, go_sem]) rfl ⟨rfl, (Below.refl _ _).alloc (Nat.le_refl _) _⟩
theorem failed_ok (a b : Int) (w : World) : Calls Tryz.prog 19 #[.agg #[.int .i64 a, .int .i64 b]] w fun e w' => e = .returned (.bool (a != 0)) ∧ Below w.heap.size w w' := by
 go_enter Tryz.func19, Tryz.ntmps19
 go_wp2
 go_ret
 exact ⟨rfl, (Below.refl _ _).alloc (Nat.le_refl _) _⟩
theorem Blk.put2 {w : World} {g : Nat} {t : TypeId} {x y : Value} (h : Blk w g t #[x, y]) (a b : Value) :
  ((w.setCell ⟨g, 0, none⟩ a).setCell ⟨g, 1, none⟩ b).cell? ⟨g, 0, none⟩ = some a ∧ ((w.setCell ⟨g, 0, none⟩ a).setCell ⟨g, 1, none⟩ b).cell? ⟨g, 1, none⟩ = some b := by
 have h2 : Blk ((w.setCell ⟨g, 0, none⟩ a).setCell ⟨g, 1, none⟩ b) g t #[a, b] := by simpa using (h.set_ 0 a).set_ 1 b
 exact ⟨h2.two.1, h2.two.2.1⟩
theorem below2 {w : World} {w1 w2 : World} (h1 : Below w.heap.size w w1) (h2 : Below w1.heap.size w1 w2) : Below w.heap.size w w2 := h1.trans (h2.mono h1.size)
theorem below_set2 {B : Nat} {w w' : World} (h : Below B w w') {g : Nat} (hg : B ≤ g) (a b : Value) : Below B w ((w'.setCell ⟨g, 0, none⟩ a).setCell ⟨g, 1, none⟩ b) := Below.setCell (p := ⟨g, 1, none⟩) (Below.setCell (p := ⟨g, 0, none⟩) h hg a) hg b
theorem below_drew {B : Nat} {w w' : World} (h : Below B w w') : Below B w w'.drew := ⟨h.os, h.tape, h.output, h.size, h.block⟩
end Go.Proofs.YtnlhocbaighedaaGreatDoor
namespace Go.Proofs.YtnlhocbaighedaaGreatDoor
open Go.RowKit

set_option maxRecDepth 20000 in
theorem compareString_ok (a b : Str) (w : World) : Calls Tryz.prog 121 #[.string (bs a), .string (bs b)] w fun e w' => e = .returned (.int .i64 (Lib.compareBytes a b)) ∧ w = w' := by
 go_enter Tryz.func121, Tryz.ntmps121
 go_wp2
 rw [run_callFunc_extern Tryz.func153 (by kernel_rfl) (by kernel_rfl) (by kernel_rfl) (e := Extern.BytealgCompare.compare) (by kernel_rfl), Lib.run_compareString]
 simp only [Result.andThen]
 rw [Oper.upon_value]
 go_wp2
 go_ret
 exact ⟨by simp, rfl⟩
theorem compare_ok (a b : Str) (w : World) : Calls Tryz.prog 91 #[.string (bs a), .string (bs b)] w fun e w' => e = .returned (.int .i64 (Lib.compareBytes a b)) ∧ w = w' := by
 have hp := compareString_ok a b w
 have Hp := Lib.hid hp
 clear hp
 go_enter Tryz.func91, Tryz.ntmps91
 go_wp2_with fail
 refine Hp.out.mono ?_
 rintro e w1 ⟨rfl, rfl⟩
 go_wp2
 go_ret
 exact ⟨rfl, rfl⟩
end Go.Proofs.YtnlhocbaighedaaGreatDoor
namespace Go.Proofs.YtnlhocbaighedaaGreatDoor
open Go.RowKit

theorem in_ok (a b c : Int) (w : World) : Calls Tryz.prog 39 #[.int .i64 a, .int .i64 b, .int .i64 c] w fun e w' => e = .returned (.bool (decide (b ≤ a) && decide (a ≤ c))) ∧ w = w' := by
 by_cases h1 : b ≤ a
 all_goals
  go_enter Tryz.func39, Tryz.ntmps39
  go_wp2
  all_goals go_ret
  all_goals simp [h1]
 all_goals omega
end Go.Proofs.YtnlhocbaighedaaGreatDoor
namespace Go.Proofs.YtnlhocbaighedaaGreatDoor
open Go.RowKit

theorem at_ok (a b : Int) (w : World) : Calls Tryz.prog 10 #[.int .i64 a, .int .i64 b] w fun e w' => e = .returned (.agg #[.int .i64 a, .int .i64 b]) ∧ Below w.heap.size w w' := by
 go_enter Tryz.func10, Tryz.ntmps10
 go_wp2
 exact bodyPost_ret (v := .agg #[.int .i64 a, .int .i64 b]) (by simp [results, Tryz.results10, go_sem]) rfl ⟨rfl, (Below.refl _ _).alloc (Nat.le_refl _) _⟩
end Go.Proofs.YtnlhocbaighedaaGreatDoor

/-
  ThreadsArrivalDoesNotMatter: the plain law.
-/
import Derived.Test.YtclobnojpmgmaaaThQ1
namespace Go.Proofs.Ytclobnojpmgmaaa
set_option linter.unusedVariables false
/-- a letter that is no fault by itself -/
def Fine (x : Letter) : Prop := x.1 ≠ [] ∧ x.1.length ≤ 200 ∧ (-68719476736 ≤ x.2.2 ∧ x.2.2 ≤ 68719476736) ∧ x.2.1.length ≤ 30
theorem errOf_zero (pre : List Letter) (x : Letter) : Th.errOf pre x = 0 ↔ Fine x ∧ pre.any (fun y => y.1 == x.1) = false := by
  unfold Th.errOf Fine
  by_cases h1 : x.1 = [] ∨ 200 < x.1.length
  · rw [if_pos h1]
    constructor
    · intro h; omega
    · rintro ⟨⟨h2, h3, _⟩, _⟩
      rcases h1 with h1 | h1
      · exact absurd h1 h2
      · omega
  · rw [if_neg h1]
    by_cases h2 : ¬ (-68719476736 ≤ x.2.2 ∧ x.2.2 ≤ 68719476736)
    · rw [if_pos h2]
      constructor
      · intro h; omega
      · rintro ⟨⟨_, _, h3, _⟩, _⟩
        exact absurd h3 h2
    · rw [if_neg h2]
      by_cases h3 : 30 < x.2.1.length
      · rw [if_pos h3]
        constructor
        · intro h; omega
        · rintro ⟨⟨_, _, _, h4⟩, _⟩
          omega
      · rw [if_neg h3]
        cases ha : pre.any (fun y => y.1 == x.1) with
        | true => simp
        | false =>
          simp only [Bool.false_eq_true, if_false, and_true, true_iff]
          exact ⟨fun e => h1 (.inl e), by omega, Decidable.not_not.1 h2, by omega⟩
theorem faultGo_fine {l : List Letter} (h : ∀ (j : Nat) (hj : j < l.length), Th.errOf (l.take j) l[j] = 0) : ∀ f k, Th.faultGo l f k = (0, 0)
  | 0, _ => rfl
  | f + 1, k => by
    rw [Th.faultGo]
    cases hk : l[k]? with
    | none => rfl
    | some x =>
      obtain ⟨hk', rfl⟩ := List.getElem?_eq_some_iff.1 hk
      dsimp only
      rw [if_pos (h k hk'), faultGo_fine h f (k + 1)]
theorem lettersF_zero (l : List Letter) : (Th.lettersF l).1 = 0 ↔ l.length ≤ 300 ∧ (∀ x ∈ l, Fine x) ∧ Distinct l := by
  constructor
  · intro h
    refine ⟨short_of h, fun x hx => ?_, distinct_of h⟩
    obtain ⟨j, hj, rfl⟩ := List.mem_iff_getElem.1 hx
    have h' := h
    unfold Th.lettersF at h'
    rw [if_neg (by have := short_of h; omega)] at h'
    exact ((errOf_zero _ _).1 (faultGo_zero l _ _ h' j hj (by omega) (by omega))).1
  · rintro ⟨h1, h2, h3⟩
    unfold Th.lettersF
    rw [if_neg (by omega), faultGo_fine]
    intro j hj
    refine (errOf_zero _ _).2 ⟨h2 _ (List.getElem_mem hj), ?_⟩
    rw [List.any_eq_false]
    intro y hy
    obtain ⟨i, hi, rfl⟩ := List.mem_iff_getElem.1 hy
    rw [List.length_take] at hi
    rw [List.getElem_take]
    intro e
    have := h3 i j (by omega) hj (by simpa using e)
    omega
def rvN (l : List Letter) (k : Nat) : Nat := l.length - 1 - k
def rvP (l : List Letter) (p : Int) : Int := if p < 0 then p else ((rvN l p.toNat : Nat) : Int)
theorem rvN_lt {l : List Letter} {k : Nat} (h : k < l.length) : rvN l k < l.length := by unfold rvN; omega
theorem rvN_rvN {l : List Letter} {k : Nat} (h : k < l.length) : rvN l (rvN l k) = k := by unfold rvN; omega
theorem rvN_rev (l : List Letter) (k : Nat) : rvN l.reverse k = rvN l k := by unfold rvN; rw [List.length_reverse]
theorem rev_get {l : List Letter} {k : Nat} (h : k < l.length) (h' : k < l.reverse.length) : l.reverse[k] = l[rvN l k]'(rvN_lt h) := by
  rw [List.getElem_reverse]; rfl
theorem distinct_rev {l : List Letter} (hd : Distinct l) : Distinct l.reverse := by
  intro i j hi hj e
  have hi' : i < l.length := by simpa using hi
  have hj' : j < l.length := by simpa using hj
  rw [rev_get hi' hi, rev_get hj' hj] at e
  have := hd _ _ (rvN_lt hi') (rvN_lt hj') e
  unfold rvN at this
  omega
theorem lettersF_rev (l : List Letter) : (Th.lettersF l.reverse).1 = 0 ↔ (Th.lettersF l).1 = 0 := by
  rw [lettersF_zero, lettersF_zero, List.length_reverse]
  constructor
  · rintro ⟨h1, h2, h3⟩
    exact ⟨h1, fun x hx => h2 x (List.mem_reverse.2 hx), by have := distinct_rev h3; rwa [List.reverse_reverse] at this⟩
  · rintro ⟨h1, h2, h3⟩
    exact ⟨h1, fun x hx => h2 x (List.mem_reverse.1 hx), distinct_rev h3⟩
theorem lastOf_iff {l : List Letter} (hd : Distinct l) (r : Str) (k : Nat) : Th.lastOf l r = some k ↔ ∃ hk : k < l.length, l[k].1 = r := by
  constructor
  · intro h
    have hk := lastOf_lt _ _ _ h
    exact ⟨hk, lastOf_get _ _ _ hk h⟩
  · rintro ⟨hk, h⟩
    cases hl : Th.lastOf l r with
    | none => exact absurd h (lastOf_none _ _ hl _ (List.getElem_mem hk))
    | some j =>
      have hj := lastOf_lt _ _ _ hl
      have := lastOf_get _ _ _ hj hl
      rw [hd j k hj hk (this.trans h.symm)]
theorem refTo_iff {l : List Letter} (hd : Distinct l) (x : Letter) (r : Str) (k : Nat) : Th.refTo l x r = some k ↔ ∃ hk : k < l.length, l[k].1 = r ∧ Th.earlier l[k] x = true := by
  unfold Th.refTo
  cases hl : Th.lastOf l r with
  | none =>
    refine ⟨fun h => (by cases h), ?_⟩
    rintro ⟨hk, h1, _⟩
    have := (lastOf_iff hd r k).2 ⟨hk, h1⟩
    rw [hl] at this; cases this
  | some j =>
    obtain ⟨hj, hjr⟩ := (lastOf_iff hd r j).1 hl
    dsimp only
    rw [List.getElem?_eq_getElem hj, Option.map_some]
    constructor
    · intro h
      split at h
      · rename_i he
        injection h with h
        subst h
        exact ⟨hj, hjr, by simpa using he⟩
      · cases h
    · rintro ⟨hk, h1, h2⟩
      have : k = j := hd k j hk hj (h1.trans hjr.symm)
      subst this
      rw [if_pos (by rw [h2])]
theorem refTo_rev {l : List Letter} (hd : Distinct l) (x : Letter) (r : Str) : Th.refTo l.reverse x r = (Th.refTo l x r).map (rvN l) := by
  apply Option.ext
  intro k
  rw [refTo_iff (distinct_rev hd), Option.map_eq_some_iff]
  constructor
  · rintro ⟨hk, h1, h2⟩
    have hk' : k < l.length := by simpa using hk
    rw [rev_get hk' hk] at h1 h2
    exact ⟨rvN l k, (refTo_iff hd _ _ _).2 ⟨rvN_lt hk', h1, h2⟩, rvN_rvN hk'⟩
  · rintro ⟨j, hj, rfl⟩
    obtain ⟨hj', h1, h2⟩ := (refTo_iff hd _ _ _).1 hj
    have hlt := rvN_lt hj'
    have hlt' : rvN l j < l.reverse.length := by simpa using hlt
    refine ⟨hlt', ?_⟩
    rw [rev_get hlt hlt']
    have e : rvN l (rvN l j) = j := rvN_rvN hj'
    simp only [e]
    exact ⟨h1, h2⟩
theorem pick_rev {l : List Letter} (o : Option Nat) (p : Int) (h : ∀ k, o = some k → k < l.length) : Th.pickO (o.map (rvN l)) (rvP l p) = rvP l (Th.pickO o p) := by
  cases o with
  | none => rfl
  | some k =>
    show ((rvN l k : Nat) : Int) = rvP l (k : Int)
    unfold rvP
    rw [if_neg (by omega), Int.toNat_natCast]
theorem parent_rev {l : List Letter} (hd : Distinct l) (x : Letter) : Th.parentOf l.reverse x = rvP l (Th.parentOf l x) := by
  unfold Th.parentOf
  have key : ∀ (rs : List Str) (p : Int), rs.foldl (fun p r => Th.pickO (Th.refTo l.reverse x r) p) (rvP l p) = rvP l (rs.foldl (fun p r => Th.pickO (Th.refTo l x r) p) p) := by
    intro rs
    induction rs with
    | nil => intro p; rfl
    | cons r rs ih =>
      intro p
      rw [List.foldl_cons, List.foldl_cons, refTo_rev hd, pick_rev _ _ fun k hk => ((refTo_iff hd _ _ _).1 hk).1, ih]
  have := key x.2.1 (-1)
  rwa [show rvP l (-1) = -1 from rfl] at this
def PlaceOf (l : List Letter) (p : Int) : Prop := p = -1 ∨ ∃ k : Nat, p = k ∧ k < l.length
theorem parent_place {l : List Letter} (hd : Distinct l) (x : Letter) : PlaceOf l (Th.parentOf l x) := by
  rcases parent_nat hd x with h | ⟨j, hj, h, _⟩
  · exact .inl h
  · exact .inr ⟨j, h, hj⟩
theorem rvP_inj {l : List Letter} {p q : Int} (hp : PlaceOf l p) (hq : PlaceOf l q) (h : rvP l p = rvP l q) : p = q := by
  unfold rvP rvN at h
  rcases hp with rfl | ⟨a, rfl, ha⟩ <;> rcases hq with rfl | ⟨b, rfl, hb⟩
  · rfl
  · rw [if_pos (by omega), if_neg (by omega)] at h; omega
  · rw [if_neg (by omega), if_pos (by omega)] at h; omega
  · rw [if_neg (by omega), if_neg (by omega)] at h
    simp only [Int.toNat_natCast] at h
    omega
theorem kids_rev {l : List Letter} (hd : Distinct l) {p : Int} (hp : PlaceOf l p) : ((Th.kidsS l p).map (rvN l)).Perm (Th.kids l.reverse (rvP l p)) := by
  have hn1 : ((Th.kidsS l p).map (rvN l)).Nodup := by
    unfold List.Nodup
    rw [List.pairwise_map]
    refine (kidsS_nodup l p).imp_of_mem fun {a b} ha hb h e => h ?_
    have ha' := kidsS_lt' ha
    have hb' := kidsS_lt' hb
    unfold rvN at e
    omega
  have hn2 : (Th.kids l.reverse (rvP l p)).Nodup := (List.nodup_range).sublist List.filter_sublist
  refine (List.perm_ext_iff_of_nodup hn1 hn2).2 fun k => ?_
  rw [List.mem_map, mem_kids]
  constructor
  · rintro ⟨j, hj, rfl⟩
    obtain ⟨hjl, hjp⟩ := (mem_kids l p j).1 ((kidsS_mem l p j).1 hj)
    have hlt := rvN_lt hjl
    have hlt' : rvN l j < l.reverse.length := by simpa using hlt
    refine ⟨hlt', ?_⟩
    rw [rev_get hlt hlt', parent_rev hd]
    simp only [rvN_rvN hjl, hjp]
  · rintro ⟨hk, h⟩
    have hk' : k < l.length := by simpa using hk
    rw [rev_get hk' hk, parent_rev hd] at h
    exact ⟨rvN l k, (kidsS_mem l p _).2 ((mem_kids l p _).2 ⟨rvN_lt hk', rvP_inj (parent_place hd _) hp h⟩), rvN_rvN hk'⟩
theorem later_rev {l : List Letter} {a b : Nat} (ha : a < l.length) (hb : b < l.length) : Th.later l.reverse (rvN l a) (rvN l b) = Th.later l a b := by
  have ha' : rvN l a < l.reverse.length := by simpa using rvN_lt ha
  have hb' : rvN l b < l.reverse.length := by simpa using rvN_lt hb
  rw [later_eq ha' hb', later_eq ha hb, rev_get (rvN_lt ha) ha', rev_get (rvN_lt hb) hb']
  simp only [rvN_rvN ha, rvN_rvN hb]
theorem kidsS_rev {l : List Letter} (hd : Distinct l) {p : Int} (hp : PlaceOf l p) : Th.kidsS l.reverse (rvP l p) = (Th.kidsS l p).map (rvN l) := by
  refine (kidsS_of (distinct_rev hd) _ (kids_rev hd hp) ?_).symm
  rw [List.pairwise_map]
  refine (kidsS_pair hd p).imp_of_mem fun {a b} ha hb h => ?_
  rw [later_rev (kidsS_lt' ha) (kidsS_lt' hb)]
  exact h
theorem rvP_nat {l : List Letter} (k : Nat) : rvP l (k : Int) = ((rvN l k : Nat) : Int) := by
  unfold rvP
  rw [if_neg (by omega), Int.toNat_natCast]
theorem shownF_rev {l : List Letter} (hd : Distinct l) : ∀ (f : Nat) (p d : Int), PlaceOf l p → Th.shownF l.reverse f (rvP l p) d = (Th.shownF l f p d).map fun x => (rvN l x.1, x.2)
  | 0, _, _, _ => rfl
  | f + 1, p, d, hp => by
    rw [Th.shownF, Th.shownF, kidsS_rev hd hp, List.flatMap_map, List.map_flatMap, List.flatMap_def, List.flatMap_def]
    congr 1
    refine List.map_congr_left fun k hk => ?_
    rw [List.map_cons, ← rvP_nat, shownF_rev hd f (k : Int) (d + 1) (.inr ⟨k, rfl, kidsS_lt' hk⟩)]
theorem shownA_rev {l : List Letter} (hd : Distinct l) : Th.shownA l.reverse (-1) 0 = (Th.shownA l (-1) 0).map fun x => (rvN l x.1, x.2) := by
  unfold Th.shownA
  rw [List.length_reverse]
  exact shownF_rev hd (l.length + 2) (-1) 0 (.inl rfl)
end Go.Proofs.Ytclobnojpmgmaaa

/-
  The kids in their order; the reference's next kid: plain.
-/
import Derived.Test.YtclobnojpmgmaaaThP
namespace Go.Proofs.Ytclobnojpmgmaaa
set_option linter.unusedVariables false
theorem later_eq {l : List Letter} {a b : Nat} (ha : a < l.length) (hb : b < l.length) : Th.later l a b = Th.earlier l[a] l[b] := by
  unfold Th.later
  rw [List.getElem?_eq_getElem ha, List.getElem?_eq_getElem hb]
theorem later_irrefl (l : List Letter) (a : Nat) : Th.later l a a = false := by
  unfold Th.later
  cases l[a]? with
  | none => rfl
  | some x => exact Th.earlier_irrefl x
theorem later_asymm {l : List Letter} {a b : Nat} (h : Th.later l a b = true) : Th.later l b a = false := by
  unfold Th.later at h ⊢
  cases ha : l[a]? with
  | none => rw [ha] at h; cases h
  | some x =>
    cases hb : l[b]? with
    | none => rfl
    | some y =>
      rw [ha, hb] at h
      dsimp only at h ⊢
      cases he : Th.earlier y x with
      | false => rfl
      | true => have := Th.earlier_trans _ _ _ h he; rw [Th.earlier_irrefl] at this; cases this
theorem later_total {l : List Letter} (hd : Distinct l) {a b : Nat} (ha : a < l.length) (hb : b < l.length) (h : Th.later l b a = false) (hne : a ≠ b) : Th.later l a b = true := by
  rw [later_eq hb ha] at h
  rw [later_eq ha hb]
  cases he : Th.earlier l[a] l[b] with
  | true => rfl
  | false => exact absurd (hd a b ha hb (Th.earlier_total _ _ he h)) hne
theorem kidsS_lt' {l : List Letter} {p : Int} {k : Nat} (h : k ∈ Th.kidsS l p) : k < l.length := ((mem_kids l p k).1 ((kidsS_mem l p k).1 h)).1
theorem kidsS_pair {l : List Letter} (hd : Distinct l) (p : Int) : (Th.kidsS l p).Pairwise fun a b => Th.later l a b = true := by
  have h1 : (Th.kidsS l p).Pairwise fun a b => Th.later l b a = false := by
    have hm : (Th.kidsS l p).map (fun k => l[k]?.getD ([], [], 0)) = ((Th.kids l p).map (fun k => l[k]?.getD ([], [], 0))).mergeSort fun x y => !Th.earlier y x := by
      unfold Th.kidsS
      refine List.map_mergeSort fun a ha b hb => ?_
      have ha' := ((mem_kids l p a).1 ha).1
      have hb' := ((mem_kids l p b).1 hb).1
      rw [later_eq hb' ha', List.getElem?_eq_getElem ha', List.getElem?_eq_getElem hb']
      rfl
    have hs := List.pairwise_mergeSort (le := fun x y : Letter => !Th.earlier y x) (fun x y z h1 h2 => by
        simp only [Bool.not_eq_true'] at h1 h2 ⊢
        exact Th.earlier_ntrans _ _ _ h2 h1) (fun x y => by
        cases he : Th.earlier y x with
        | false => simp
        | true =>
          cases he2 : Th.earlier x y with
          | false => simp
          | true => have := Th.earlier_trans _ _ _ he he2; rw [Th.earlier_irrefl] at this; cases this) ((Th.kids l p).map (fun k => l[k]?.getD ([], [], 0)))
    rw [← hm, List.pairwise_map] at hs
    refine hs.imp_of_mem fun {a b} ha hb h => ?_
    have ha' := kidsS_lt' ha
    have hb' := kidsS_lt' hb
    rw [later_eq hb' ha']
    rw [List.getElem?_eq_getElem ha', List.getElem?_eq_getElem hb'] at h
    simpa using h
  have h2 := List.Pairwise.and h1 (kidsS_nodup l p)
  exact h2.imp_of_mem fun {a b} ha hb h => later_total hd (kidsS_lt' ha) (kidsS_lt' hb) h.1 h.2
theorem kidsS_of {l : List Letter} (hd : Distinct l) (p : Int) {ks : List Nat} (hp : ks.Perm (Th.kids l p)) (hs : ks.Pairwise fun a b => Th.later l a b = true) : ks = Th.kidsS l p := by
  refine List.Perm.eq_of_pairwise (le := fun a b => Th.later l a b = true) (fun a b _ _ h1 h2 => ?_) hs (kidsS_pair hd p) (hp.trans (List.mergeSort_perm _ _).symm)
  rw [later_asymm h1] at h2
  cases h2
/-- the kids behind the first j -/
theorem kids_drop {l : List Letter} (hd : Distinct l) (p : Int) (j : Nat) (hj : j < (Th.kidsS l p).length) (i : Nat) : i ∈ (Th.kidsS l p).drop (j + 1) ↔ i ∈ Th.kids l p ∧ Th.later l (Th.kidsS l p)[j] i = true := by
  have hs := List.pairwise_iff_getElem.1 (kidsS_pair hd p)
  constructor
  · intro h
    obtain ⟨m, hm, rfl⟩ := List.mem_iff_getElem.1 h
    rw [List.length_drop] at hm
    rw [List.getElem_drop]
    exact ⟨(kidsS_mem l p _).1 (List.getElem_mem _), hs j _ hj (by omega) (by omega)⟩
  · rintro ⟨h1, h2⟩
    obtain ⟨m, hm, rfl⟩ := List.mem_iff_getElem.1 ((kidsS_mem l p i).2 h1)
    have hjm : j < m := by
      by_cases e : j < m
      · exact e
      · exfalso
        by_cases e2 : m = j
        · subst e2; rw [later_irrefl] at h2; cases h2
        · have := later_asymm (hs m j hm hj (by omega))
          rw [this] at h2; cases h2
    refine List.mem_iff_getElem.2 ⟨m - (j + 1), by rw [List.length_drop]; omega, ?_⟩
    rw [List.getElem_drop]
    congr 1
    omega
/-- the kid shown before the j-th, -1 ahead of the first -/
def lastK (l : List Letter) (p : Int) (j : Nat) : Int := if j = 0 then -1 else (((Th.kidsS l p)[j - 1]?.getD 0 : Nat) : Int)
/-- the reference's test of letter i: last, next -/
def candB (l : List Letter) (p la : Int) (i : Nat) : Bool := (Th.parentsF l)[i]? == some p && (decide (la < 0) || Th.later l la.toNat i)
def nextStep (l : List Letter) (p la : Int) (nx : Int) (i : Nat) : Int := if candB l p la i && (decide (nx < 0) || Th.later l i nx.toNat) then (i : Int) else nx
def nextTo (l : List Letter) (p la : Int) : Nat → Int
  | 0 => -1
  | i + 1 => nextStep l p la (nextTo l p la i) i
theorem candB_iff {l : List Letter} (p la : Int) (i : Nat) (hi : i < l.length) : candB l p la i = true ↔ i ∈ Th.kids l p ∧ (la < 0 ∨ Th.later l la.toNat i = true) := by
  unfold candB Th.kids
  rw [List.mem_filter, List.mem_range]
  simp [hi]
theorem cand_drop {l : List Letter} (hd : Distinct l) (p : Int) (j : Nat) (hj : j ≤ (Th.kidsS l p).length) (i : Nat) (hi : i < l.length) : candB l p (lastK l p j) i = true ↔ i ∈ (Th.kidsS l p).drop j := by
  rw [candB_iff _ _ _ hi]
  cases j with
  | zero => simp [lastK, kidsS_mem]
  | succ j =>
    rw [kids_drop hd p j (by omega)]
    have : lastK l p (j + 1) = ((Th.kidsS l p)[j] : Int) := by
      unfold lastK
      rw [if_neg (by omega), Nat.add_sub_cancel, List.getElem?_eq_getElem (by omega)]
      rfl
    rw [this]
    constructor
    · rintro ⟨h1, h2⟩
      refine ⟨h1, ?_⟩
      rcases h2 with h2 | h2
      · omega
      · simpa using h2
    · rintro ⟨h1, h2⟩
      exact ⟨h1, .inr (by simpa using h2)⟩
theorem nextTo_spec {l : List Letter} (hd : Distinct l) (p la : Int) : ∀ i, i ≤ l.length →
    (nextTo l p la i = -1 ∧ ∀ c, c < i → candB l p la c = false) ∨ (∃ c : Nat, nextTo l p la i = c ∧ c < i ∧ candB l p la c = true ∧ ∀ c', c' < i → candB l p la c' = true → c' = c ∨ Th.later l c c' = true)
  | 0, _ => .inl ⟨rfl, fun c h => absurd h (by omega)⟩
  | i + 1, hi => by
    have ih := nextTo_spec hd p la i (by omega)
    rw [nextTo]
    unfold nextStep
    cases hc : candB l p la i with
    | false =>
      rw [Bool.false_and, if_neg (by simp)]
      rcases ih with ⟨h1, h2⟩ | ⟨c, h1, h2, h3, h4⟩
      · exact .inl ⟨h1, fun c hlt => by
          by_cases e : c = i
          · rw [e]; exact hc
          · exact h2 c (by omega)⟩
      · exact .inr ⟨c, h1, by omega, h3, fun c' hlt hc' => by
          by_cases e : c' = i
          · rw [e, hc] at hc'; cases hc'
          · exact h4 c' (by omega) hc'⟩
    | true =>
      rcases ih with ⟨h1, h2⟩ | ⟨c, h1, h2, h3, h4⟩
      · rw [h1]
        refine .inr ⟨i, by simp, by omega, hc, fun c' hlt hc' => ?_⟩
        by_cases e : c' = i
        · exact .inl e
        · rw [h2 c' (by omega)] at hc'; cases hc'
      · rw [h1, Int.toNat_natCast, Bool.true_and, (show decide ((c : Int) < 0) = false from by simp), Bool.false_or]
        cases hlt : Th.later l i c with
        | true =>
          refine .inr ⟨i, by simp, by omega, hc, fun c' hc'i hc' => ?_⟩
          by_cases e : c' = i
          · exact .inl e
          · right
            rcases h4 c' (by omega) hc' with rfl | h5
            · exact hlt
            · rw [later_eq (by omega) (by omega)] at hlt h5 ⊢
              exact Th.earlier_trans _ _ _ hlt h5
        | false =>
          refine .inr ⟨c, by simp, by omega, h3, fun c' hc'i hc' => ?_⟩
          by_cases e : c' = i
          · right
            rw [e]
            exact later_total hd (by omega) (by omega) hlt (by omega)
          · exact h4 c' (by omega) hc'
theorem nextTo_all {l : List Letter} (hd : Distinct l) (p : Int) (j : Nat) (hj : j ≤ (Th.kidsS l p).length) : nextTo l p (lastK l p j) l.length = if h : j < (Th.kidsS l p).length then ((Th.kidsS l p)[j] : Int) else -1 := by
  have hcd := fun i hi => cand_drop hd p j hj i hi
  split
  · rename_i hlt
    have hk : (Th.kidsS l p)[j] < l.length := kidsS_lt' (List.getElem_mem hlt)
    have hdj : (Th.kidsS l p).drop j = (Th.kidsS l p)[j] :: (Th.kidsS l p).drop (j + 1) := List.drop_eq_getElem_cons hlt
    have hc := (hcd _ hk).2 (by rw [hdj]; exact List.mem_cons_self)
    rcases nextTo_spec hd p (lastK l p j) l.length (Nat.le_refl _) with ⟨_, h2⟩ | ⟨c, h1, h2, h3, h4⟩
    · rw [h2 _ hk] at hc; cases hc
    · rw [h1]
      rcases h4 _ hk hc with h5 | h5
      · rw [h5]
      · exfalso
        have h6 := (hcd c h2).1 h3
        rw [hdj, List.mem_cons] at h6
        rcases h6 with h6 | h6
        · rw [← h6, later_irrefl] at h5; cases h5
        · have := ((kids_drop hd p j hlt c).1 h6).2
          rw [later_asymm this] at h5; cases h5
  · rename_i hlt
    rcases nextTo_spec hd p (lastK l p j) l.length (Nat.le_refl _) with ⟨h1, _⟩ | ⟨c, h1, h2, h3, h4⟩
    · exact h1
    · have := (hcd c h2).1 h3
      rw [List.drop_of_length_le (by omega)] at this
      cases this
/-- what is shown of the first j kids -/
def shownTo (l : List Letter) (p d : Int) (j : Nat) : List (Nat × Int) := ((Th.kidsS l p).take j).flatMap fun k => (k, d) :: Th.shownA l (k : Int) (d + 1)
theorem shownTo_succ (l : List Letter) (p d : Int) (j : Nat) (hj : j < (Th.kidsS l p).length) : shownTo l p d (j + 1) = shownTo l p d j ++ ((Th.kidsS l p)[j], d) :: Th.shownA l ((Th.kidsS l p)[j] : Int) (d + 1) := by
  unfold shownTo
  rw [List.take_succ_eq_append_getElem hj, List.flatMap_append]
  simp
theorem shownTo_all {l : List Letter} (hd : Distinct l) (p d : Int) (hp : p < 0 ∨ ∃ k : Nat, p = k ∧ k < l.length) : shownTo l p d (Th.kidsS l p).length = Th.shownA l p d := by
  unfold shownTo
  rw [List.take_length, shownA_eq hd p d hp]
end Go.Proofs.Ytclobnojpmgmaaa

/-
  Each letter is shown once, behind the one that it answers, one deeper.
-/
import Derived.Test.YtclobnojpmgmaaaThN
namespace Go.Proofs.Ytclobnojpmgmaaa
set_option linter.unusedVariables false
theorem mem_kids (l : List Letter) (p : Int) (k : Nat) : k ∈ Th.kids l p ↔ ∃ hk : k < l.length, Th.parentOf l l[k] = p := by
  unfold Th.kids
  rw [List.mem_filter, List.mem_range]
  constructor
  · rintro ⟨hk, h⟩
    unfold Th.parentsF at h
    rw [List.getElem?_map, List.getElem?_eq_getElem hk, Option.map_some] at h
    exact ⟨hk, by simpa using h⟩
  · rintro ⟨hk, h⟩
    refine ⟨hk, ?_⟩
    unfold Th.parentsF
    rw [List.getElem?_map, List.getElem?_eq_getElem hk, Option.map_some, h]
    simp
theorem kidsS_nodup (l : List Letter) (p : Int) : (Th.kidsS l p).Nodup := by
  refine (List.mergeSort_perm _ _).nodup_iff.2 ?_
  exact (List.nodup_range).sublist (List.filter_sublist)
theorem shownA_mem {l : List Letter} (hd : Distinct l) (p d : Int) (hp : p < 0 ∨ ∃ k : Nat, p = k ∧ k < l.length) (x : Nat × Int) : x ∈ Th.shownA l p d ↔ ∃ q ∈ Th.kids l p, x = (q, d) ∨ x ∈ Th.shownA l (q : Int) (d + 1) := by
  rw [shownA_eq hd p d hp, List.mem_flatMap]
  constructor
  · rintro ⟨q, hq, h⟩
    exact ⟨q, (kidsS_mem l p q).1 hq, by simpa using h⟩
  · rintro ⟨q, hq, h⟩
    exact ⟨q, (kidsS_mem l p q).2 hq, by simpa using h⟩
theorem kid_ok {l : List Letter} {p : Int} {q : Nat} (hq : q ∈ Th.kids l p) : (q : Int) < 0 ∨ ∃ k : Nat, (q : Int) = k ∧ k < l.length := .inr ⟨q, rfl, ((mem_kids l p q).1 hq).1⟩
theorem kid_rank {l : List Letter} (hd : Distinct l) (p k : Nat) (h : k ∈ Th.kids l (p : Int)) : p < l.length ∧ k < l.length ∧ Th.rank l k < Th.rank l p := by
  obtain ⟨hp, hk, he⟩ := kid_later hd p k h
  exact ⟨hp, hk, Th.rank_lt l p k hp hk he⟩
/-- a is k or one that it answers, directly or through others -/
inductive Up (l : List Letter) : Nat → Nat → Prop
  | refl (k : Nat) : Up l k k
  | par {k j a : Nat} (h : k ∈ Th.kids l (j : Int)) (hu : Up l j a) : Up l k a
theorem Up.trans {l : List Letter} {a b c : Nat} (h : Up l a b) (h2 : Up l b c) : Up l a c := by
  induction h with
  | refl => exact h2
  | par h _ ih => exact .par h (ih h2)
theorem Up.rank {l : List Letter} (hd : Distinct l) {a b : Nat} (h : Up l a b) : Th.rank l a ≤ Th.rank l b := by
  induction h with
  | refl => exact Nat.le_refl _
  | par h _ ih => have := (kid_rank hd _ _ h).2.2; omega
theorem Up.comp {l : List Letter} {k a b : Nat} (h : Up l k a) (h2 : Up l k b) : Up l a b ∨ Up l b a := by
  induction h with
  | refl => exact .inl h2
  | par h hu ih =>
    cases h2 with
    | refl => exact .inr (.par h hu)
    | par h' hu' =>
      obtain ⟨_, e1⟩ := (mem_kids l _ _).1 h
      obtain ⟨_, e2⟩ := (mem_kids l _ _).1 h'
      rw [e1] at e2
      have : _ = _ := Int.ofNat.inj e2
      subst this
      exact ih hu'
/-- two answers to one letter that lie above one and the same letter are one -/
theorem Up.one {l : List Letter} (hd : Distinct l) {p : Int} {q q' k : Nat} (hq : q ∈ Th.kids l p) (hq' : q' ∈ Th.kids l p) (h : Up l k q) (h' : Up l k q') : q = q' := by
  have key : ∀ {a b : Nat}, a ∈ Th.kids l p → b ∈ Th.kids l p → Up l a b → a = b := by
    intro a b ha hb hu
    cases hu with
    | refl => rfl
    | par h1 hu1 =>
      obtain ⟨_, e1⟩ := (mem_kids l _ _).1 ha
      obtain ⟨_, e2⟩ := (mem_kids l _ _).1 h1
      rw [e1] at e2
      subst e2
      have h2 := hu1.rank hd
      have h3 := (kid_rank hd _ _ hb).2.2
      omega
  rcases h.comp h' with h1 | h1
  · exact key hq hq' h1
  · exact (key hq' hq h1).symm
theorem shown_up {l : List Letter} (hd : Distinct l) : ∀ (n q : Nat) (d : Int) (x : Nat × Int), q < l.length → Th.rank l q < n → x ∈ Th.shownA l (q : Int) d → ∃ y ∈ Th.kids l (q : Int), Up l x.1 y
  | 0, _, _, _, _, h, _ => by omega
  | n + 1, q, d, x, hq, hr, hx => by
    obtain ⟨y, hy, h⟩ := (shownA_mem hd q d (.inr ⟨q, rfl, hq⟩) x).1 hx
    refine ⟨y, hy, ?_⟩
    obtain ⟨_, hyl, hyr⟩ := kid_rank hd _ _ hy
    rcases h with rfl | h
    · exact .refl _
    · obtain ⟨z, hz, hu⟩ := shown_up hd n y (d + 1) x hyl (by omega) h
      exact hu.trans (.par hz (.refl _))
/-- no letter is shown twice -/
theorem shown_nodup {l : List Letter} (hd : Distinct l) : ∀ (n : Nat) (p d : Int), ((p < 0 ∧ l.length < n) ∨ ∃ j : Nat, p = j ∧ j < l.length ∧ Th.rank l j < n) → ((Th.shownA l p d).map fun x => x.1).Nodup
  | 0, _, _, h => by rcases h with ⟨_, h⟩ | ⟨_, _, _, h⟩ <;> omega
  | n + 1, p, d, h => by
    have hp : p < 0 ∨ ∃ k : Nat, p = k ∧ k < l.length := by
      rcases h with ⟨h, _⟩ | ⟨j, h1, h2, _⟩
      · exact .inl h
      · exact .inr ⟨j, h1, h2⟩
    have hrk : ∀ q ∈ Th.kids l p, q < l.length ∧ Th.rank l q < n := by
      intro q hq
      obtain ⟨hql, _⟩ := (mem_kids l p q).1 hq
      refine ⟨hql, ?_⟩
      rcases h with ⟨_, h⟩ | ⟨j, rfl, hj, h⟩
      · have h1 : Th.rank l q < l.length := by
          refine Nat.lt_of_lt_of_le (Th.cnt_lt _ (fun _ => true) _ (fun _ _ _ => rfl) ⟨q, List.mem_range.2 hql, ?_, rfl⟩) (Nat.le_trans (List.length_filter_le _ _) (by simp))
          unfold Th.later
          rw [List.getElem?_eq_getElem hql]
          exact Th.earlier_irrefl _
        omega
      · have := (kid_rank hd j q hq).2.2
        omega
    have hup : ∀ q ∈ Th.kids l p, ∀ x ∈ (Th.shownA l (q : Int) (d + 1)).map (fun x => x.1), ∃ y ∈ Th.kids l (q : Int), Up l x y := by
      intro q hq x hx
      obtain ⟨z, hz, rfl⟩ := List.mem_map.1 hx
      exact shown_up hd n q (d + 1) z (hrk q hq).1 (hrk q hq).2 hz
    rw [shownA_eq hd p d hp, List.map_flatMap]
    unfold List.Nodup
    rw [List.pairwise_flatMap]
    constructor
    · intro q hq
      have hq := (kidsS_mem l p q).1 hq
      rw [List.map_cons, List.pairwise_cons]
      refine ⟨fun x hx e => ?_, shown_nodup hd n q (d + 1) (.inr ⟨q, rfl, (hrk q hq).1, (hrk q hq).2⟩)⟩
      obtain ⟨y, hy, hu⟩ := hup q hq x hx
      have e' : q = x := e
      subst e'
      have h1 := hu.rank hd
      have h2 := (kid_rank hd _ _ hy).2.2
      omega
    · refine (kidsS_nodup l p).imp_of_mem fun {q q'} hq hq' hne x hx y hy e => ?_
      have hq := (kidsS_mem l p q).1 hq
      have hq' := (kidsS_mem l p q').1 hq'
      subst e
      have hb : ∀ {q : Nat}, q ∈ Th.kids l p → x ∈ ((q, d) :: Th.shownA l (q : Int) (d + 1)).map (fun x => x.1) → Up l x q := by
        intro q hq hx
        rw [List.map_cons, List.mem_cons] at hx
        rcases hx with e | hx
        · have e' : x = q := e
          subst e'
          exact .refl _
        · obtain ⟨z, hz, hu⟩ := hup q hq x hx
          exact hu.trans (.par hz (.refl _))
      exact hne (Up.one hd hq hq' (hb hq hx) (hb hq' hy))
/-- what is shown below a shown letter is shown -/
theorem shown_sub {l : List Letter} (hd : Distinct l) : ∀ (n : Nat) (p d : Int), ((p < 0 ∧ l.length < n) ∨ ∃ j : Nat, p = j ∧ j < l.length ∧ Th.rank l j < n) → ∀ (x : Nat × Int) (k : Nat), x ∈ Th.shownA l p d → k ∈ Th.kids l (x.1 : Int) → (k, x.2 + 1) ∈ Th.shownA l p d
  | 0, _, _, h => by rcases h with ⟨_, h⟩ | ⟨_, _, _, h⟩ <;> omega
  | n + 1, p, d, h => by
    intro x k hx hk
    have hp : p < 0 ∨ ∃ k : Nat, p = k ∧ k < l.length := by
      rcases h with ⟨h, _⟩ | ⟨j, h1, h2, _⟩
      · exact .inl h
      · exact .inr ⟨j, h1, h2⟩
    obtain ⟨q, hq, hxq⟩ := (shownA_mem hd p d hp x).1 hx
    obtain ⟨hql, _⟩ := (mem_kids l p q).1 hq
    refine (shownA_mem hd p d hp _).2 ⟨q, hq, .inr ?_⟩
    rcases hxq with rfl | hxq
    · exact (shownA_mem hd q (d + 1) (kid_ok hq) _).2 ⟨k, hk, .inl rfl⟩
    · refine shown_sub hd n q (d + 1) (.inr ⟨q, rfl, hql, ?_⟩) x k hxq hk
      rcases h with ⟨_, h⟩ | ⟨j, rfl, hj, h⟩
      · have h1 : Th.rank l q ≤ l.length := Th.rank_le l q
        have h2 : Th.rank l q < l.length := by
          refine Nat.lt_of_lt_of_le (Th.cnt_lt _ (fun _ => true) _ (fun _ _ _ => rfl) ⟨q, List.mem_range.2 hql, ?_, rfl⟩) (Nat.le_trans (List.length_filter_le _ _) (by simp))
          unfold Th.later
          rw [List.getElem?_eq_getElem hql]
          exact Th.earlier_irrefl _
        omega
      · have := (kid_rank hd j q hq).2.2
        omega
theorem parent_nat {l : List Letter} (hd : Distinct l) (x : Letter) : Th.parentOf l x = -1 ∨ ∃ (j : Nat) (hj : j < l.length), Th.parentOf l x = j ∧ Th.earlier l[j] x = true := by
  rw [← parTo_all]
  rcases parTo_last l x x.2.1.length (Nat.le_refl _) with ⟨h1, _⟩ | ⟨r, k, hr, _, h2, h3, _⟩
  · exact .inl h1
  · obtain ⟨hk, _, _, he⟩ := (refTo_hits hd x r k hr).1 h2
    exact .inr ⟨k, hk, h3, he⟩
/-- each letter is shown -/
theorem shown_all {l : List Letter} (hd : Distinct l) : ∀ (n k : Nat), k < l.length → l.length - Th.rank l k < n → ∃ d, (k, d) ∈ Th.shownA l (-1) 0
  | 0, _, _, h => by omega
  | n + 1, k, hk, hr => by
    rcases parent_nat hd l[k] with h | ⟨j, hj, h, he⟩
    · exact ⟨0, (shownA_mem hd (-1) 0 (.inl (by omega)) _).2 ⟨k, (mem_kids l (-1) k).2 ⟨hk, h⟩, .inl rfl⟩⟩
    · have h1 := Th.rank_lt l j k hj hk he
      have h2 := Th.rank_le l j
      obtain ⟨d, hdm⟩ := shown_all hd n j hj (by omega)
      exact ⟨d + 1, shown_sub hd (l.length + 1) (-1) 0 (.inl ⟨by omega, by omega⟩) (j, d) k hdm ((mem_kids l (j : Int) k).2 ⟨hk, h⟩)⟩
theorem shown_lt {l : List Letter} : ∀ (f : Nat) (p d : Int) (x : Nat × Int), x ∈ Th.shownF l f p d → x.1 < l.length ∧ d ≤ x.2 ∧ x.2 < d + f
  | 0, _, _, _, h => by cases h
  | f + 1, p, d, x, h => by
    rw [Th.shownF, List.mem_flatMap] at h
    obtain ⟨q, hq, h⟩ := h
    have hql := ((mem_kids l p q).1 ((kidsS_mem l p q).1 hq)).1
    rcases List.mem_cons.1 h with rfl | h
    · exact ⟨hql, Int.le_refl _, by show d < d + ((f + 1 : Nat) : Int); omega⟩
    · obtain ⟨h1, h2, h3⟩ := shown_lt f q (d + 1) x h
      exact ⟨h1, by omega, by omega⟩
/-- the places shown are the places of all letters -/
theorem shown_perm {l : List Letter} (hd : Distinct l) : ((Th.shownA l (-1) 0).map fun x => x.1).Perm (List.range l.length) := by
  refine (List.perm_ext_iff_of_nodup (shown_nodup hd (l.length + 1) (-1) 0 (.inl ⟨by omega, by omega⟩)) List.nodup_range).2 fun k => ?_
  rw [List.mem_range, List.mem_map]
  constructor
  · rintro ⟨x, hx, rfl⟩
    exact (shown_lt _ _ _ x hx).1
  · intro hk
    obtain ⟨d, h⟩ := shown_all hd (l.length + 1) k hk (by omega)
    exact ⟨_, h, rfl⟩
theorem shown_len {l : List Letter} (hd : Distinct l) : (Th.shownA l (-1) 0).length = l.length := by
  have := (shown_perm hd).length_eq
  simpa using this
/-- behind the letters of seen: each of L answers one of them, one deeper, or is a root at depth d -/
def OkL (l : List Letter) (p d : Int) : List (Nat × Int) → List (Nat × Int) → Prop
  | _, [] => True
  | seen, x :: t => (∃ hk : x.1 < l.length, (Th.parentOf l l[x.1] = p ∧ x.2 = d) ∨ ∃ j : Nat, Th.parentOf l l[x.1] = j ∧ (j, x.2 - 1) ∈ seen) ∧ OkL l p d (seen ++ [x]) t
theorem OkL.append {l : List Letter} {p d : Int} : ∀ (a b seen : List (Nat × Int)), OkL l p d seen a → OkL l p d (seen ++ a) b → OkL l p d seen (a ++ b)
  | [], b, seen, _, h => by simpa using h
  | x :: a, b, seen, h, h2 => ⟨h.1, OkL.append a b _ h.2 (by simpa using h2)⟩
theorem OkL.weak {l : List Letter} {p d p' d' : Int} : ∀ (a seen : List (Nat × Int)) (j : Nat), p = j → (j, d - 1) ∈ seen → OkL l p d seen a → OkL l p' d' seen a
  | [], _, _, _, _, _ => trivial
  | x :: a, seen, j, hp, hj, h => by
    refine ⟨?_, OkL.weak a _ j hp (List.mem_append_left _ hj) h.2⟩
    obtain ⟨hk, h1⟩ := h.1
    refine ⟨hk, .inr ?_⟩
    rcases h1 with ⟨h2, h3⟩ | h2
    · exact ⟨j, by rw [h2, hp], by rw [h3]; exact hj⟩
    · exact h2
theorem okL_flat {l : List Letter} {p d : Int} (g : Nat → List (Nat × Int)) : ∀ (K : List Nat) (seen : List (Nat × Int)), (∀ q ∈ K, ∀ seen, OkL l p d seen (g q)) → OkL l p d seen (K.flatMap g)
  | [], _, _ => trivial
  | q :: K, seen, h => by
    rw [List.flatMap_cons]
    exact OkL.append _ _ _ (h q List.mem_cons_self seen) (okL_flat g K _ fun q' hq' => h q' (List.mem_cons_of_mem _ hq'))
theorem shown_okL {l : List Letter} (hd : Distinct l) : ∀ (n : Nat) (p d : Int) (seen : List (Nat × Int)), ((p < 0 ∧ l.length < n) ∨ ∃ j : Nat, p = j ∧ j < l.length ∧ Th.rank l j < n) → OkL l p d seen (Th.shownA l p d)
  | 0, _, _, _, h => by rcases h with ⟨_, h⟩ | ⟨_, _, _, h⟩ <;> omega
  | n + 1, p, d, seen, h => by
    have hp : p < 0 ∨ ∃ k : Nat, p = k ∧ k < l.length := by
      rcases h with ⟨h, _⟩ | ⟨j, h1, h2, _⟩
      · exact .inl h
      · exact .inr ⟨j, h1, h2⟩
    rw [shownA_eq hd p d hp]
    refine okL_flat _ _ _ fun q hq seen => ?_
    have hq := (kidsS_mem l p q).1 hq
    obtain ⟨hql, hqp⟩ := (mem_kids l p q).1 hq
    refine ⟨⟨hql, .inl ⟨hqp, rfl⟩⟩, ?_⟩
    refine OkL.weak _ _ q rfl (by simp) (shown_okL hd n q (d + 1) _ (.inr ⟨q, rfl, hql, ?_⟩))
    rcases h with ⟨_, h⟩ | ⟨j, rfl, hj, h⟩
    · have h2 : Th.rank l q < l.length := by
        refine Nat.lt_of_lt_of_le (Th.cnt_lt _ (fun _ => true) _ (fun _ _ _ => rfl) ⟨q, List.mem_range.2 hql, ?_, rfl⟩) (Nat.le_trans (List.length_filter_le _ _) (by simp))
        unfold Th.later
        rw [List.getElem?_eq_getElem hql]
        exact Th.earlier_irrefl _
      omega
    · have := (kid_rank hd j q hq).2.2
      omega
end Go.Proofs.Ytclobnojpmgmaaa

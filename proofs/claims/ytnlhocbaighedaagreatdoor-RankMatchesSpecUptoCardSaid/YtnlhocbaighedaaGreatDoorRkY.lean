/-
  Stable sorting, plain: what a symmetric merge does.
-/
import Derived.Test.YtnlhocbaighedaaGreatDoorS1
namespace Go.Proofs.YtnlhocbaighedaaGreatDoor
set_option linter.unusedVariables false
namespace Rk
/-- l' holds of each key what l holds, in the same order -/
def FE (k : Int → Int) (l l' : List Int) : Prop := ∀ c, l'.filter (fun x => k x == c) = l.filter (fun x => k x == c)
/-- by rising keys -/
def Up (k : Int → Int) (l : List Int) : Prop := l.Pairwise fun x y => k x ≤ k y
/-- l' is l, sorted by the key, equals in their order -/
def SS (k : Int → Int) (l l' : List Int) : Prop := FE k l l' ∧ Up k l'
theorem FE.refl (k : Int → Int) (l : List Int) : FE k l l := fun _ => rfl
theorem FE.trans {k : Int → Int} {l l' l'' : List Int} (h : FE k l l') (h' : FE k l' l'') : FE k l l'' := fun c => (h' c).trans (h c)
theorem FE.symm {k : Int → Int} {l l' : List Int} (h : FE k l l') : FE k l' l := fun c => (h c).symm
theorem FE.append {k : Int → Int} {a a' b b' : List Int} (h : FE k a a') (h' : FE k b b') : FE k (a ++ b) (a' ++ b') := fun c => by
 rw [List.filter_append, List.filter_append, h c, h' c]
theorem FE.mem {k : Int → Int} {l l' : List Int} (h : FE k l l') (x : Int) : x ∈ l' ↔ x ∈ l := by
 have h1 : x ∈ l'.filter (fun y => k y == k x) ↔ x ∈ l.filter (fun y => k y == k x) := by rw [h]
 simpa [List.mem_filter] using h1
theorem FE.perm {k : Int → Int} {l l' : List Int} (h : FE k l l') : l'.Perm l := by
 rw [List.perm_iff_count]
 intro x
 have h1 := List.count_filter (p := fun y => k y == k x) (a := x) (l := l') (by simp)
 have h2 := List.count_filter (p := fun y => k y == k x) (a := x) (l := l) (by simp)
 rw [← h1, ← h2, h]
/-- two parts that share no key may change places -/
theorem FE.swap {k : Int → Int} {a b : List Int} (h : ∀ x ∈ a, ∀ y ∈ b, k x ≠ k y) : FE k (a ++ b) (b ++ a) := fun c => by
 rw [List.filter_append, List.filter_append]
 by_cases hc : ∃ x ∈ a, k x = c
 ·obtain ⟨x, hx, rfl⟩ := hc
  have : b.filter (fun y => k y == k x) = [] := by
   rw [List.filter_eq_nil_iff]
   intro y hy e
   exact h x hx y hy (by simpa using (by simpa using e : k y = k x).symm)
  rw [this, List.nil_append, List.append_nil]
 ·have : a.filter (fun y => k y == c) = [] := by
   rw [List.filter_eq_nil_iff]
   intro y hy e
   exact hc ⟨y, hy, by simpa using e⟩
  rw [this, List.nil_append, List.append_nil]
theorem up_uniq (k : Int → Int) : ∀ (l1 l2 : List Int), Up k l1 → Up k l2 → FE k l1 l2 → l1 = l2
 | [], l2, _, _, h => by
  cases l2 with
  | nil => rfl
  | cons y t => exact absurd ((h.mem y).1 List.mem_cons_self) (by simp)
 | x :: t1, [], _, _, h => absurd ((h.mem x).2 List.mem_cons_self) (by simp)
 | x :: t1, y :: t2, h1, h2, h => by
  obtain ⟨h1a, h1b⟩ := List.pairwise_cons.1 h1
  obtain ⟨h2a, h2b⟩ := List.pairwise_cons.1 h2
  have hx : k y ≤ k x := by
   rcases List.mem_cons.1 ((h.mem x).2 List.mem_cons_self) with e | e
   ·rw [e]; exact Int.le_refl _
   ·exact h2a x e
  have hy : k x ≤ k y := by
   rcases List.mem_cons.1 ((h.mem y).1 List.mem_cons_self) with e | e
   ·rw [e]; exact Int.le_refl _
   ·exact h1a y e
  have e : k y = k x := Int.le_antisymm hx hy
  have hh := h (k x)
  rw [List.filter_cons_of_pos (by simpa using e), List.filter_cons_of_pos (by simp)] at hh
  injection hh with e1 e2
  subst e1
  congr 1
  refine up_uniq k t1 t2 h1b h2b fun c => ?_
  by_cases hc : k y = c
  ·rw [← hc]; exact e2
  ·have := h c
   rwa [List.filter_cons_of_neg (by simpa using hc), List.filter_cons_of_neg (by simpa using hc)] at this
theorem SS.uniq {k : Int → Int} {l a b : List Int} (ha : SS k l a) (hb : SS k l b) : a = b :=
 up_uniq k a b ha.2 hb.2 (ha.1.symm.trans hb.1)
theorem SS.self {k : Int → Int} {l : List Int} (h : Up k l) : SS k l l := ⟨FE.refl _ _, h⟩
theorem SS.of {k : Int → Int} {l l' m : List Int} (h : SS k l' m) (hf : FE k l l') : SS k l m := ⟨hf.trans h.1, h.2⟩
/-- sorted parts one behind the other -/
theorem Up.append {k : Int → Int} {a b : List Int} (ha : Up k a) (hb : Up k b) (h : ∀ x ∈ a, ∀ y ∈ b, k x ≤ k y) : Up k (a ++ b) :=
 List.pairwise_append.2 ⟨ha, hb, h⟩
/-- what a symmetric merge does -/
theorem SS.join {k : Int → Int} {U1 U2 V1 V2 M1 M2 : List Int} (hU : Up k (U1 ++ U2)) (hV : Up k (V1 ++ V2)) (h1 : ∀ u ∈ U1, ∀ v ∈ V2, k u ≤ k v) (h2 : ∀ v ∈ V1, ∀ u ∈ U2, k v < k u)
  (hM1 : SS k (U1 ++ V1) M1) (hM2 : SS k (U2 ++ V2) M2) : SS k ((U1 ++ U2) ++ (V1 ++ V2)) (M1 ++ M2) := by
 obtain ⟨_, _, hu⟩ := List.pairwise_append.1 hU
 obtain ⟨_, _, hv⟩ := List.pairwise_append.1 hV
 refine ⟨?_, hM1.2.append hM2.2 fun x hx y hy => ?_⟩
 ·have e1 : FE k ((U1 ++ U2) ++ (V1 ++ V2)) ((U1 ++ V1) ++ (U2 ++ V2)) := by
   have := ((FE.refl k U1).append (FE.swap (k := k) (a := U2) (b := V1) fun x hx y hy => by have := h2 y hy x hx; omega)).append (FE.refl k V2)
   simpa using this
  exact e1.trans (hM1.1.append hM2.1)
 ·rcases List.mem_append.1 ((hM1.1.mem x).1 hx) with hx | hx <;> rcases List.mem_append.1 ((hM2.1.mem y).1 hy) with hy | hy
  ·exact hu x hx y hy
  ·exact h1 x hx y hy
  ·exact Int.le_of_lt (h2 x hx y hy)
  ·exact hv x hx y hy
end Rk
namespace Rk
theorem insR_ss (cf : Int → Int → Int) (k : Int → Int) (hk : ∀ i j, cf i j < 0 ↔ k i < k j) (x : Int) : ∀ T : List Int, Up k T.reverse → SS k (T.reverse ++ [x]) (insR cf x T).reverse
 | [], _ => SS.self (by simp [Up])
 | s :: t, hT => by
  rw [insR]
  rw [List.reverse_cons] at hT
  obtain ⟨ht, _, hs⟩ := List.pairwise_append.1 hT
  by_cases h : cf x s < 0
  ·rw [if_pos h, List.reverse_cons, List.reverse_cons]
   have ih := insR_ss cf k hk x t ht
   have hlt := (hk x s).1 h
   refine ⟨?_, ih.2.append (by simp [Up]) fun y hy z hz => ?_⟩
   ·have e : FE k (t.reverse ++ ([s] ++ [x])) (t.reverse ++ ([x] ++ [s])) := (FE.refl k _).append (FE.swap fun a ha b hb => by
     rw [List.mem_singleton] at ha hb
     subst ha; subst hb
     omega)
    have e2 := e.trans (by simpa using ih.1.append (FE.refl k [s]))
    simpa using e2
   ·rw [List.mem_singleton] at hz
    subst hz
    rcases List.mem_append.1 ((ih.1.mem y).1 hy) with hy | hy
    ·exact hs y hy z (by simp)
    ·rw [List.mem_singleton] at hy
     subst hy
     omega
  ·rw [if_neg h]
   simp only [List.reverse_cons]
   refine SS.self ?_
   have hge : ¬ k x < k s := fun h' => h ((hk x s).2 h')
   refine hT.append (by simp [Up]) fun y hy z hz => ?_
   rw [List.mem_singleton] at hz
   subst hz
   rcases List.mem_append.1 hy with hy | hy
   ·have := hs y hy s (by simp)
    omega
   ·rw [List.mem_singleton] at hy
    subst hy
    omega
theorem fold_ss (cf : Int → Int → Int) (k : Int → Int) (hk : ∀ i j, cf i j < 0 ↔ k i < k j) : ∀ (X T : List Int), Up k T.reverse → SS k (T.reverse ++ X) (X.foldl (fun T x => insR cf x T) T).reverse
 | [], T, hT => by simpa using SS.self hT
 | x :: X, T, hT => by
  rw [List.foldl_cons]
  have h1 := insR_ss cf k hk x T hT
  have h2 := fold_ss cf k hk X _ h1.2
  refine h2.of ?_
  have := h1.1.append (FE.refl k X)
  simpa using this
theorem sinkF_ss (cf : Int → Int → Int) (k : Int → Int) (hk : ∀ i j, cf i j < 0 ↔ k i < k j) (l : List Int) : SS k l (sinkF cf l) := by
 have := fold_ss cf k hk l [] (by simp [Up])
 simpa [sinkF] using this
end Rk
end Go.Proofs.YtnlhocbaighedaaGreatDoor

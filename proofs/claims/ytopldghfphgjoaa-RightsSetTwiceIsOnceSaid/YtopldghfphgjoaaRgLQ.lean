/-
  The plain laws of the rights: setting twice, strangers, what is set is seen.
-/
import Derived.Test.YtopldghfphgjoaaRgLP
namespace Go.Proofs.Ytopldghfphgjoaa
def Sorted (l : List Grant) : Prop := l.Pairwise fun a b => afterF b a = true
def GoodG (g : Grant) : Prop := 1 ≤ g.2.2 ∧ g.2.2 ≤ 63 ∧ whoF g.1 = true
theorem valid_sorted {l : List Grant} (h : (grantsF l).1 = 0) : l.length ≤ 60 ∧ (∀ g ∈ l, GoodG g) ∧ Sorted l :=
  ⟨(grants_small h).1, (grants_small h).2, List.pairwise_iff_getElem.2 fun i j hi hj hij => sorted_lt h i j hij hj⟩
theorem valid_of {l : List Grant} (h1 : l.length ≤ 60) (h2 : ∀ g ∈ l, GoodG g) (h3 : Sorted l) : grantsF l = (0, 0) := by
  unfold grantsF
  rw [if_neg (by omega)]
  refine scan_none fun j hj => ?_
  unfold grantErr
  rw [List.getElem?_eq_getElem hj]
  obtain ⟨g1, g2, g3⟩ := h2 _ (List.getElem_mem hj)
  have g4 : ¬ (l[j].2.2 < 1 ∨ 63 < l[j].2.2) := by omega
  simp only [g3]
  rw [if_neg (by simp), if_neg (by first | exact g4 | simpa using g4)]
  split
  · rfl
  · rename_i h0
    have hk : j - 1 < l.length := by omega
    rw [List.getElem?_eq_getElem hk]
    have := List.pairwise_iff_getElem.1 h3 (j - 1) j hk hj (by omega)
    simp only [this]
    rfl
theorem split_at (x : Grant) : ∀ l : List Grant, Sorted l → ∃ A E C, l = A ++ (E ++ C) ∧ (∀ y ∈ A, afterF x y = true) ∧ (∀ y ∈ E, y.1 = x.1 ∧ y.2.1 = x.2.1) ∧ (∀ y ∈ C, afterF y x = true)
  | [], _ => ⟨[], [], [], rfl, by simp, by simp, by simp⟩
  | a :: l, h => by
    unfold Sorted at h
    rw [List.pairwise_cons] at h
    rcases after_total x a with h1 | h1 | h1
    · obtain ⟨A, E, C, rfl, hA, hE, hC⟩ := split_at x l h.2
      exact ⟨a :: A, E, C, rfl, fun y hy => by
        rcases List.mem_cons.1 hy with rfl | hy
        · exact h1
        · exact hA y hy, hE, hC⟩
    · exact ⟨[], [a], l, rfl, (fun y hy => by cases hy), fun y hy => by rw [List.mem_singleton.1 hy]; exact ⟨h1.1.symm, h1.2.symm⟩, fun y hy => by rw [after_congr h1.1 h1.2]; exact h.1 y hy⟩
    · exact ⟨[], [], a :: l, rfl, by simp, by simp, fun y hy => by
        rcases List.mem_cons.1 hy with rfl | hy
        · exact h1
        · exact after_trans (h.1 y hy) h1⟩
theorem sorted_mid {A E C : List Grant} {x : Grant} (h : Sorted (A ++ (E ++ C))) (hA : ∀ y ∈ A, afterF x y = true) (hC : ∀ y ∈ C, afterF y x = true) (mid : List Grant) (hm : mid = [] ∨ mid = [x]) : Sorted (A ++ (mid ++ C)) := by
  unfold Sorted at h ⊢
  rw [List.pairwise_append] at h ⊢
  obtain ⟨h1, h2, h3⟩ := h
  rw [List.pairwise_append] at h2 ⊢
  refine ⟨h1, ⟨?_, h2.2.1, ?_⟩, ?_⟩
  · rcases hm with rfl | rfl <;> simp
  · intro a ha b hb
    rcases hm with rfl | rfl
    · cases ha
    · rw [List.mem_singleton.1 ha]; exact hC b hb
  · intro a ha b hb
    rcases List.mem_append.1 hb with hb | hb
    · rcases hm with rfl | rfl
      · cases hb
      · rw [List.mem_singleton.1 hb]; exact hA a ha
    · exact h3 a ha b (List.mem_append_right _ hb)
/-- What a Set that succeeds says. -/
theorem set_ok_parts {l L : List Grant} {x : Grant} {s2 : Int} (h : setR l x = (L, 0, s2)) : (grantsF l).1 = 0 ∧ whoF x.1 = true ∧ 0 ≤ x.2.2 ∧ x.2.2 ≤ 63 ∧ L.length ≤ 60 ∧ L = grantedF l x ∧ s2 = 0 := by
  unfold setR at h
  split at h
  · rename_i h1
    injection h with e1 e2
    rw [e2] at h1
    exact absurd rfl h1
  · split at h
    · injection h with e1 e2; injection e2 with e2 e3; cases e2
    · split at h
      · injection h with e1 e2; injection e2 with e2 e3; cases e2
      · split at h
        · injection h with e1 e2; injection e2 with e2 e3; cases e2
        · rename_i h1 h2 h3 h4
          injection h with e1 e2; injection e2 with e2 e3
          refine ⟨by simpa using h1, by simpa using h2, by omega, by omega, by rw [← e1]; omega, e1.symm, e3.symm⟩
theorem set_of_parts {l : List Grant} {x : Grant} (h1 : (grantsF l).1 = 0) (h2 : whoF x.1 = true) (h3 : 0 ≤ x.2.2) (h4 : x.2.2 ≤ 63) (h5 : (grantedF l x).length ≤ 60) : setR l x = (grantedF l x, 0, 0) := by
  unfold setR
  rw [if_neg (by simpa using h1), if_neg (by simp [h2]), if_neg (by omega), if_neg (by omega)]
/-- What Set leaves: the list cut at the grant's place. -/
theorem set_cut {l L : List Grant} {x : Grant} {s2 : Int} (h : setR l x = (L, 0, s2)) : ∃ A E C, l = A ++ (E ++ C) ∧ L = A ++ ((if x.2.2 = 0 then [] else [x]) ++ C) ∧ (∀ y ∈ A, afterF x y = true) ∧ (∀ y ∈ E, y.1 = x.1 ∧ y.2.1 = x.2.1) ∧ (∀ y ∈ C, afterF y x = true) ∧ grantsF L = (0, 0) := by
  obtain ⟨h1, h2, h3, h4, h5, h6, h7⟩ := set_ok_parts h
  obtain ⟨v1, v2, v3⟩ := valid_sorted h1
  obtain ⟨A, E, C, rfl, hA, hE, hC⟩ := split_at x l v3
  have hL := granted_cut A E C hA hE hC
  refine ⟨A, E, C, rfl, h6.trans hL, hA, hE, hC, valid_of h5 ?_ ?_⟩
  · rw [h6, hL]
    intro g hg
    rcases List.mem_append.1 hg with hg | hg
    · exact v2 g (by simp [hg])
    · rcases List.mem_append.1 hg with hg | hg
      · split at hg
        · cases hg
        · rw [List.mem_singleton.1 hg]; exact ⟨by omega, h4, h2⟩
      · exact v2 g (by simp [hg])
  · rw [h6, hL]
    exact sorted_mid v3 hA hC _ (by split <;> simp)
theorem set_twice {l L : List Grant} {x : Grant} {s2 : Int} (h : setR l x = (L, 0, s2)) : setR L x = (L, 0, 0) := by
  obtain ⟨h1, h2, h3, h4, h5, h6, h7⟩ := set_ok_parts h
  obtain ⟨A, E, C, rfl, hL, hA, hE, hC, hv⟩ := set_cut h
  have hg := granted_cut A (if x.2.2 = 0 then [] else [x]) C hA (fun y hy => by
    split at hy
    · cases hy
    · rw [List.mem_singleton.1 hy]; exact ⟨rfl, rfl⟩) hC
  rw [← hL] at hg
  have := set_of_parts (l := L) (x := x) (by rw [hv]) h2 h3 h4 (by rw [hg]; exact h5)
  rw [this, hg]
theorem set_none {l L : List Grant} {x : Grant} {s2 : Int} (h : setR l x = (L, 0, s2)) : ∃ R, setR L (x.1, x.2.1, 0) = (R, 0, 0) ∧ setR l (x.1, x.2.1, 0) = (R, 0, 0) := by
  obtain ⟨h1, h2, h3, h4, h5, h6, h7⟩ := set_ok_parts h
  obtain ⟨A, E, C, rfl, hL, hA, hE, hC, hv⟩ := set_cut h
  have k : ∀ y, afterF (x.1, x.2.1, 0) y = afterF x y := fun y => rfl
  have k2 : ∀ y, afterF y (x.1, x.2.1, 0) = afterF y x := fun y => rfl
  have hg := granted_cut (x := (x.1, x.2.1, (0 : Int))) A (if x.2.2 = 0 then [] else [x]) C hA (fun y hy => by
    split at hy
    · cases hy
    · rw [List.mem_singleton.1 hy]; exact ⟨rfl, rfl⟩) hC
  have hg2 := granted_cut (x := (x.1, x.2.1, (0 : Int))) A E C hA hE hC
  rw [← hL] at hg
  have hlen : (A ++ C).length ≤ 60 := by
    have := (valid_sorted h1).1
    simp only [List.length_append] at this ⊢
    omega
  simp only [if_true, List.nil_append] at hg hg2
  refine ⟨A ++ C, ?_, ?_⟩
  · have := set_of_parts (l := L) (x := (x.1, x.2.1, 0)) (by rw [hv]) h2 (by simp) (by simp) (by rw [hg]; exact hlen)
    rw [this, hg]
  · have := set_of_parts (l := A ++ (E ++ C)) (x := (x.1, x.2.1, 0)) h1 h2 (by simp) (by simp) (by rw [hg2]; exact hlen)
    rw [this, hg2]
theorem given_append (p : Grant → Bool) (a b : List Grant) (n : Nat) : (a ++ b).foldl (fun n g => if p g then n ||| g.2.2.toNat else n) n = b.foldl (fun n g => if p g then n ||| g.2.2.toNat else n) (a.foldl (fun n g => if p g then n ||| g.2.2.toNat else n) n) := List.foldl_append
theorem foldl_skip (p : Grant → Bool) : ∀ (l : List Grant) (n : Nat), (∀ g ∈ l, p g = false) → l.foldl (fun n g => if p g then n ||| g.2.2.toNat else n) n = n
  | [], _, _ => rfl
  | a :: l, n, h => by
    rw [List.foldl_cons, h a (by simp), if_neg (by simp)]
    exact foldl_skip p l n fun g hg => h g (by simp [hg])
/-- Grants that do not apply to the user may be changed. -/
theorem of_skip {gs : List Group} {user : Str} {A E E' C : List Grant} (h : ∀ g ∈ E, appliesF gs g.1 user = false) (h' : ∀ g ∈ E', appliesF gs g.1 user = false) : ofF gs (A ++ (E ++ C)) user = ofF gs (A ++ (E' ++ C)) user := by
  have k : ∀ (F : List Grant), (∀ g ∈ F, appliesF gs g.1 user = false) → givenF gs user (A ++ (F ++ C)) = givenF gs user (A ++ C) ∧ deniedF gs user (A ++ (F ++ C)) = deniedF gs user (A ++ C) := fun F hF => by
    unfold givenF deniedF
    simp only [List.foldl_append]
    rw [foldl_skip (fun g => appliesF gs g.1 user && !g.2.1) F _ (fun g hg => by simp [hF g hg]), foldl_skip (fun g => appliesF gs g.1 user && g.2.1) F _ (fun g hg => by simp [hF g hg])]
    exact ⟨rfl, rfl⟩
  unfold ofF
  rw [(k E h).1, (k E h).2, (k E' h').1, (k E' h').2]
theorem strangers {gs : List Group} {l L : List Grant} {x : Grant} {other : Str} {s2 : Int} (h : setR l x = (L, 0, s2)) (hx : appliesF gs x.1 other = false) : ofF gs l other = ofF gs L other := by
  obtain ⟨A, E, C, rfl, rfl, hA, hE, hC, hv⟩ := set_cut h
  exact of_skip (fun g hg => by rw [(hE g hg).1]; exact hx) (fun g hg => by
    split at hg
    · cases hg
    · rw [List.mem_singleton.1 hg]; exact hx)
/-- What is set is seen. -/
theorem seen {gs : List Group} {l L : List Grant} {user : Str} {neg : Bool} {n : Int} {s2 : Int} (h : setR l (user, neg, n) = (L, 0, s2)) (hu : userF user = true) :
    ∃ k : Nat, n = k ∧ k < 64 ∧ (if neg then ofF gs L user &&& k = 0 else ofF gs L user &&& k = andNot k (deniedF gs user L)) := by
  obtain ⟨h1, h2, h3, h4, h5, h6, h7⟩ := set_ok_parts h
  obtain ⟨A, E, C, rfl, rfl, hA, hE, hC, hv⟩ := set_cut h
  dsimp only at h3 h4
  obtain ⟨k, rfl⟩ := Int.eq_ofNat_of_zero_le h3
  have hap : appliesF gs user user = true := by
    unfold appliesF
    rw [user_nohash hu]
    simp [trim_no _ (user_nohash hu)]
  have hbit : ∀ i, k.testBit i = true → ∃ g ∈ A ++ ((if ((user, neg, (k : Int)) : Grant).2.2 = 0 then [] else [(user, neg, (k : Int))]) ++ C), g = (user, neg, (k : Int)) := fun i hi => by
    have hk0 : k ≠ 0 := by rintro rfl; simp at hi
    refine ⟨_, ?_, rfl⟩
    rw [if_neg (by simpa using hk0)]
    simp
  refine ⟨k, rfl, by omega, ?_⟩
  generalize A ++ ((if ((user, neg, (k : Int)) : Grant).2.2 = 0 then [] else [(user, neg, (k : Int))]) ++ C) = L at hbit
  cases neg with
  | true =>
    rw [if_pos rfl]
    apply Nat.eq_of_testBit_eq
    intro i
    rw [Nat.testBit_and, ofF, testBit_andNot, denied_bit, Nat.zero_testBit]
    cases hk : k.testBit i with
    | false => simp
    | true =>
      obtain ⟨g, hg, rfl⟩ := hbit i hk
      have : (L.any fun g => (appliesF gs g.1 user && g.2.1) && g.2.2.toNat.testBit i) = true := List.any_eq_true.2 ⟨_, hg, by simp [hap, hk]⟩
      rw [this]; simp
  | false =>
    rw [if_neg (by simp)]
    apply Nat.eq_of_testBit_eq
    intro i
    rw [Nat.testBit_and, ofF, testBit_andNot, testBit_andNot, given_bit]
    cases hk : k.testBit i with
    | false => simp
    | true =>
      obtain ⟨g, hg, rfl⟩ := hbit i hk
      have : (L.any fun g => (appliesF gs g.1 user && !g.2.1) && g.2.2.toNat.testBit i) = true := List.any_eq_true.2 ⟨_, hg, by simp [hap, hk]⟩
      rw [this]; simp
end Go.Proofs.Ytopldghfphgjoaa

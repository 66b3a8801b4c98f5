/-
  What Set yields, and the reference: plain Lean.
-/
import Derived.Test.YtopldghfphgjoaaRgE
namespace Go.Proofs.Ytopldghfphgjoaa
theorem after_same {a b : Grant} (h : a.1 = b.1) (h2 : a.2.1 = b.2.1) : afterF a b = false := by
  unfold afterF
  rw [h, h2, ltS_irrefl]; simp
theorem after_ne {a b : Grant} (h : afterF a b = true) : (a.1 != b.1 || a.2.1 != b.2.1) = true := by
  cases e : (a.1 != b.1 || a.2.1 != b.2.1) with
  | true => rfl
  | false =>
    simp only [Bool.or_eq_false_iff, bne_eq_false_iff_eq] at e
    rw [after_same e.1 e.2] at h
    cases h
theorem ne_comm' (a b : Grant) : (a.1 != b.1 || a.2.1 != b.2.1) = (b.1 != a.1 || b.2.1 != a.2.1) := by
  rw [bne_comm, bne_comm (a := a.2.1)]
theorem step_lt {x y : Grant} (h : afterF x y = true) (L : List Grant) (d : Bool) : stepG x (L, d) y = (L ++ [y], d) := by
  have h1 := after_asymm h
  have h2 := after_ne h
  rw [ne_comm'] at h2
  simp [stepG, h1, h2]
theorem step_eq {x y : Grant} (h : y.1 = x.1) (h2 : y.2.1 = x.2.1) (L : List Grant) (d : Bool) : stepG x (L, d) y = (L, d) := by
  simp [stepG, h, h2, after_same h h2]
theorem step_gt {x y : Grant} (h : afterF y x = true) (L : List Grant) : stepG x (L, true) y = (L ++ [y], true) := by
  simp [stepG, after_ne h]
theorem step_gt' {x y : Grant} (h : afterF y x = true) (L : List Grant) : stepG x (L, false) y = (L ++ [x] ++ [y], true) := by
  simp [stepG, after_ne h, h]
theorem fold_lt {x : Grant} (A : List Grant) (h : ∀ y ∈ A, afterF x y = true) (L : List Grant) (d : Bool) : A.foldl (stepG x) (L, d) = (L ++ A, d) := by
  induction A generalizing L with
  | nil => simp
  | cons a A ih =>
    rw [List.foldl_cons, step_lt (h a (by simp)), ih (fun y hy => h y (by simp [hy]))]
    simp
theorem fold_gt {x : Grant} (A : List Grant) (h : ∀ y ∈ A, afterF y x = true) (L : List Grant) : A.foldl (stepG x) (L, true) = (L ++ A, true) := by
  induction A generalizing L with
  | nil => simp
  | cons a A ih =>
    rw [List.foldl_cons, step_gt (h a (by simp)), ih (fun y hy => h y (by simp [hy]))]
    simp
/-- The reference, at a list cut at g's place. -/
theorem granted_cut {x : Grant} (A E C : List Grant) (hA : ∀ y ∈ A, afterF x y = true) (hE : ∀ y ∈ E, y.1 = x.1 ∧ y.2.1 = x.2.1) (hC : ∀ y ∈ C, afterF y x = true) :
    grantedF (A ++ (E ++ C)) x = A ++ ((if x.2.2 = 0 then [] else [x]) ++ C) := by
  have hEf : ∀ L d, E.foldl (stepG x) (L, d) = (L, d) := by
    induction E with
    | nil => intros; rfl
    | cons a E ih =>
      intro L d
      rw [List.foldl_cons, step_eq (hE a (by simp)).1 (hE a (by simp)).2]
      exact ih (fun y hy => hE y (by simp [hy])) L d
  have hf : foldG x (A ++ (E ++ C)) = C.foldl (stepG x) (A, x.2.2 == 0) := by
    rw [foldG, List.foldl_append, fold_lt A hA, List.foldl_append, hEf]
    rfl
  unfold grantedF
  rw [hf]
  by_cases h0 : x.2.2 = 0
  · rw [if_pos h0, show (x.2.2 == 0) = true by simpa using h0, fold_gt C hC]
    simp
  · rw [if_neg h0, show (x.2.2 == 0) = false by simpa using h0]
    cases C with
    | nil => simp
    | cons c C =>
      rw [List.foldl_cons, step_gt' (hC c (by simp)), fold_gt C (fun y hy => hC y (by simp [hy]))]
      simp

theorem sorted_of {l : List Grant} (h : (grantsF l).1 = 0) (j : Nat) (hj : j + 1 < l.length) : afterF l[j + 1] l[j] = true := by
  unfold grantsF at h
  split at h
  · cases h
  have hn := scan_code (err := grantErr l) (fun i c hc => by
    unfold grantErr at hc
    split at hc
    · cases hc
    · split at hc
      · cases hc; decide
      · split at hc
        · cases hc; decide
        · split at hc
          · cases hc
          · split at hc
            · cases hc
            · split at hc
              · cases hc; decide
              · cases hc) h (j + 1) hj
  unfold grantErr at hn
  rw [List.getElem?_eq_getElem hj] at hn
  simp only [Nat.succ_ne_zero, if_false, Nat.add_sub_cancel, List.getElem?_eq_getElem (show j < l.length by omega)] at hn
  cases ha : afterF l[j + 1] l[j] with
  | true => rfl
  | false =>
    rw [ha] at hn
    split at hn
    · cases hn
    · split at hn <;> cases hn
theorem sorted_lt {l : List Grant} (h : (grantsF l).1 = 0) (i j : Nat) (hij : i < j) (hj : j < l.length) : afterF l[j] l[i] = true := by
  induction j with
  | zero => omega
  | succ j ih =>
    have h1 := sorted_of h j hj
    by_cases e : i = j
    · subst e; exact h1
    · exact after_trans h1 (ih (by omega) (by omega))
def setAt (l : List Grant) (x : Grant) (k : Nat) : List Grant := if hitF l x k then (if x.2.2 = 0 then l.eraseIdx k else l.set k x) else if 0 < x.2.2 then l.take k ++ x :: l.drop k else l
theorem after_congr {a b c : Grant} (h : b.1 = c.1) (h2 : b.2.1 = c.2.1) : afterF a b = afterF a c := by unfold afterF; rw [h, h2]
theorem setAt_eq {l : List Grant} {x : Grant} {k : Nat} (hl : (grantsF l).1 = 0) (hx : 0 ≤ x.2.2) (hk : k ≤ l.length) (h1 : Cut l x k) (h2 : Cut2 l x k) : setAt l x k = grantedF l x := by
  have hA : ∀ y ∈ l.take k, afterF x y = true := by
    intro y hy
    obtain ⟨i, hi, rfl⟩ := List.getElem_of_mem hy
    rw [List.length_take] at hi
    rw [List.getElem_take]
    have hlast := (order_neg _ _).1 (h1 (k - 1) (by omega) (by omega))
    by_cases e : i = k - 1
    · subst e; exact hlast
    · exact after_trans hlast (sorted_lt hl i (k - 1) (by omega) (by omega))
  unfold setAt
  by_cases hkn : k < l.length
  · have hC1 : ∀ y ∈ l.drop (k + 1), afterF y l[k] = true := by
      intro y hy
      obtain ⟨i, hi, rfl⟩ := List.getElem_of_mem hy
      rw [List.length_drop] at hi
      rw [List.getElem_drop]
      exact sorted_lt hl k _ (by omega) (by omega)
    have hsp : l = l.take k ++ ([l[k]] ++ l.drop (k + 1)) := by simp
    have hhit : hitF l x k = (orderF l[k] x == 0) := by unfold hitF; rw [List.getElem?_eq_getElem hkn]
    have h2' := h2 hkn
    by_cases h0 : orderF l[k] x = 0
    · obtain ⟨e1, e2⟩ := (order_zero _ _).1 h0
      have hg := granted_cut (l.take k) [l[k]] (l.drop (k + 1)) hA (fun y hy => by
        have : y = l[k] := by simpa using hy
        subst this; exact ⟨e1, e2⟩) (fun y hy => by rw [← after_congr e1 e2]; exact hC1 y hy)
      rw [← hsp] at hg
      rw [hhit, hg, if_pos (by simpa using h0)]
      by_cases hr : x.2.2 = 0
      · rw [if_pos hr, if_pos hr, List.eraseIdx_eq_take_drop_succ]; rfl
      · rw [if_neg hr, if_neg hr, List.set_eq_take_append_cons_drop, if_pos hkn]; rfl
    · have hgt : afterF l[k] x = true := by
        rcases after_total x l[k] with h | h | h
        · have := (order_neg _ _).2 h; omega
        · exact absurd ((order_zero _ _).2 ⟨h.1.symm, h.2.symm⟩) h0
        · exact h
      have hg := granted_cut (l.take k) [] (l.drop k) hA (fun y hy => by cases hy) (fun y hy => by
        rw [List.drop_eq_getElem_cons hkn] at hy
        rcases List.mem_cons.1 hy with rfl | hy
        · exact hgt
        · exact after_trans (hC1 y hy) hgt)
      rw [List.nil_append, List.take_append_drop] at hg
      rw [hhit, hg, if_neg (by simpa using h0)]
      by_cases hr : x.2.2 = 0
      · rw [if_neg (by omega), if_pos hr]; simp
      · rw [if_pos (by omega), if_neg hr]; rfl
  · have he : k = l.length := by omega
    subst he
    have hhit : hitF l x l.length = false := by unfold hitF; simp
    have hg := granted_cut (l.take l.length) [] [] hA (fun y hy => by cases hy) (fun y hy => by cases hy)
    simp only [List.take_length, List.append_nil] at hg
    rw [hhit, hg, if_neg (by simp)]
    by_cases hr : x.2.2 = 0
    · rw [if_neg (by omega), if_pos hr]; simp
    · rw [if_pos (by omega), if_neg hr]; simp
end Go.Proofs.Ytopldghfphgjoaa

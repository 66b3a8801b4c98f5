/-
  Folders: paths, what is above and below, valid lists; plain Lean, no program is named here.
-/
import Derived.Test.YtinmpjhmbciapaaDoorOrd
import Derived.Test.YtinmpjhmbciapaaDoorRgPure
namespace Go.Proofs.YtinmpjhmbciapaaDoor

/-- A text cut at the slashes. -/
def splitF : Str → List Str
  | [] => [[]]
  | c :: t => if c = 47 then [] :: splitF t else match splitF t with | [] => [[c]] | h :: r => (c :: h) :: r
theorem splitF_ne : ∀ s : Str, splitF s ≠ []
  | [] => by simp [splitF]
  | c :: t => by
    unfold splitF
    split
    · simp
    · split <;> simp
theorem splitF_noslash : ∀ s : Str, 47 ∉ s → splitF s = [s]
  | [], _ => rfl
  | c :: t, h => by
    simp only [List.mem_cons, not_or] at h
    rw [splitF, if_neg (fun e => h.1 e.symm), splitF_noslash t h.2]
theorem splitF_append (a b : Str) : splitF (a ++ 47 :: b) = splitF a ++ splitF b := by
  induction a with
  | nil => simp [splitF]
  | cons c t ih =>
    rw [List.cons_append, splitF, ih, splitF]
    split
    · simp
    · cases h : splitF t with
      | nil => exact absurd h (splitF_ne t)
      | cons x r => simp
def pathF (s : Str) : Bool := decide ((splitF s).length ≤ 8) && (splitF s).all nameF
/-- The text ahead of the last slash, if there is one. -/
def aboveF : Str → Str
  | [] => []
  | c :: t => if 47 ∈ t then c :: aboveF t else []
theorem above_noslash : ∀ s : Str, 47 ∉ s → aboveF s = []
  | [], _ => rfl
  | c :: t, h => by
    simp only [List.mem_cons, not_or] at h
    rw [aboveF, if_neg h.2]
theorem above_append (p q : Str) (hq : 47 ∉ q) : aboveF (p ++ 47 :: q) = p := by
  induction p with
  | nil => rw [List.nil_append, aboveF, if_neg hq]
  | cons c t ih => rw [List.cons_append, aboveF, if_pos (by simp), ih]
/-- Every text with a slash: cut at its last one. -/
theorem cut_last : ∀ s : Str, 47 ∈ s → ∃ p q, s = p ++ 47 :: q ∧ 47 ∉ q
  | [], h => by cases h
  | c :: t, h => by
    by_cases ht : 47 ∈ t
    · obtain ⟨p, q, rfl, hq⟩ := cut_last t ht
      exact ⟨c :: p, q, rfl, hq⟩
    · rcases List.mem_cons.1 h with h | h
      · exact ⟨[], t, by rw [← h]; rfl, ht⟩
      · exact absurd h ht
theorem above_lt (s : Str) (h : s ≠ []) : (aboveF s).length < s.length := by
  by_cases hs : 47 ∈ s
  · obtain ⟨p, q, rfl, hq⟩ := cut_last s hs
    rw [above_append p q hq, List.length_append, List.length_cons]
    omega
  · rw [above_noslash s hs]
    exact List.length_pos_iff.2 h
/-- s is below t. -/
def belowF (s t : Str) : Bool := (t ++ [47]).isPrefixOf s
theorem below_iff (s t : Str) : belowF s t = true ↔ ∃ r, s = t ++ 47 :: r := by
  unfold belowF
  rw [List.isPrefixOf_iff_prefix]
  constructor
  · rintro ⟨r, hr⟩; exact ⟨r, by rw [← hr]; simp⟩
  · rintro ⟨r, rfl⟩; exact ⟨r, by simp⟩
/-- s is t or below it. -/
def underF (s t : Str) : Prop := s = t ∨ ∃ r, s = t ++ 47 :: r
theorem under_refl (s : Str) : underF s s := .inl rfl
theorem under_above {s t : Str} (h : underF s t) : s = t ∨ underF (aboveF s) t := by
  rcases h with h | ⟨r, rfl⟩
  · exact .inl h
  · refine .inr ?_
    by_cases hr : 47 ∈ r
    · obtain ⟨p, q, rfl, hq⟩ := cut_last r hr
      rw [show t ++ 47 :: (p ++ 47 :: q) = (t ++ 47 :: p) ++ 47 :: q by simp, above_append _ _ hq]
      exact .inr ⟨p, rfl⟩
    · rw [above_append _ _ hr]; exact .inl rfl
theorem above_under {s t : Str} (h : underF (aboveF s) t) (ht : t ≠ []) : underF s t := by
  by_cases hs : 47 ∈ s
  · obtain ⟨p, q, rfl, hq⟩ := cut_last s hs
    rw [above_append p q hq] at h
    rcases h with rfl | ⟨r, rfl⟩
    · exact .inr ⟨q, rfl⟩
    · exact .inr ⟨r ++ 47 :: q, by simp⟩
  · rw [above_noslash s hs] at h
    rcases h with h | ⟨r, h⟩
    · exact absurd h.symm ht
    · simp at h
theorem under_trans {a b c : Str} (h : underF a b) (h2 : underF b c) : underF a c := by
  rcases h with rfl | ⟨r, rfl⟩
  · exact h2
  · rcases h2 with rfl | ⟨q, rfl⟩
    · exact .inr ⟨r, rfl⟩
    · exact .inr ⟨q ++ 47 :: r, by simp⟩
/-- s and what is above it, from below. -/
def chain : Nat → Str → List Str
  | 0, _ => []
  | n + 1, s => if s = [] then [] else s :: chain n (aboveF s)
def ancF (s : Str) : List Str := chain s.length s
theorem mem_chain : ∀ (n : Nat) (s : Str), s.length ≤ n → ∀ t, t ∈ chain n s ↔ t ≠ [] ∧ underF s t
  | 0, s, h, t => by
    have : s = [] := List.eq_nil_of_length_eq_zero (by omega)
    subst this
    simp only [chain, List.not_mem_nil, false_iff, not_and]
    intro ht hu
    rcases hu with h | ⟨r, h⟩
    · exact ht h.symm
    · simp at h
  | n + 1, s, h, t => by
    rw [chain]
    split
    · rename_i hs
      subst hs
      simp only [List.not_mem_nil, false_iff, not_and]
      intro ht hu
      rcases hu with h | ⟨r, h⟩
      · exact ht h.symm
      · simp at h
    · rename_i hs
      have hlt := above_lt s hs
      rw [List.mem_cons, mem_chain n (aboveF s) (by omega) t]
      constructor
      · rintro (rfl | ⟨h1, h2⟩)
        · exact ⟨hs, under_refl _⟩
        · exact ⟨h1, above_under h2 h1⟩
      · rintro ⟨h1, h2⟩
        rcases under_above h2 with h3 | h3
        · exact .inl h3.symm
        · exact .inr ⟨h1, h3⟩
theorem mem_anc (s t : Str) : t ∈ ancF s ↔ t ≠ [] ∧ underF s t := mem_chain _ s (Nat.le_refl _) t
theorem chain_more : ∀ (n m : Nat) (s : Str), s.length ≤ n → s.length ≤ m → chain n s = chain m s
  | 0, m, s, h, h2 => by
    have : s = [] := List.eq_nil_of_length_eq_zero (by omega)
    subst this
    cases m <;> simp [chain]
  | n + 1, 0, s, h, h2 => by
    have : s = [] := List.eq_nil_of_length_eq_zero (by omega)
    subst this
    simp [chain]
  | n + 1, m + 1, s, h, h2 => by
    rw [chain, chain]
    split
    · rfl
    · rename_i hs
      have := above_lt s hs
      rw [chain_more n m (aboveF s) (by omega) (by omega)]
theorem anc_nil : ancF [] = [] := rfl
theorem anc_step (s : Str) (h : s ≠ []) : ancF s = s :: ancF (aboveF s) := by
  have hl := above_lt s h
  obtain ⟨n, hn⟩ : ∃ n, s.length = n + 1 := ⟨s.length - 1, by omega⟩
  unfold ancF
  rw [hn, chain, if_neg h, chain_more n (aboveF s).length (aboveF s) (by omega) (Nat.le_refl _)]

/-! ### Paths -/
theorem name_ne {s : Str} (h : nameF s = true) : s ≠ [] := by
  rintro rfl
  simp [nameF] at h
theorem path_ne {s : Str} (h : pathF s = true) : s ≠ [] := by
  rintro rfl
  simp [pathF, splitF, nameF] at h
theorem path_iff (s : Str) : pathF s = true ↔ (splitF s).length ≤ 8 ∧ ∀ x ∈ splitF s, nameF x = true := by
  unfold pathF
  rw [Bool.and_eq_true, decide_eq_true_eq, List.all_eq_true]
theorem path_under {s t : Str} (h : pathF s = true) (hu : underF s t) : pathF t = true := by
  rcases hu with rfl | ⟨r, rfl⟩
  · exact h
  · rw [path_iff, splitF_append] at h
    rw [path_iff]
    rw [List.length_append] at h
    exact ⟨by omega, fun x hx => h.2 x (List.mem_append_left _ hx)⟩
theorem path_above {s : Str} (h : pathF s = true) : aboveF s = [] ∨ pathF (aboveF s) = true := by
  by_cases hs : 47 ∈ s
  · obtain ⟨p, q, rfl, hq⟩ := cut_last s hs
    rw [above_append p q hq]
    exact .inr (path_under h (.inr ⟨q, rfl⟩))
  · exact .inl (above_noslash s hs)
theorem anc_path {s : Str} (h : pathF s = true) : ∀ t ∈ ancF s, pathF t = true := fun t ht => path_under h ((mem_anc s t).1 ht).2
theorem under_nil {s : Str} (h : pathF s = true) (hu : underF s []) : False := by
  have := path_under h hu
  exact path_ne this rfl
theorem under_total {s a b : Str} (ha : underF s a) (hb : underF s b) : underF a b ∨ underF b a := by
  rcases ha with rfl | ⟨r, rfl⟩
  · exact .inl hb
  · rcases hb with rfl | ⟨q, h⟩
    · exact .inr (.inr ⟨r, rfl⟩)
    · rcases Nat.lt_trichotomy a.length b.length with hl | hl | hl
      · right; right
        have h1 : a ++ [47] <+: b ++ 47 :: q := ⟨r, by rw [← h]; simp⟩
        have h2 : b <+: b ++ 47 :: q := List.prefix_append _ _
        obtain ⟨t, ht⟩ := List.prefix_of_prefix_length_le h1 h2 (by simp; omega)
        exact ⟨t, by rw [← ht]; simp⟩
      · left; left
        have h1 : a <+: b ++ 47 :: q := ⟨47 :: r, h⟩
        have h2 : b <+: b ++ 47 :: q := List.prefix_append _ _
        exact (List.prefix_of_prefix_length_le h1 h2 (by omega)).eq_of_length hl
      · left; right
        have h1 : b ++ [47] <+: b ++ 47 :: q := ⟨q, by simp⟩
        have h2 : a <+: b ++ 47 :: q := ⟨47 :: r, h⟩
        obtain ⟨t, ht⟩ := List.prefix_of_prefix_length_le h1 h2 (by simp; omega)
        exact ⟨t, by rw [← ht]; simp⟩
end Go.Proofs.YtinmpjhmbciapaaDoor

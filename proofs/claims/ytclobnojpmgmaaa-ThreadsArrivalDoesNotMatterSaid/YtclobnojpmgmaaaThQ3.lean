/-
  ThreadsAnswersFollow: the plain law.
-/
import Derived.Test.YtclobnojpmgmaaaThQ1
namespace Go.Proofs.Ytclobnojpmgmaaa
set_option linter.unusedVariables false
/-- the places at which letters were shown, behind i rounds -/
def AtL (l : List Letter) (xs : List (Nat × Int)) (i : Nat) (L : List Int) : Prop := L.length = l.length ∧
  (∀ (j : Nat) (hj : j < L.length), (L[j] = -1 ∧ ∀ y ∈ xs.take i, y.1 ≠ j) ∨ (∃ (m : Nat) (hm : m < xs.length), m < i ∧ L[j] = (m : Int) ∧ xs[m].1 = j))
theorem atL_start (l : List Letter) (xs : List (Nat × Int)) : AtL l xs 0 (List.replicate l.length (-1)) :=
  ⟨by simp, fun j hj => .inl ⟨by simp, by simp⟩⟩
theorem atL_succ {l : List Letter} {xs : List (Nat × Int)} {i : Nat} {L : List Int} (h : AtL l xs i L) (hi : i < xs.length) : AtL l xs (i + 1) (L.set xs[i].1 (i : Int)) := by
  refine ⟨by rw [List.length_set, h.1], fun j hj => ?_⟩
  rw [List.length_set] at hj
  rw [List.getElem_set]
  by_cases e : xs[i].1 = j
  · rw [if_pos e]
    exact .inr ⟨i, hi, by omega, rfl, e⟩
  · rw [if_neg e]
    rcases h.2 j hj with ⟨h1, h2⟩ | ⟨m, hm, h1, h2, h3⟩
    · refine .inl ⟨h1, fun y hy => ?_⟩
      rw [List.take_succ_eq_append_getElem hi, List.mem_append] at hy
      rcases hy with hy | hy
      · exact h2 y hy
      · rw [List.mem_singleton] at hy
        rw [hy]; exact e
    · exact .inr ⟨m, hm, by omega, h2, h3⟩
theorem okL_get {l : List Letter} {p d : Int} : ∀ (xs seen : List (Nat × Int)), OkL l p d seen xs → ∀ (i : Nat) (hi : i < xs.length), ∃ hk : xs[i].1 < l.length, (Th.parentOf l l[xs[i].1] = p ∧ xs[i].2 = d) ∨ ∃ j : Nat, Th.parentOf l l[xs[i].1] = j ∧ (j, xs[i].2 - 1) ∈ seen ++ xs.take i
  | [], _, _, i, hi => by simp at hi
  | x :: t, seen, h, 0, hi => by simpa using h.1
  | x :: t, seen, h, i + 1, hi => by
    have := okL_get t (seen ++ [x]) h.2 i (by simpa using hi)
    simpa using this
/-- what a round meets -/
theorem answers_round {l : List Letter} (hd : Distinct l) {xs : List (Nat × Int)} (hxs : xs = Th.shownA l (-1) 0) {i : Nat} (hi : i < xs.length) {L : List Int} (hL : AtL l xs i L) :
    ∃ (ho : xs[i].1 < l.length) (hoL : xs[i].1 < L.length), L[xs[i].1] = -1 ∧
      ((Th.parentOf l l[xs[i].1] = -1 ∧ xs[i].2 = 0) ∨ ∃ (k m : Nat) (hk : k < l.length) (hkL : k < L.length) (hm : m < xs.length), Th.parentOf l l[xs[i].1] = k ∧ L[k] = (m : Int) ∧ xs[i].2 = xs[m].2 + 1) := by
  have hn := shown_nodup hd (l.length + 1) (-1) 0 (.inl ⟨by omega, by omega⟩)
  have hok := shown_okL hd (l.length + 1) (-1) 0 [] (.inl ⟨by omega, by omega⟩)
  rw [← hxs] at hn hok
  obtain ⟨ho, hp⟩ := okL_get xs [] hok i hi
  have hoL : xs[i].1 < L.length := by rw [hL.1]; exact ho
  have hne := List.pairwise_iff_getElem.1 hn
  have hinj : ∀ (a b : Nat) (ha : a < xs.length) (hb : b < xs.length), xs[a].1 = xs[b].1 → a = b := by
    intro a b ha hb e
    rcases Nat.lt_trichotomy a b with h | h | h
    · have := hne a b (by simpa using ha) (by simpa using hb) h
      simp only [List.getElem_map] at this
      exact absurd e this
    · exact h
    · have := hne b a (by simpa using hb) (by simpa using ha) h
      simp only [List.getElem_map] at this
      exact absurd e.symm this
  refine ⟨ho, hoL, ?_, ?_⟩
  · rcases hL.2 _ hoL with ⟨h1, _⟩ | ⟨m, hm, h1, h2, h3⟩
    · exact h1
    · have := hinj m i hm hi h3
      omega
  · rcases hp with ⟨h1, h2⟩ | ⟨k, h1, h2⟩
    · exact .inl ⟨h1, h2⟩
    · rw [List.nil_append] at h2
      obtain ⟨m, hm, hmx⟩ := List.mem_iff_getElem.1 h2
      rw [List.length_take] at hm
      rw [List.getElem_take] at hmx
      have hkl : k < l.length := by
        have := okL_get xs [] hok m (by omega)
        obtain ⟨hk, _⟩ := this
        rw [hmx] at hk
        exact hk
      have hkL : k < L.length := by rw [hL.1]; exact hkl
      rcases hL.2 k hkL with ⟨_, h4⟩ | ⟨m', hm', h4, h5, h6⟩
      · exact absurd rfl (h4 _ h2)
      · have : m' = m := hinj m' m hm' (by omega) (by rw [h6, hmx])
        subst this
        refine .inr ⟨k, m', hkl, hkL, hm', h1, h5, ?_⟩
        rw [hmx]
        omega
end Go.Proofs.Ytclobnojpmgmaaa

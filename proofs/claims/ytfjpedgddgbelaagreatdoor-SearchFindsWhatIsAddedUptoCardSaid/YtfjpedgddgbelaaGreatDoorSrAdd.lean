/-
  A text that has been added is found by its words, by prefixes of their stems, by two words in order; plain.
-/
import Derived.Test.YtfjpedgddgbelaaGreatDoorG21
import Derived.Test.YtfjpedgddgbelaaGreatDoorG19
import Derived.Test.YtfjpedgddgbelaaGreatDoorG17
namespace Go.Proofs.YtfjpedgddgbelaaGreatDoor
set_option linter.unusedVariables false
namespace Sr
open Q
theorem mem_occ (w : Str) : ∀ (s : List Str) (n j : Nat) (hj : j < s.length), s[j] = w → ((n + j : Nat) : Int) ∈ Ix.occ w s n
  | [], n, j, hj, _ => by cases hj
  | a :: s, n, 0, hj, h => by
    have h : a = w := h
    rw [Ix.occ, if_pos h]
    exact .head _
  | a :: s, n, j + 1, hj, h => by
    have ih := mem_occ w s (n + 1) j (by simpa using hj) (by simpa using h)
    rw [show n + 1 + j = n + (j + 1) by omega] at ih
    rw [Ix.occ]
    split
    · exact .tail _ ih
    · exact ih
theorem fault_leaf (k : Int) (t : Str) (n : Int) (h : errOf (.node k t n []) = 0) : fault (.node k t n []) = (0, 0) := by
  unfold fault
  have h1 : lev 9 (.node k t n []) = 1 := by simp [lev, top]
  have h2 : pre 9 (.node k t n []) = [.node k t n []] := by simp [pre]
  rw [h1, h2, if_neg (by omega), if_neg (by simp)]
  rw [errGo, if_pos h, errGo]
theorem err_text (k : Int) (t : Str) (hk : k = 2 ∨ k = 3 ∨ k = 4) (ha : (splitS t).all wordOk = true) (hn : k = 4 ∨ (splitS t).length = 1) : errOf (.node k t 0 []) = 0 := by
  unfold errOf
  rcases hk with rfl | rfl | rfl
  · have e : (splitS t).length = 1 := by rcases hn with h | h; exact absurd h (by decide); exact h
    simp [least, most, wants, ha, e]
  · have e : (splitS t).length = 1 := by rcases hn with h | h; exact absurd h (by decide); exact h
    simp [least, most, wants, ha, e]
  · simp [least, most, wants, ha]
/-- words of a text that is not too long -/
theorem word_ok {t x : Str} (ht : t.length ≤ 4000) (hx : x ∈ Sm.words t) : wordOk x = true ∧ (32 : UInt8) ∉ x ∧ wordOk (Sm.stem x) = true ∧ (32 : UInt8) ∉ Sm.stem x := by
  have h1 := Sm.word_self hx
  have h2 := word_len hx
  have h3 := Sm.stem_words h1
  have h4 := Sm.stem_len x
  refine ⟨?_, ?_, ?_, ?_⟩
  · unfold wordOk; rw [h1]; simp; omega
  · obtain ⟨zs, rfl, hz⟩ := Sm.word_low hx
    exact Sm.no_space fun r hr => (hz.2 r hr).1
  · unfold wordOk; rw [h3]; simp; omega
  · obtain ⟨zs, e, hz⟩ := Sm.word_low (s := Sm.stem x) (x := Sm.stem x) (by rw [h3]; exact .head _)
    rw [e]
    exact Sm.no_space fun r hr => (hz.2 r hr).1
theorem places_added {x : Ix.Idx} (h : Ix.Canon x) {id : Int} {t : Str} (j : Nat) (hj : j < (Sm.words t).length) : (j : Int) ∈ places (Ix.addF x id (Sm.stems t)) (Sm.words t)[j] id := by
  unfold places
  show _ ∈ Ix.cont (Ix.putAll id (Sm.stems t) 0 x.2) _ id
  rw [Ix.cont_putAll id _ 0 h.wf, if_pos rfl, List.mem_append]
  right
  have hl : (Sm.stems t).length = (Sm.words t).length := by unfold Sm.stems; rw [List.length_map]
  have := mem_occ (Sm.stem (Sm.words t)[j]) (Sm.stems t) 0 j (by omega) (by unfold Sm.stems; rw [List.getElem_map])
  simpa using this
def phraseOf (t : Str) (k : Nat) : Str := if h : k + 1 < (Sm.words t).length then (Sm.words t).getD k [] ++ [32] ++ (Sm.words t)[k + 1] else (Sm.words t).getD k []
theorem finds_added {x : Ix.Idx} (h : Ix.Canon x) {id : Int} {t : Str} (ht : t.length ≤ 4000) (hc : Ix.Canon (Ix.addF x id (Sm.stems t))) (k : Nat) (hk : k < (Sm.words t).length) :
    (fault (.node 2 (Sm.words t)[k] 0 [])).1 = 0 ∧ findsF 8 (Ix.addF x id (Sm.stems t)) (.node 2 (Sm.words t)[k] 0 []) id = true ∧
    (fault (.node 3 (Sm.stem (Sm.words t)[k]) 0 [])).1 = 0 ∧ findsF 8 (Ix.addF x id (Sm.stems t)) (.node 3 (Sm.stem (Sm.words t)[k]) 0 []) id = true ∧
    (fault (.node 4 (phraseOf t k) 0 [])).1 = 0 ∧ findsF 8 (Ix.addF x id (Sm.stems t)) (.node 4 (phraseOf t k) 0 []) id = true := by
  obtain ⟨w1, w2, w3, w4⟩ := word_ok ht (List.getElem_mem hk)
  have hp := places_added h (id := id) k hk
  have hg : (Sm.words t).getD k [] = (Sm.words t)[k] := by rw [List.getD_eq_getElem?_getD, List.getElem?_eq_getElem hk, Option.getD_some]
  have s1 := splitS_no _ w2
  have s2 := splitS_no _ w4
  refine ⟨?_, ?_, ?_, ?_, ?_, ?_⟩
  · rw [fault_leaf _ _ _ (err_text 2 _ (.inl rfl) (by rw [s1]; simp [w1]) (.inr (by rw [s1]; rfl)))]
  · rw [show (8 : Nat) = 7 + 1 from rfl, findsF]
    simp only [kind_node, text_node, if_pos]
    exact decide_eq_true (List.length_pos_of_mem hp)
  · rw [fault_leaf _ _ _ (err_text 3 _ (.inr (.inl rfl)) (by rw [s2]; simp [w3]) (.inr (by rw [s2]; rfl)))]
  · rw [show (8 : Nat) = 7 + 1 from rfl, findsF]
    simp only [kind_node, text_node, if_pos]
    rw [if_neg (by decide), prefix_iff hc.wf]
    exact ⟨Sm.stem (Sm.words t)[k], by simp, List.ne_nil_of_mem hp⟩
  · refine (congrArg Prod.fst (fault_leaf _ _ _ (err_text 4 _ (.inr (.inr rfl)) ?_ (.inl rfl))))
    unfold phraseOf
    split
    · rename_i h2
      obtain ⟨v1, v2, _⟩ := word_ok ht (List.getElem_mem h2)
      rw [hg, List.append_assoc, List.singleton_append, splitS_cut _ _ w2, splitS_no _ v2]
      simp [w1, v1]
    · rw [hg, s1]; simp [w1]
  · rw [show (8 : Nat) = 7 + 1 from rfl, findsF]
    simp only [kind_node, text_node]
    rw [if_neg (by decide), if_neg (by decide), if_pos trivial]
    unfold phraseF phraseOf
    rw [List.any_eq_true]
    refine ⟨(k : Int), ?_, ?_⟩
    · split
      · rename_i h2
        rw [hg, List.append_assoc, List.singleton_append, splitS_cut _ _ w2]
        exact hp
      · rw [hg, s1]; exact hp
    · split
      · rename_i h2
        obtain ⟨v1, v2, _⟩ := word_ok ht (List.getElem_mem h2)
        have hp2 := places_added h (id := id) (k + 1) h2
        rw [hg, List.append_assoc, List.singleton_append, splitS_cut _ _ w2, splitS_no _ v2]
        have e : ((k : Int) + (0 + 1)) = ((k + 1 : Nat) : Int) := by omega
        simp only [rowAt, e, Int.add_zero, Bool.and_true, Bool.and_eq_true, List.contains_iff_mem]
        exact ⟨hp, hp2⟩
      · rw [hg, s1]
        simp only [rowAt, Int.add_zero, Bool.and_true, List.contains_iff_mem]
        exact hp
end Sr
end Go.Proofs.YtfjpedgddgbelaaGreatDoor

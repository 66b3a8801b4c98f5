/-
  Indexes: the laws of Add and Remove, with their faults; plain.
-/
import Derived.Test.YtfjpedgddgbelaaGreatDoorG17
import Derived.Test.YtfjpedgddgbelaaGreatDoorG26
namespace Go.Proofs.YtfjpedgddgbelaaGreatDoor
namespace Ix
set_option linter.unusedVariables false
theorem addR_bad {x : Idx} {id : Int} {t : Str} (h : (addR x id t).2.1 ≠ 0) : (addR x id t).1 = ([], []) := by
  unfold addR at h ⊢
  split; · rfl
  split; · rfl
  split; · rfl
  split; · rfl
  split; · rfl
  split; · rfl
  split; · rfl
  rename_i h0 h1 h2 h3 h4 h5 h6
  rw [if_neg h0, if_neg h1, if_neg h2, if_neg h3, if_neg h4, if_neg h5, if_neg h6] at h
  exact absurd rfl h
theorem addR_sz (x : Idx) (id : Int) (t : Str) : SzIx (addR x id t).1.2 := by
  by_cases h : (addR x id t).2.1 = 0
  · have := addR_good h
    rw [this.1]
    exact this.2.2.2.2.sz
  · rw [addR_bad h]
    intro t h
    cases h
theorem removeR_addR {x : Idx} {id : Int} {t : Str} (h : (addR x id t).2.1 = 0) : removeR (addR x id t).1 id = (x, 0, 0) := by
  obtain ⟨e, hc, hr, hid, hc'⟩ := addR_good h
  rw [e]
  unfold removeR
  rw [if_neg (by simpa using (indexF_zero _).2 hc'), if_pos (show id ∈ (addF x id (Sm.stems t), (0 : Int), (0 : Int)).1.1 from mem_insId.2 (.inl rfl)), remove_add hc hid]
theorem addR_of {x : Idx} {id : Int} {t : Str} (hc : Canon x) (hr : 1 ≤ id ∧ id ≤ 1000000) (ht : t.length ≤ 4000) (hid : id ∉ x.1) (hn : x.1.length ≠ 300) (hm : (putAll id (Sm.stems t) 0 x.2).length ≤ 1000000) : addR x id t = (addF x id (Sm.stems t), 0, 0) := by
  unfold addR
  rw [if_neg (by simpa using (indexF_zero x).2 hc), if_neg (by omega), if_neg (by omega), if_neg (by omega), if_neg hid, if_neg hn, if_neg (by omega)]
theorem addR_room {x : Idx} {id : Int} {t : Str} (h : (addR x id t).2.1 = 0) : t.length ≤ 4000 ∧ x.1.length ≠ 300 := by
  unfold addR at h
  split at h
  · rename_i h0; exact absurd h h0
  split at h
  · simp at h
  rename_i h1
  split at h
  · simp at h
  split at h
  · simp at h
  split at h
  · simp at h
  split at h
  · simp at h
  rename_i h5
  exact ⟨by omega, h5⟩
theorem addR_comm {x : Idx} {id other : Int} {t m : Str} (h1 : (addR x id t).2.1 = 0) (h2 : (addR (addR x id t).1 other m).2.1 = 0) (h3 : (addR x other m).2.1 = 0) : addR (addR x other m).1 id t = ((addR (addR x id t).1 other m).1, 0, 0) := by
  obtain ⟨e1, hc, hr, hid, hc1⟩ := addR_good h1
  have ht := addR_room h1
  have hn2 := (addR_room h2).2
  obtain ⟨e2, _, hr2, hid2, hc2⟩ := addR_good h2
  obtain ⟨e3, _, _, hid3, hc3⟩ := addR_good h3
  rw [e1] at e2 hid2 hc2 hn2 ⊢
  rw [e2, e3]
  simp only at hid2 hc2 hn2 ⊢
  have hne : id ≠ other := fun e => hid2 (mem_insId.2 (.inl e.symm))
  have hcm := add_comm hc (Sm.stems t) (Sm.stems m) hne
  have hm := hc2.many
  rw [hcm] at hm ⊢
  refine addR_of hc3 hr ht.1 (fun e => ?_) ?_ hm
  · rcases mem_insId.1 e with e | e
    · exact hne e
    · exact hid e
  · have e1 : (addF x id (Sm.stems t)).1.length = x.1.length + 1 := insId_len hid hc.ids
    have e2 : (addF x other (Sm.stems m)).1.length = x.1.length + 1 := insId_len hid3 hc.ids
    omega
end Ix
end Go.Proofs.YtfjpedgddgbelaaGreatDoor

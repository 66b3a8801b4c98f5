/-
  A map that the call made: a block that holds what a function says, key by key. No program is named here.
-/
import Derived.Test.YtclobnojpmgmaaaBase
import Derived.MapKept
namespace Go.Proofs.Ytclobnojpmgmaaa
open Go.RowKit Go.MapKept
set_option linter.unusedVariables false
section
variable {P : Program} {κ : Type} {w w' : World} {b : Nat} {d : TypeDesc} {enc : κ → Value} {m : κ → Option Value}

/-- Block b is a map that holds m; its keys are the values of enc. -/
def MapAt (d : TypeDesc) (enc : κ → Value) (w : World) (b : Nat) (m : κ → Option Value) : Prop :=
  (∀ k k', enc k = enc k' → k = k') ∧ (∀ k, IsKey d (enc k)) ∧ ∃ es clock, w.heap[b]? = some (.map es clock) ∧ (es.toList.map (·.key)).Nodup ∧
    (∀ x ∈ es.toList, ∃ k, x.key = enc k ∧ m k = some x.val) ∧ (∀ k v, m k = some v → ∃ x ∈ es.toList, x.key = enc k)
theorem MapAt.lt (h : MapAt d enc w b m) : b < w.heap.size := by
  obtain ⟨_, _, es, clock, hb, _⟩ := h
  exact (Array.getElem?_eq_some_iff.1 hb).1
theorem MapAt.keep (h : MapAt d enc w b m) (hk : w'.heap[b]? = w.heap[b]?) : MapAt d enc w' b m := by
  obtain ⟨h1, h2, es, clock, hb, h3⟩ := h
  exact ⟨h1, h2, es, clock, hk.trans hb, h3⟩
theorem MapAt.ext (h : MapAt d enc w b m) (hb : Below w.heap.size w w') : MapAt d enc w' b m := h.keep (hb.block b h.lt)
theorem MapAt.far (h : MapAt d enc w b m) {p : Addr} (hp : b ≠ p.block) (u : Value) : MapAt d enc (w.setCell p u) b m := h.keep (Below.heap_setCell w p u b hp)
theorem MapAt.made (w : World) (hi : ∀ k k', enc k = enc k' → k = k') (hk : ∀ k, IsKey d (enc k)) : MapAt d enc (w.alloc (.map #[] 0)) w.heap.size (fun _ => none) :=
  ⟨hi, hk, #[], 0, heap_alloc_new w _, by simp, fun x hx => by simp at hx, fun k v h => by cases h⟩
theorem key_unique : ∀ {l : List MapEntry}, (l.map (·.key)).Nodup → ∀ {x y : MapEntry}, x ∈ l → y ∈ l → x.key = y.key → x = y
  | e :: l, h, x, y, hx, hy, he => by
    rw [List.map_cons, List.nodup_cons] at h
    rcases List.mem_cons.1 hx with hx1 | hx1
    · rcases List.mem_cons.1 hy with hy1 | hy1
      · rw [hx1, hy1]
      · exact absurd (by rw [← hx1, he]; exact List.mem_map_of_mem hy1) h.1
    · rcases List.mem_cons.1 hy with hy1 | hy1
      · exact absurd (by rw [← hy1, ← he]; exact List.mem_map_of_mem hx1) h.1
      · exact key_unique h.2 hx1 hy1 he
/-- what a search finds -/
theorem MapAt.find (h : MapAt d enc w b m) (k : κ) : ∃ es clock, w.heap[b]? = some (.map es clock) ∧
    ((m k = none ∧ Instr.findNow d (enc k) es.toList 0 = some none) ∨ ∃ v j, m k = some v ∧ Instr.findNow d (enc k) es.toList 0 = some (some (j, v))) := by
  obtain ⟨hi, hk, es, clock, hb, hn, h1, h2⟩ := h
  refine ⟨es, clock, hb, ?_⟩
  have hks : ∀ x ∈ es.toList, IsKey d x.key := fun x hx => by obtain ⟨k', e, _⟩ := h1 x hx; rw [e]; exact hk k'
  rcases findNow_spec (hk k) es.toList 0 hks with ⟨hf, hne⟩ | ⟨j, e, hf, hj, he⟩
  · refine .inl ⟨?_, hf⟩
    cases hm : m k with
    | none => rfl
    | some v =>
      obtain ⟨x, hx, hxe⟩ := h2 k v hm
      exact absurd hxe (hne x hx)
  · obtain ⟨k', ek, hv⟩ := h1 e (List.mem_of_getElem? hj)
    have : k = k' := hi k k' (by rw [← he, ek])
    subst this
    exact .inr ⟨e.val, 0 + j, hv, hf⟩
theorem MapAt.look_some {T K E : TypeId} (h : MapAt d enc w b m) (hT : P.underlying T = some (.map K E)) (hK : P.underlying K = some d) {k : κ} {v : Value} (hm : m k = some v) (ok : Bool) :
    (Instr.lookup T (.map (some b)) (enc k) ok).run P w = .ok (if ok then .tuple #[v, .bool true] else v) w := by
  have hk := h.2.1 k
  obtain ⟨es, clock, hb, h1⟩ := h.find k
  rcases h1 with ⟨hn, _⟩ | ⟨v', j, hv, hf⟩
  · rw [hm] at hn; cases hn
  · rw [hm] at hv
    injection hv with hv
    subst hv
    simp [Instr.lookup, run_underlying hT, Go.MapKept.run_getObj_map hb, run_checkKey hK hk, run_findKey hK hf, Result.andThen]
theorem MapAt.look_none {T K E : TypeId} (h : MapAt d enc w b m) (hT : P.underlying T = some (.map K E)) (hK : P.underlying K = some d) {z : Value} (hz : (zeroValue E).run P w = .ok z w) {k : κ} (hm : m k = none) (ok : Bool) :
    (Instr.lookup T (.map (some b)) (enc k) ok).run P w = .ok (if ok then .tuple #[z, .bool false] else z) w := by
  have hk := h.2.1 k
  obtain ⟨es, clock, hb, h1⟩ := h.find k
  rcases h1 with ⟨_, hf⟩ | ⟨v', j, hv, hf⟩
  · simp [Instr.lookup, run_underlying hT, Go.MapKept.run_getObj_map hb, run_checkKey hK hk, run_findKey hK hf, hz, Result.andThen]
  · rw [hm] at hv; cases hv
/-- m with one key turned -/
def updM [DecidableEq κ] (m : κ → Option Value) (k : κ) (v : Value) : κ → Option Value := fun k' => if k' = k then some v else m k'
theorem MapAt.upd [DecidableEq κ] {T K E : TypeId} (h : MapAt d enc w b m) (hT : P.underlying T = some (.map K E)) (hK : P.underlying K = some d) (k : κ) (v : Value) :
    ∃ w', (Instr.mapUpdate T (.map (some b)) (enc k) v).run P w = .ok () w' ∧ MapAt d enc w' b (updM m k v) ∧ w.grownBy w' (some b) ∧ w'.heap.size = w.heap.size := by
  obtain ⟨hi, hk, es, clock, hb, hn, h1, h2⟩ := h
  have hks : ∀ x ∈ es.toList, IsKey d x.key := fun x hx => by obtain ⟨k', e, _⟩ := h1 x hx; rw [e]; exact hk k'
  have hgr : ∀ o : Obj, w.grownBy { w with heap := w.heap.setIfInBounds b o } (some b) := fun o =>
    ⟨rfl, rfl, rfl, by simp, fun r _ hr => (heap_set hb).2 r fun e => hr (by rw [e])⟩
  rcases findNow_spec (hk k) es.toList 0 hks with ⟨hf, hne⟩ | ⟨j, e, hf, hj, he⟩
  · refine ⟨_, by simp [Instr.mapUpdate, run_underlying hT, Go.MapKept.run_getObj_map hb, run_checkKey hK (hk k), run_findKey hK hf, Go.MapKept.run_setObj_map _ hb, Result.andThen]; rfl, ?_, hgr _, by simp⟩
    refine ⟨hi, hk, _, _, (heap_set hb).1, ?_, ?_, ?_⟩
    · rw [Array.toList_push, List.map_append, List.nodup_append]
      refine ⟨hn, by simp, fun x hx y hy => ?_⟩
      simp at hy
      obtain ⟨z, hz, rfl⟩ := List.mem_map.1 hx
      rw [hy]
      exact hne z hz
    · intro x hx
      rw [Array.toList_push] at hx
      rcases List.mem_append.1 hx with hx | hx
      · obtain ⟨k', ek, hv⟩ := h1 x hx
        refine ⟨k', ek, ?_⟩
        unfold updM
        rw [if_neg (fun e => hne x hx (by rw [ek, e]))]
        exact hv
      · simp at hx
        subst hx
        exact ⟨k, rfl, by simp [updM]⟩
    · intro k' v' hv
      unfold updM at hv
      split at hv
      · rename_i e
        subst e
        exact ⟨_, by rw [Array.toList_push]; exact List.mem_append_right _ (.head _), rfl⟩
      · obtain ⟨x, hx, hxe⟩ := h2 k' v' hv
        exact ⟨x, by rw [Array.toList_push]; exact List.mem_append_left _ hx, hxe⟩
  · have hj' : es[j]? = some e := by simpa using hj
    have hjl : j < es.size := (Array.getElem?_eq_some_iff.1 hj').1
    refine ⟨_, by simp [Instr.mapUpdate, run_underlying hT, Go.MapKept.run_getObj_map hb, run_checkKey hK (hk k), run_findKey hK hf, hj', he, run_keyThatStays (hk k), Go.MapKept.run_setObj_map _ hb, Result.andThen]; rfl, ?_, hgr _, by simp⟩
    have hkeys : ((es.modify j fun e => { e with key := enc k, val := v }).toList.map (·.key)) = es.toList.map (·.key) :=
      modify_keys j _ fun e' he' => by rw [hj'] at he'; cases he'; exact he.symm
    have hget : ∀ (i : Nat) (x : MapEntry), (es.modify j fun e => { e with key := enc k, val := v }).toList[i]? = some x → (i = j ∧ x = { e with key := enc k, val := v }) ∨ (i ≠ j ∧ es.toList[i]? = some x) := fun i x hx => by
      rw [Array.getElem?_toList, Array.getElem?_modify] at hx
      by_cases hij : j = i
      · subst hij
        rw [if_pos rfl, hj'] at hx
        simp at hx
        exact .inl ⟨rfl, hx.symm⟩
      · rw [if_neg hij] at hx
        exact .inr ⟨fun e => hij e.symm, by rw [Array.getElem?_toList]; exact hx⟩
    refine ⟨hi, hk, _, _, (heap_set hb).1, by rw [hkeys]; exact hn, ?_, ?_⟩
    · intro x hx
      obtain ⟨i, hi'⟩ := List.mem_iff_getElem?.1 hx
      rcases hget i x hi' with ⟨_, rfl⟩ | ⟨hij, hx'⟩
      · exact ⟨k, rfl, by simp [updM]⟩
      · obtain ⟨k', ek, hv⟩ := h1 x (List.mem_of_getElem? hx')
        refine ⟨k', ek, ?_⟩
        unfold updM
        rw [if_neg (fun e' => ?_)]
        · exact hv
        · subst e'
          have hxe : x = e := key_unique hn (List.mem_of_getElem? hx') (List.mem_of_getElem? hj) (by rw [ek, he])
          have h3 : (es.toList.map (·.key))[i]? = some (enc k') := by rw [List.getElem?_map, hx']; simp [ek]
          have h4 : (es.toList.map (·.key))[j]? = some (enc k') := by rw [List.getElem?_map, hj]; simp [he]
          have h5 := List.pairwise_iff_getElem.1 hn
          obtain ⟨l3, g3⟩ := List.getElem?_eq_some_iff.1 h3
          obtain ⟨l4, g4⟩ := List.getElem?_eq_some_iff.1 h4
          rcases Nat.lt_or_gt_of_ne hij with h6 | h6
          · exact h5 i j l3 l4 h6 (g3.trans g4.symm)
          · exact h5 j i l4 l3 h6 (g4.trans g3.symm)
    · intro k' v' hv
      have hin : enc k' ∈ es.toList.map (·.key) := by
        unfold updM at hv
        split at hv
        · rename_i e'
          subst e'
          exact he ▸ List.mem_map_of_mem (List.mem_of_getElem? hj)
        · obtain ⟨x, hx, hxe⟩ := h2 k' v' hv
          exact hxe ▸ List.mem_map_of_mem hx
      rw [← hkeys] at hin
      obtain ⟨x, hx, hxe⟩ := List.mem_map.1 hin
      exact ⟨x, hx, hxe⟩
end
end Go.Proofs.Ytclobnojpmgmaaa

/-
  The kids of a letter are later than it: the answers end.
-/
import Derived.Test.YtclobnojpmgmaaaThK
namespace Go.Proofs.Ytclobnojpmgmaaa
set_option linter.unusedVariables false
namespace Th
theorem cnt_le (p q : Nat → Bool) : ∀ L : List Nat, (∀ x ∈ L, p x = true → q x = true) → (L.filter p).length ≤ (L.filter q).length
  | [], _ => Nat.le_refl _
  | x :: L, h => by
    have ih := cnt_le p q L fun y hy => h y (List.mem_cons_of_mem _ hy)
    have hx := h x List.mem_cons_self
    rw [List.filter_cons, List.filter_cons]
    cases hp : p x with
    | true => rw [hx hp]; simpa using ih
    | false => cases q x <;> simp <;> omega
theorem cnt_lt (p q : Nat → Bool) : ∀ L : List Nat, (∀ x ∈ L, p x = true → q x = true) → (∃ x ∈ L, p x = false ∧ q x = true) → (L.filter p).length < (L.filter q).length
  | [], _, ⟨x, hx, _⟩ => by cases hx
  | x :: L, h, ⟨y, hy, hpy, hqy⟩ => by
    have hL := fun z (hz : z ∈ L) => h z (List.mem_cons_of_mem _ hz)
    have hx := h x List.mem_cons_self
    have hle := cnt_le p q L hL
    rw [List.filter_cons, List.filter_cons]
    rcases List.mem_cons.1 hy with e | e
    · subst e
      rw [hpy, hqy]; simp; omega
    · have ih := cnt_lt p q L hL ⟨y, e, hpy, hqy⟩
      cases hp : p x with
      | true => rw [hx hp]; simpa using ih
      | false => cases q x <;> simp <;> omega
def rank (l : List Letter) (k : Nat) : Nat := ((List.range l.length).filter fun j => later l k j).length
theorem rank_lt (l : List Letter) (a b : Nat) (ha : a < l.length) (hb : b < l.length) (h : earlier l[a] l[b] = true) : rank l b < rank l a := by
  refine cnt_lt _ _ _ (fun x hx hp => ?_) ⟨b, List.mem_range.2 hb, ?_, ?_⟩
  · have hxl := List.mem_range.1 hx
    unfold later at hp ⊢
    rw [List.getElem?_eq_getElem hb, List.getElem?_eq_getElem hxl] at hp
    rw [List.getElem?_eq_getElem ha, List.getElem?_eq_getElem hxl]
    exact earlier_trans _ _ _ h hp
  · unfold later
    rw [List.getElem?_eq_getElem hb]
    exact earlier_irrefl _
  · unfold later
    rw [List.getElem?_eq_getElem ha, List.getElem?_eq_getElem hb]
    exact h
theorem rank_le (l : List Letter) (k : Nat) : rank l k ≤ l.length := by
  unfold rank
  exact Nat.le_trans (List.length_filter_le _ _) (by simp)
end Th
theorem parent_hits {l : List Letter} (hd : Distinct l) (x : Letter) (p : Nat) (h : Th.parentOf l x = (p : Int)) : ∃ (hp : p < l.length), Th.earlier l[p] x = true := by
  rw [← parTo_all] at h
  rcases parTo_last l x x.2.1.length (Nat.le_refl _) with ⟨h1, _⟩ | ⟨r, k, hr, _, h2, h3, _⟩
  · rw [h1] at h; omega
  · obtain ⟨hk, _, _, he⟩ := (refTo_hits hd x r k hr).1 h2
    rw [h3] at h
    have : k = p := by omega
    subst this
    exact ⟨hk, he⟩
theorem kid_later {l : List Letter} (hd : Distinct l) (p k : Nat) (h : k ∈ Th.kids l (p : Int)) : ∃ (hp : p < l.length) (hk : k < l.length), Th.earlier l[p] l[k] = true := by
  unfold Th.kids at h
  obtain ⟨h1, h2⟩ := List.mem_filter.1 h
  have hk := List.mem_range.1 h1
  unfold Th.parentsF at h2
  rw [List.getElem?_map, List.getElem?_eq_getElem hk, Option.map_some] at h2
  have h3 : Th.parentOf l l[k] = (p : Int) := by simpa using h2
  obtain ⟨hp, he⟩ := parent_hits hd l[k] p h3
  exact ⟨hp, hk, he⟩
theorem kidsS_mem (l : List Letter) (p : Int) (k : Nat) : k ∈ Th.kidsS l p ↔ k ∈ Th.kids l p := List.mem_mergeSort
theorem shownF_fuel {l : List Letter} (hd : Distinct l) : ∀ (f f' p : Nat) (d : Int) (hp : p < l.length), Th.rank l p < f → Th.rank l p < f' → Th.shownF l f (p : Int) d = Th.shownF l f' (p : Int) d
  | 0, _, _, _, _, h, _ => by omega
  | _ + 1, 0, _, _, _, _, h => by omega
  | f + 1, f' + 1, p, d, hp, h1, h2 => by
    rw [Th.shownF, Th.shownF, List.flatMap_def, List.flatMap_def]
    congr 1
    refine List.map_congr_left fun k hk => ?_
    obtain ⟨_, hkl, he⟩ := kid_later hd p k ((kidsS_mem l p k).1 hk)
    have := Th.rank_lt l p k hp hkl he
    rw [shownF_fuel hd f f' k (d + 1) hkl (by omega) (by omega)]
/-- all answers -/
def Th.shownA (l : List Letter) (p d : Int) : List (Nat × Int) := Th.shownF l (l.length + 2) p d
theorem shownA_eq {l : List Letter} (hd : Distinct l) (p d : Int) (hp : p < 0 ∨ ∃ k : Nat, p = k ∧ k < l.length) : Th.shownA l p d = (Th.kidsS l p).flatMap fun k => (k, d) :: Th.shownA l (k : Int) (d + 1) := by
  unfold Th.shownA
  rw [Th.shownF, List.flatMap_def, List.flatMap_def]
  congr 1
  refine List.map_congr_left fun k hk => ?_
  have hkl : k < l.length := by
    have := (kidsS_mem l p k).1 hk
    unfold Th.kids at this
    exact List.mem_range.1 (List.mem_filter.1 this).1
  have := Th.rank_le l k
  rw [shownF_fuel hd (l.length + 1) (l.length + 2) k (d + 1) hkl (by omega) (by omega)]
/-- the kids among the first k, of a row of parents: what the children map holds -/
def Th.kidsTo (P : List Int) (k : Nat) (s : Int) : List Nat := (List.range k).filter fun j => P[j]? == some s
theorem kidsTo_succ (P : List Int) (k : Nat) (s : Int) : Th.kidsTo P (k + 1) s = Th.kidsTo P k s ++ (if P[k]? == some s then [k] else []) := by
  unfold Th.kidsTo
  rw [List.range_succ, List.filter_append]
  congr 1
  rw [List.filter_cons]
  rfl
theorem kidsTo_all (l : List Letter) (s : Int) : Th.kidsTo (Th.parentsF l) l.length s = Th.kids l s := rfl
theorem kidsTo_len (P : List Int) (k : Nat) (s : Int) : (Th.kidsTo P k s).length ≤ k := by
  unfold Th.kidsTo
  exact Nat.le_trans (List.length_filter_le _ _) (by simp)
theorem kidsTo_mem (P : List Int) (k : Nat) (s : Int) (j : Nat) (h : j ∈ Th.kidsTo P k s) : j < k := List.mem_range.1 (List.mem_filter.1 h).1
end Go.Proofs.Ytclobnojpmgmaaa

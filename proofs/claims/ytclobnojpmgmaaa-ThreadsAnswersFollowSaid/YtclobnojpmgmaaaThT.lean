/-
  The sorted rows, as rows of ints.
-/
import Derived.Test.YtclobnojpmgmaaaThR
import Derived.Test.YtclobnojpmgmaaaThN
import Derived.Sort.OwnSortedInts
namespace Go.Proofs.Ytclobnojpmgmaaa
open Go.RowKit Go.Shelf Go.Lib Go.Sort
set_option linter.unusedVariables false
theorem putRow_encI {n : Nat} [Inhabited (Fin n)] (w : World) (g : Nat) (D : Array (Fin n)) : putRow (encI (n := n)) w g 0 D = putRow (Value.int .i64) w g 0 (D.map fun i => (i.1 : Int)) := by
  unfold putRow
  congr 1
  funext c
  unfold putCells
  congr 1
  funext k x
  rw [Array.size_map]
  by_cases h : 0 ≤ k ∧ k < 0 + D.size
  · rw [if_pos h, if_pos h]
    have hk : k - 0 < D.size := by omega
    rw [getElem!_pos D _ hk, getElem!_pos _ _ (by simpa using hk)]
    simp [encI]
  · rw [if_neg h, if_neg h]
theorem sorted_map {l : List Letter} (d : List (Fin l.length)) : (d.mergeSort fun x y => !(ltOf (cfL l)) y x).map (fun i => i.1) = (d.map fun i => i.1).mergeSort fun a b => !Th.later l b a := by
  refine List.map_mergeSort fun a _ b _ => ?_
  rw [ltL]
  unfold Th.later
  rw [List.getElem?_eq_getElem a.2, List.getElem?_eq_getElem b.2]
  rfl
theorem pmap_fst {n : Nat} (ks : List Nat) (h : ∀ k ∈ ks, k < n) : (ks.pmap (fun k hk => (⟨k, hk⟩ : Fin n)) h).map (fun i => i.1) = ks := by
  rw [List.map_pmap]
  simp
/-- the sorted row of the kids does not depend on the order in which they lay -/
theorem kidsS_perm {l : List Letter} (hd : Distinct l) {p : Int} {ks : List Nat} (hp : ks.Perm (Th.kids l p)) : (ks.mergeSort fun a b => !Th.later l b a) = Th.kidsS l p := by
  have hk : ∀ k ∈ Th.kids l p, k < l.length := fun k hk => List.mem_range.1 (List.mem_filter.1 hk).1
  have hks : ∀ k ∈ ks, k < l.length := fun k h => hk k (hp.mem_iff.1 h)
  unfold Th.kidsS
  rw [← pmap_fst ks hks, ← pmap_fst (Th.kids l p) hk, ← sorted_map, ← sorted_map]
  congr 1
  have tr : ∀ a b c : Fin l.length, (!(ltOf (cfL l)) b a) = true → (!(ltOf (cfL l)) c b) = true → (!(ltOf (cfL l)) c a) = true := by
    intro a b c h1 h2
    have h3 : ltOf (cfL l) b a = false := by simpa using h1
    have h4 : ltOf (cfL l) c b = false := by simpa using h2
    have h5 := (swoL l).ntrans _ _ _ h4 h3
    simp [h5]
  have tot : ∀ a b : Fin l.length, ((!(ltOf (cfL l)) b a) || (!(ltOf (cfL l)) a b)) = true := by
    intro a b
    cases h1 : ltOf (cfL l) b a with
    | false => simp
    | true =>
      cases h2 : ltOf (cfL l) a b with
      | false => simp
      | true =>
        have h3 := (swoL l).trans _ _ _ h1 h2
        rw [(swoL l).irrefl] at h3
        cases h3
  refine List.Perm.eq_of_pairwise (le := fun a b => (!(ltOf (cfL l)) b a) = true) (fun a b _ _ h1 h2 => ?_) (List.pairwise_mergeSort tr tot _) (List.pairwise_mergeSort tr tot _) ?_
  · exact totL hd a b (by simpa using h2) (by simpa using h1)
  · exact (List.mergeSort_perm _ _).trans ((hp.pmap _).trans (List.mergeSort_perm _ _).symm)
end Go.Proofs.Ytclobnojpmgmaaa

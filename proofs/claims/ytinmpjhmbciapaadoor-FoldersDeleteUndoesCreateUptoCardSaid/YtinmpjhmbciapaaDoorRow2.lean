/-
  append(s[:i], make(S, m)...) where s has no room: a new row. No program is named here.
-/
import Derived.Test.YtinmpjhmbciapaaDoorRow
namespace Go.Proofs.YtinmpjhmbciapaaDoor
open Go.RowKit
theorem run_append_zeros {P : Program} {w : World} {k bytes : Nat} {t e tn : TypeId} {kn : IntKind} (T : SlT P k t e bytes) (hk : 0 < k) (htn : P.underlying tn = some (.int kn)) (g o n c m : Nat) (olds : List Value) (hol : olds.length = n * k)
    (hold : ∀ (j : Nat) (u : Value), olds[j]? = some u → w.cell? ((⟨g, o, none⟩ : Addr).add j) = some u) (h0 : 0 < m) (hg : c < n + m) (hmax : n + m ≤ maxLen) (hb : (n + m) * bytes ≤ 140737488355328) :
    ∃ C cu, n + m ≤ C ∧ C ≤ maxLen ∧ cu.size = C * k ∧ cu.toList.take (n * k) = olds ∧ ∀ ty kq,
      (Builtin.append_ #[t, tn] ty #[.slice (some ⟨g, o, none⟩) n c, .int kq m]).run P w = .ok (.slice (some ⟨w.heap.size, 0, none⟩) (n + m) C) (w.drew.alloc (.cells cu e)) := by
  obtain ⟨i, z, hi, hz, h1, h2, h3⟩ := T.hi
  have hge := grownCap_ge w (n + m) c e
  refine ⟨grownCap w (n + m) c e, olds.toArray ++ Builtin.zeroCells z.cells m ++ Builtin.zeroCells z.cells (grownCap w (n + m) c e - (n + m)), hge, grownCap_le_maxLen w _ _ _ hmax, ?_, ?_, fun ty kq => ?_⟩
  · rw [Array.size_append, Array.size_append, size_zeroCells, size_zeroCells, List.size_toArray, hol, h3, ← Nat.add_mul, ← Nat.add_mul]
    congr 1; omega
  · simp only [Array.toList_append, List.append_assoc]
    rw [List.take_append_of_le_length (by omega), List.take_of_length_le (by omega)]
  · refine Lib.run_append_grow_zeros w t tn ty e i z kq kn T.ht htn hi hz _ n c olds (run_firstCells_some (w := w.drew) i.size n _ _ _ olds (by rw [h1]; exact hol) hold) m h0 (by omega) hg (by simp only [maxLen] at hmax; omega) ?_ (growslice_fits hg (by rw [h2]; exact hb))
    rw [h2]
    have : m * bytes ≤ (n + m) * bytes := Nat.mul_le_mul_right _ (by omega)
    omega
/-- What grows by one block alone, and by writes to it. -/
theorem grownBy_new {w W : World} {o : Obj} (h : W = w.drew.alloc o) : W.os = w.os ∧ W.tape = w.tape ∧ W.output = w.output ∧ w.heap.size ≤ W.heap.size ∧ ∀ k, k < w.heap.size → W.heap[k]? = w.heap[k]? := by
  subst h
  exact ⟨rfl, rfl, rfl, by show w.heap.size ≤ (w.heap.push o).size; simp, fun k hk => heap_alloc_old w.drew o hk⟩
end Go.Proofs.YtinmpjhmbciapaaDoor

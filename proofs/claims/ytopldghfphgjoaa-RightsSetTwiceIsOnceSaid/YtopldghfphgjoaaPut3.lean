/-
  A store of an element of three cells into what the call owns. No program is named here.
-/
import Derived.Test.YtopldghfphgjoaaRow
namespace Go.Proofs.Ytopldghfphgjoaa
open Go.RowKit
theorem set3_splice {α : Type} (L : List α) (o : Nat) (a b c : α) (h : o + 3 ≤ L.length) : ((L.set o a).set (o + 1) b).set (o + 2) c = splice L o [a, b, c] := by
  apply List.ext_getElem?
  intro i
  have h1 : (L.take o).length = o := by rw [List.length_take]; omega
  simp only [splice, List.getElem?_set, List.length_set, List.getElem?_append, h1, List.length_cons, List.length_nil, List.getElem?_drop]
  by_cases i0 : i < o
  · rw [if_neg (by omega), if_neg (by omega), if_neg (by omega), if_pos (by omega), List.getElem?_take, if_pos i0]
  · rw [if_neg i0]
    by_cases i1 : i = o
    · subst i1
      rw [if_neg (by omega), if_neg (by omega), if_pos rfl, if_pos (by omega)]; simp
    · by_cases i2 : i = o + 1
      · subst i2
        rw [if_neg (by omega), if_pos rfl, if_pos (by omega)]; simp
      · by_cases i3 : i = o + 2
        · subst i3
          rw [if_pos rfl, if_pos (by omega)]; simp
        · rw [if_neg (by omega), if_neg (by omega), if_neg (by omega), if_neg (by omega)]
          congr 1
          omega
theorem Els.spliced {α : Type} {C : Codec α} {M : Nat → Prop} {w : World} {xs cs : List Value} {l : List α} {a : α} {k : Nat} (h : Els C M w xs l) (hk : k < l.length) (ha : C.rd M w cs a) : Els C M w (splice xs (k * C.n) cs) (l.set k a) := by
  have h1 := (h.take k).append ((Els.single ha).append (h.drop (k + 1)))
  rw [List.set_eq_take_append_cons_drop, if_pos hk]
  unfold splice
  rw [C.len ha]
  rw [Nat.add_mul, Nat.one_mul] at h1
  exact h1
theorem Own.put3 {α : Type} {C : Codec α} {M : Nat → Prop} {w : World} {B : Nat} {e : TypeId} {l : List α} {g n c : Nat} (hC : C.n = 3) (h : Own C M w B e (.slice (some ⟨g, 0, none⟩) n c) l) {k : Nat} (hk : k < l.length) {u0 u1 u2 : Value} {a : α}
    (hr : C.rd (fun b => M b ∨ b = g) w [u0, u1, u2] a) : Own C M (((w.setCell ⟨g, k * 3, none⟩ u0).setCell ⟨g, k * 3 + 1, none⟩ u1).setCell ⟨g, k * 3 + 2, none⟩ u2) B e (.slice (some ⟨g, 0, none⟩) n c) (l.set k a) := by
  have hn : n = l.length := by
    rcases h.form with ⟨hv, _⟩ | ⟨g', c', hv, _⟩
    · cases hv
    · injection hv
  subst hn
  obtain ⟨g', c', cur, hv, hlc, hcm, hB, hblk, hsz⟩ := h.blk (by omega)
  injection hv with hv1 hv2 hv3
  injection hv1 with hv1
  injection hv1 with hv1
  subst hv1 hv3
  obtain ⟨_, he⟩ := h.cells hblk
  have hls := he.spliced hk hr
  have hsz3 : cur.size = c * 3 := by rw [hsz, hC]
  have hb3 := ((hblk.set_ (k * 3) u0).set_ (k * 3 + 1) u1).set_ (k * 3 + 2) u2
  refine Own.mk_row hb3 hB (by simp [hsz]) (by simp) hlc hcm (hls.keep (fun b _ hn => ?_) (by simp)) ?_
  · have hbg : b ≠ g := fun e => hn (.inr e)
    exact ((Below.heap_setCell _ ⟨g, k * 3 + 2, none⟩ u2 b hbg).trans (Below.heap_setCell _ ⟨g, k * 3 + 1, none⟩ u1 b hbg)).trans (Below.heap_setCell _ ⟨g, k * 3, none⟩ u0 b hbg)
  · rw [hC]
    simp only [Array.toList_setIfInBounds]
    have hle : k * 3 + 3 ≤ l.length * 3 := by omega
    have h9 : k * 3 + 3 ≤ (List.take (l.length * 3) cur.toList).length := by
      have h10 : cur.toList.length = c * 3 := by rw [← hsz3]; exact Array.length_toList
      rw [List.length_take, h10]; omega
    rw [List.take_set, List.take_set, List.take_set, set3_splice _ _ _ _ _ h9]
end Go.Proofs.Ytopldghfphgjoaa

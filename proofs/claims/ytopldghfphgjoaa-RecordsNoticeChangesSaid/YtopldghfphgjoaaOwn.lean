/-
  A store into a slice of the call's own. No program is named here.
-/
import Derived.Test.YtopldghfphgjoaaBase
namespace Go.Proofs.Ytopldghfphgjoaa
open Go.RowKit

theorem Own.blk {α : Type} {C : Codec α} {M : Nat → Prop} {w : World} {B : Nat} {e : TypeId} {v : Value} {l : List α} (h : Own C M w B e v l) (h0 : 0 < l.length) :
    ∃ g c cur, v = .slice (some ⟨g, 0, none⟩) l.length c ∧ l.length ≤ c ∧ c ≤ maxLen ∧ B ≤ g ∧ Blk w g e cur ∧ cur.size = c * C.n := by
  obtain ⟨xs, ho, _⟩ := h
  rcases ho.2 with ⟨rfl, h1⟩ | ⟨g, cap, cur, rfl, hb, hg, h1, h2, h3, _⟩
  · omega
  · exact ⟨g, cap, cur, rfl, h1, h2, hb, hg, h3⟩
/-- One cell of an element of one cell is turned. -/
theorem Own.put1 {α : Type} {C : Codec α} {M : Nat → Prop} {w : World} {B : Nat} {e : TypeId} {l : List α} {g n c : Nat} (hC : C.n = 1) (h : Own C M w B e (.slice (some ⟨g, 0, none⟩) n c) l) {k : Nat} (hk : k < l.length) {u : Value} {a : α}
    (hr : C.rd (fun b => M b ∨ b = g) w [u] a) : Own C M (w.setCell ⟨g, k, none⟩ u) B e (.slice (some ⟨g, 0, none⟩) n c) (l.set k a) := by
  obtain ⟨xs, ho, he⟩ := h
  have hxl : xs.length = l.length := by rw [he.1, hC, Nat.mul_one]
  rcases ho with ⟨hl, ⟨hv, _⟩ | ⟨g', cap, cur, hv, hb, hblk, h1, h2, hsz, htk⟩⟩
  · cases hv
  · injection hv with hv1 hv2 hv3
    injection hv1 with hv1
    injection hv1 with hv1
    subst hv1 hv2 hv3
    have hkc : k < cur.size := by rw [hsz, hC]; omega
    refine ⟨xs.set k u, ⟨by rw [List.length_set, List.length_set, hl], .inr ⟨g, c, cur.setIfInBounds k u, by rw [List.length_set], hb, ?_, by rw [List.length_set]; exact h1, h2, by rw [Array.size_setIfInBounds, hsz], ?_⟩⟩, ?_⟩
    · simp [World.setCell, Array.getElem?_modify, hblk]
    · rw [Array.toList_setIfInBounds, List.take_set, List.length_set, htk]
    · refine ⟨by rw [List.length_set, List.length_set, he.1], fun i hi => ?_⟩
      rw [List.length_set] at hi
      have keep : ∀ (cs : List Value) (x : α), C.rd (fun b => M b ∨ b = g) w cs x → C.rd (fun b => M b ∨ (Value.slice (some ⟨g, 0, none⟩) l.length c).ownBlock = some b) (w.setCell ⟨g, k, none⟩ u) cs x := fun cs x hx => by
        have h3 := C.keep (w' := w.setCell ⟨g, k, none⟩ u) hx (fun b _ hn => Below.heap_setCell w ⟨g, k, none⟩ u b fun e => hn (.inr e)) (by simp)
        exact C.sub h3 fun b _ hor => hor.imp id fun ho => by simp only [Value.ownBlock, Option.some.injEq] at ho; exact ho.symm
      by_cases hik : i = k
      · subst hik
        rw [List.getElem_set_self]
        have : ((xs.set i u).drop (i * C.n)).take C.n = [u] := by
          apply List.ext_getElem?
          intro j
          rw [hC]
          simp only [List.getElem?_take, List.getElem?_drop, Nat.mul_one]
          rcases j with _ | j
          · simp [List.getElem?_set_self (show i < xs.length by omega)]
          · simp
        rw [this]
        exact keep _ _ hr
      · rw [List.getElem_set_ne (by omega)]
        have : ((xs.set k u).drop (i * C.n)).take C.n = (xs.drop (i * C.n)).take C.n := by
          apply List.ext_getElem?
          intro j
          rw [hC]
          simp only [List.getElem?_take, List.getElem?_drop, Nat.mul_one]
          split
          · rw [List.getElem?_set_ne (by omega)]
          · rfl
        rw [this]
        refine keep _ _ (C.sub (he.2 i hi) fun b _ hor => hor.imp id fun e => by rw [e]; rfl)
end Go.Proofs.Ytopldghfphgjoaa

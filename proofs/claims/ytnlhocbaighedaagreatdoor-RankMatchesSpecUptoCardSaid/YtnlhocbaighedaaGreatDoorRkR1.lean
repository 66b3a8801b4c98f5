/-
  The walk of RankMatchesSpec, as its row takes it.
-/
import Derived.Test.YtnlhocbaighedaaGreatDoorIxSh
import Derived.Test.YtnlhocbaighedaaGreatDoorR25
import Derived.Test.YtnlhocbaighedaaGreatDoorRkL1
namespace Go.Proofs.YtnlhocbaighedaaGreatDoor
open Go.RowKit
theorem lens_sum (ps : List Ix.Post) : (ps.map fun p => p.2.length).sum ≤ bkPosts ps := by
 unfold bkPosts
 induction ps with
 | nil => simp
 | cons p ps ih =>
  simp only [List.map_cons, List.sum_cons] at ih ⊢
  have : p.2.length ≤ bkPost p := by
   unfold bkPost bkInts
   have h : ∀ l : List Int, (l.map fun _ => 1).sum = l.length := fun l => by
    induction l with
    | nil => rfl
    | cons a l ih => simp only [List.map_cons, List.sum_cons, ih, List.length_cons]; omega
   rw [h]; omega
  omega
theorem cost_bulk (B : Nat) : ∀ ts : List Ix.Term, (∀ t ∈ ts, t.1.length + 1 ≤ B) → Sr.costT ts ≤ (ts.map bkTerm).sum * B
 | [], _ => by simp [Sr.costT]
 | t :: ts, h => by
  have ih := cost_bulk B ts fun x hx => h x (.tail _ hx)
  have h1 := h t (.head _)
  have h2 : Sr.costP t.1 t.2 ≤ bkTerm t * B := by
   rw [Sr.costP_sum]
   refine Nat.mul_le_mul ?_ h1
   have := lens_sum t.2
   unfold bkTerm
   omega
  show Sr.costP t.1 t.2 + Sr.costT ts ≤ (bkTerm t + (ts.map bkTerm).sum) * B
  rw [Nat.add_mul]
  omega
theorem terms_bulk {ts : List Ix.Term} {t : Ix.Term} (h : t ∈ ts) : bkTerm t ≤ (ts.map bkTerm).sum := by
 induction ts with
 | nil => cases h
 | cons a ts ih =>
  simp only [List.map_cons, List.sum_cons]
  rcases List.mem_cons.1 h with rfl | h
  ·omega
  ·have := ih h; omega
theorem ints_bulk (l : List Int) : l.length ≤ bkInts l := by
 have h : (l.map fun _ => 1).sum = l.length := by
  induction l with
  | nil => rfl
  | cons a l ih => simp only [List.map_cons, List.sum_cons, ih, List.length_cons]; omega
 unfold bkInts
 omega
theorem rmatch_row (a0 : Array Value) (x0 : Ix.Idx) (qa : Array Value) (f : Nat) (q : Q) (id : Int) (w : World) (h0 : idxC.rd M0 w (Value.agg a0).cells.toList x0) (hq : QAt f M0 w (.agg qa) q) (z0 : szIdx x0) (bx : bkIdx x0 ≤ 1048576) (bq : q.bulk ≤ 1048576) (hT : TabsU w) :
  Calls Tryz.prog 3 #[.agg a0, .agg qa, .int .i64 id] w fun e w' => e = .returned (.bool true) ∧ Below w.heap.size w w' := by
 obtain ⟨u, v, e, h1, h2⟩ := idx_of_rd h0
 rw [e]
 have hs : (x0.2.map bkTerm).sum ≤ 1048576 := by unfold bkIdx bkTerms at bx; omega
 have hw : ∀ t ∈ x0.2, t.1.length + 1 ≤ 1048576 := fun t ht => by
  have h1 := terms_bulk ht
  have h2 : t.1.length + 1 ≤ bkTerm t := by unfold bkTerm bkStr; omega
  omega
 have hc := cost_bulk 1048576 x0.2 hw
 have hi : x0.1.length ≤ 1048576 := by have := ints_bulk x0.1; unfold bkIdx at bx; omega
 exact rmatch_ok u v (.agg qa) x0.1 x0.2 f q id w h1 h2 hq (szIdx_sz z0) bq (by omega) (fun t ht => by have := hw t ht; omega) hi hT
end Go.Proofs.YtnlhocbaighedaaGreatDoor

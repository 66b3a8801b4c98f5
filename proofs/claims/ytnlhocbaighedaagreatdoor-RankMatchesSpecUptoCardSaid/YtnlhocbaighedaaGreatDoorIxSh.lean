/-
  What the indexes' rows take.
-/
import Derived.Test.YtnlhocbaighedaaGreatDoorR18
import Derived.Test.YtnlhocbaighedaaGreatDoorSmTab
import Derived.Test.YtnlhocbaighedaaGreatDoorR6
namespace Go.Proofs.YtnlhocbaighedaaGreatDoor
open Go.ChangeShapes Go.WideShapes Go.ChangeAt Go.RowKit
theorem rInt : ReadsS Tryz.prog 3 intC (fun _ => 1) (fun _ => True) := (reads_int Tryz.underlying3 (by kernel_rfl)).sized
def szInts (l : List Int) : Prop := l.length * Tryz.prog.bytesOf 3 ≤ reachBytes ∧ ∀ a ∈ l, True
def bkInts (l : List Int) : Nat := 1 + (l.map fun _ => 1).sum
theorem rInts : ReadsS Tryz.prog 22 (sliceC intC) bkInts szInts := readsS_slice rInt Tryz.underlying22 (by kernel_rfl)
def szPost (p : Ix.Post) : Prop := True ∧ szInts p.2
def bkPost (p : Ix.Post) : Nat := 1 + bkInts p.2
theorem rPost : ReadsS Tryz.prog 64 postC bkPost szPost := by
 refine readsS_struct2 (C := intC) (D := sliceC intC) (φ := fun _ => True) (ψ := szInts) (bc := fun _ => 1) (bd := bkInts) ?_ ?_ Tryz.underlying64 (by kernel_rfl) rfl rfl
 ·exact rInt
 ·exact rInts
def szPosts (l : List Ix.Post) : Prop := l.length * Tryz.prog.bytesOf 64 ≤ reachBytes ∧ ∀ a ∈ l, szPost a
def bkPosts (l : List Ix.Post) : Nat := 1 + (l.map bkPost).sum
theorem rPosts : ReadsS Tryz.prog 60 (sliceC postC) bkPosts szPosts := readsS_slice rPost Tryz.underlying60 (by kernel_rfl)
def szStr (s : Str) : Prop := s.length ≤ reachBytes
def bkStr (s : Str) : Nat := s.length + 1
theorem rStr : ReadsS Tryz.prog 9 strC bkStr szStr := readsS_string Tryz.underlying9 (by kernel_rfl)
def szTerm (t : Ix.Term) : Prop := szStr t.1 ∧ szPosts t.2
def bkTerm (t : Ix.Term) : Nat := bkStr t.1 + bkPosts t.2
theorem rTerm : ReadsS Tryz.prog 62 termC bkTerm szTerm := by
 refine readsS_struct2 (C := strC) (D := sliceC postC) (φ := szStr) (ψ := szPosts) (bc := bkStr) (bd := bkPosts) ?_ ?_ Tryz.underlying62 (by kernel_rfl) rfl rfl
 ·exact rStr
 ·exact rPosts
def szTerms (l : List Ix.Term) : Prop := l.length * Tryz.prog.bytesOf 62 ≤ reachBytes ∧ ∀ a ∈ l, szTerm a
def bkTerms (l : List Ix.Term) : Nat := 1 + (l.map bkTerm).sum
theorem rTerms : ReadsS Tryz.prog 23 (sliceC termC) bkTerms szTerms := readsS_slice rTerm Tryz.underlying23 (by kernel_rfl)
def idxC : Codec Ix.Idx := pairC (sliceC intC) (sliceC termC)
def szIdx (x : Ix.Idx) : Prop := szInts x.1 ∧ szTerms x.2
def bkIdx (x : Ix.Idx) : Nat := bkInts x.1 + bkTerms x.2
theorem rIdx : ReadsS Tryz.prog 25 idxC bkIdx szIdx := by
 refine readsS_struct2 (C := sliceC intC) (D := sliceC termC) (φ := szInts) (ψ := szTerms) (bc := bkInts) (bd := bkTerms) ?_ ?_ Tryz.underlying25 (by kernel_rfl) rfl rfl
 ·exact rInts
 ·exact rTerms
theorem szIdx_sz {x : Ix.Idx} (h : szIdx x) : SzIx x.2 := fun t ht => by
 have h1 := (h.2.2 t ht).2.1
 rw [(by kernel_rfl : Tryz.prog.bytesOf 64 = 32)] at h1
 unfold reachBytes at h1
 omega
theorem idx_of_rd {M : Nat → Prop} {w : World} {a : Array Value} {x : Ix.Idx} (h : idxC.rd M w (Value.agg a).cells.toList x) : ∃ u v, Value.agg a = .agg #[u, v] ∧ SlR intC M w u x.1 ∧ SlR termC M w v x.2 := by
 obtain ⟨c, d, e, ⟨u, rfl, hu⟩, v, rfl, hv⟩ := h
 refine ⟨u, v, ?_, hu, hv⟩
 have h1 : a.toList = [u, v] := e
 rw [← Array.toArray_toList (xs := a), h1]
end Go.Proofs.YtnlhocbaighedaaGreatDoor

/-
  The closure that orders, in the worlds of a sort.
-/
import Derived.Test.YtclobnojpmgmaaaThH
import Derived.Test.YtclobnojpmgmaaaThK
import Derived.Shelf.SlSortCmp.Kit1
import Derived.Sort.OwnSortedInts
namespace Go.Proofs.Ytclobnojpmgmaaa
open Go.RowKit Go.Shelf Go.Lib Go.Sort
set_option linter.unusedVariables false
theorem sort_size {α : Type} [Inhabited α] (enc : α → Value) (w : World) (r off m : Nat) (dk : Array α) (os : Array Obj) : w.heap.size ≤ (sortWorld enc w r off m dk os).heap.size := by
  unfold sortWorld
  simp [grow]
theorem sort_keep {α : Type} [Inhabited α] (enc : α → Value) (w : World) (r off m : Nat) (dk : Array α) (os : Array Obj) (k : Nat) (hk : k < w.heap.size) (hne : k ≠ r) : (sortWorld enc w r off m dk os).heap[k]? = w.heap[k]? := by
  unfold sortWorld
  rw [heap_grow_old _ _ (by simpa using hk)]
  have : r ≠ k := fun e => hne e.symm
  simp [putRow, mapBlock, Sort.ahead, Array.getElem?_modify, this]
def encI {n : Nat} (i : Fin n) : Value := .int .i64 (i.1 : Int)
def cfL (l : List Letter) (a b : Fin l.length) : Int := Th.ordF l[a] l[b]
theorem byOrder_lays (l : List Letter) [Inhabited (Fin l.length)] (A : Option Addr) (c q r off size : Nat) (w : World) (h : SlR letterC (fun b => b = r) w (.slice A l.length c) l) (hq : w.cell? ⟨q, 0, none⟩ = some (.slice A l.length c)) (hqr : q ≠ r) (hn : l.length ≤ 4000000) :
    CmpLays1 Try.prog 29 #[.pointer (some ⟨q, 0, none⟩)] (encI (n := l.length)) (cfL l) r off size w := by
  intro m os dk hs x y
  have h2 := (h.keep (fun b hb hne => sort_keep (encI (n := l.length)) w r off m dk os b hb hne) (sort_size _ _ _ _ _ _ _)).zero
  have hq2 : (sortWorld (encI (n := l.length)) w r off m dk os).cell? ⟨q, 0, none⟩ = some (.slice A l.length c) := by
    have := sort_keep (encI (n := l.length)) w r off m dk os q (World.block_lt_of_cell? w _ hq) hqr
    rw [← hq]
    unfold World.cell?
    rw [this]
  exact (byOrder_ok l A c q x.1 y.1 _ h2 hq2 hn x.2 y.2).mono fun e w' ⟨he, hg⟩ => ⟨he, by obtain ⟨q', os', rfl⟩ := hg; exact ⟨q', os', rfl⟩⟩
theorem ltL (l : List Letter) (a b : Fin l.length) : ltOf (cfL l) a b = Th.earlier l[a] l[b] := Th.ord_lt _ _
theorem swoL (l : List Letter) : SWO (ltOf (cfL l)) where
  irrefl x := by rw [ltL]; exact Th.earlier_irrefl _
  trans x y z h1 h2 := by rw [ltL] at *; exact Th.earlier_trans _ _ _ h1 h2
  ntrans x y z h1 h2 := by rw [ltL] at *; exact Th.earlier_ntrans _ _ _ h1 h2
theorem totL {l : List Letter} (hd : Distinct l) (x y : Fin l.length) (h1 : ltOf (cfL l) x y = false) (h2 : ltOf (cfL l) y x = false) : x = y := by
  rw [ltL] at h1 h2
  exact Fin.ext (hd x.1 y.1 x.2 y.2 (Th.earlier_total _ _ h1 h2))
end Go.Proofs.Ytclobnojpmgmaaa

/-
  Contracts and plain facts, one after another: Ints of the reference; the closures of shown; The closure that orders the answers of one letter; The order of letters; the kids of a letter; the answers shown; The closure that orders, in the worlds of a sort; slices.SortFunc at the answers of one letter; The kids of a letter are later than it: the answers end; The sorted rows, as rows of ints; The children map of shown: rows of its own behind the keys.
-/
import Derived.Test.YtjamjkjmlckgeaaGreatDoorF31
import Derived.Test.YtjamjkjmlckgeaaGreatDoorShelf2
import Derived.Deep.QuietTactic
import Derived.BigQuiet
import Derived.Shelf.SlSortCmp.Kit1
import Derived.Sort.OwnSortedInts
namespace Go.Proofs.YtjamjkjmlckgeaaGreatDoor
open Go.RowKit
set_option linter.unusedVariables false
theorem take_get_i {α : Type} (l : List α) (k : Nat) (h : k < l.length) : l.take (k + 1) = l.take k ++ [l[k]] := List.take_succ_eq_append_getElem h

end Go.Proofs.YtjamjkjmlckgeaaGreatDoor
namespace Go.Proofs.YtjamjkjmlckgeaaGreatDoor
open Go.RowKit
set_option linter.unusedVariables false
set_option maxRecDepth 100000 in
set_option maxHeartbeats 2000000 in
theorem byOrder_ok (l : List Letter) (A : Option Addr) (c q : Nat) (a b : Nat) (w : World) (h : SlR letterC M0 w (.slice A l.length c) l) (hq : w.cell? ⟨q, 0, none⟩ = some (.slice A l.length c)) (hn : l.length ≤ 4000000) (ha : a < l.length) (hb : b < l.length) :
    Calls Tryz.prog 76 #[.int .i64 (a : Int), .int .i64 (b : Int), .pointer (some ⟨q, 0, none⟩)] w fun e w' => e = .returned (.int .i64 (Th.ordF l[a] l[b])) ∧ Grew w w' := by
  obtain ⟨hlc, hcm⟩ := h.lenM
  obtain ⟨bb, off, A2, c2, rfl, _, _, p0, p1, p2, _, _, _, _⟩ := h.letterAt ha
  obtain ⟨bb2, off2, A3, c3, hA, _, _, r0, r1, r2, _, _, _, _⟩ := h.letterAt hb
  injection hA with hA
  injection hA with hA1 hA2
  subst hA1 hA2
  have hoc := fun W => order_grew l[a] l[b] (.slice A2 l[a].2.1.length c2) (.slice A3 l[b].2.1.length c3) W
  unfold letV at hoc
  obtain ⟨o, ho⟩ : ∃ o, Th.ordF l[a] l[b] = o := ⟨_, rfl⟩
  rw [ho] at hoc ⊢
  obtain ⟨x, hx⟩ : ∃ x, l[a] = x := ⟨_, rfl⟩
  obtain ⟨y, hy⟩ : ∃ y, l[b] = y := ⟨_, rfl⟩
  rw [hx] at p0 p1 p2 hoc
  rw [hy] at r0 r1 r2 hoc
  obtain ⟨id, rs, ta⟩ := x
  obtain ⟨yi, yr, yt⟩ := y
  dsimp only at p0 p1 p2 r0 r1 r2 hoc
  have Hoc := Lib.hid hoc
  have ha' : (a : Int) < (l.length : Int) := by omega
  have ha0 : (0 : Int) ≤ (a : Int) := by omega
  have haw : IntKind.i64.wrap (a : Int) = (a : Int) := IntWalk.i64_in _ (by omega)
  have hb' : (b : Int) < (l.length : Int) := by omega
  have hb0 : (0 : Int) ≤ (b : Int) := by omega
  have hbw : IntKind.i64.wrap (b : Int) = (b : Int) := IntWalk.i64_in _ (by omega)
  have hS : ∀ W, Below w.heap.size w W → W.cell? ⟨bb, off + a * 3, none⟩ = some (.string (bs id)) ∧ W.cell? ⟨bb, off + a * 3 + 1, none⟩ = some (.slice A2 rs.length c2) ∧ W.cell? ⟨bb, off + a * 3 + 2, none⟩ = some (.int .i64 ta) ∧ W.cell? ⟨bb, off + b * 3, none⟩ = some (.string (bs yi)) ∧ W.cell? ⟨bb, off + b * 3 + 1, none⟩ = some (.slice A3 yr.length c3) ∧ W.cell? ⟨bb, off + b * 3 + 2, none⟩ = some (.int .i64 yt) ∧ W.cell? ⟨q, 0, none⟩ = some (.slice (some ⟨bb, off, none⟩) l.length c) := fun W hW => ⟨cell_ext hW p0, cell_ext hW p1, cell_ext hW p2, cell_ext hW r0, cell_ext hW r1, cell_ext hW r2, cell_ext hW hq⟩
  have HS := Lib.hid hS
  have hS0 := HS.out _ (below_drewN' w.heap.size w 1)
  clear hoc ho hS hx hy
  go_enter Tryz.func76, Tryz.ntmps76
  go_wp2
  go_region_held3 (fun W => W.cell? ⟨bb, off + a * 3, none⟩ = some (.string (bs id)) ∧ W.cell? ⟨bb, off + a * 3 + 1, none⟩ = some (.slice A2 rs.length c2) ∧ W.cell? ⟨bb, off + a * 3 + 2, none⟩ = some (.int .i64 ta) ∧ W.cell? ⟨bb, off + b * 3, none⟩ = some (.string (bs yi)) ∧ W.cell? ⟨bb, off + b * 3 + 1, none⟩ = some (.slice A3 yr.length c3) ∧ W.cell? ⟨bb, off + b * 3 + 2, none⟩ = some (.int .i64 yt) ∧ W.cell? ⟨q, 0, none⟩ = some (.slice (some ⟨bb, off, none⟩) l.length c)) (first | exact hS0 | exact hS2) ((go_at_call 77; refine (Hoc.out _).mono ?_; rintro e w2 ⟨rfl, hb2⟩; have hg12 : Grew w w2 := (Grew.drewN w 1).trans hb2; have hS2 := HS.out _ hg12.below))
  go_wp2
  go_ret
  exact ⟨rfl, hg12⟩
theorem shown_ok (A : Option Addr) (n c : Nat) (w : World) : Calls Tryz.prog 38 #[.slice A n c] w fun e w' => e = .returned (.func (.func 73) #[] #[.pointer (some ⟨w.heap.size, 0, none⟩)]) ∧ w' = w.alloc (.cells #[.slice A n c] 57) := by
  go_enter Tryz.func38, Tryz.ntmps38
  go_wp2
  go_ret
  exact ⟨rfl, rfl⟩
end Go.Proofs.YtjamjkjmlckgeaaGreatDoor
namespace Go.Proofs.YtjamjkjmlckgeaaGreatDoor
namespace Th
theorem earlier_irrefl (x : Letter) : earlier x x = false := by
  unfold earlier
  simp [ltS_irrefl]
theorem earlier_iff (x y : Letter) : earlier x y = true ↔ x.2.2 < y.2.2 ∨ (x.2.2 = y.2.2 ∧ ltS x.1 y.1 = true) := by
  unfold earlier; simp
theorem earlier_not (x y : Letter) : earlier x y = false ↔ y.2.2 < x.2.2 ∨ (x.2.2 = y.2.2 ∧ ltS x.1 y.1 = false) := by
  rw [← Bool.not_eq_true, earlier_iff]
  cases h : ltS x.1 y.1 <;> simp <;> omega
theorem earlier_trans (x y z : Letter) (h1 : earlier x y = true) (h2 : earlier y z = true) : earlier x z = true := by
  rw [earlier_iff] at *
  rcases h1 with h1 | ⟨h1, h3⟩ <;> rcases h2 with h2 | ⟨h2, h4⟩
  · left; omega
  · left; omega
  · left; omega
  · right; exact ⟨by omega, ltS_trans h3 h4⟩
theorem earlier_total (x y : Letter) (h1 : earlier x y = false) (h2 : earlier y x = false) : x.1 = y.1 := by
  rw [earlier_not] at *
  rcases ltS_total x.1 y.1 with h | h | h
  · rcases h1 with h1 | ⟨h1, h3⟩
    · rcases h2 with h2 | ⟨h2, h4⟩ <;> omega
    · rw [h] at h3; cases h3
  · exact h
  · rcases h2 with h2 | ⟨h2, h4⟩
    · rcases h1 with h1 | ⟨h1, h3⟩ <;> omega
    · rw [h] at h4; cases h4
theorem earlier_ntrans (x y z : Letter) (h1 : earlier x y = false) (h2 : earlier y z = false) : earlier x z = false := by
  rw [earlier_not] at *
  rcases h1 with h1 | ⟨h1, h3⟩ <;> rcases h2 with h2 | ⟨h2, h4⟩
  · left; omega
  · left; omega
  · left; omega
  · right
    refine ⟨by omega, ?_⟩
    cases h : ltS x.1 z.1 with
    | false => rfl
    | true =>
      rcases ltS_total x.1 y.1 with h5 | h5 | h5
      · rw [h5] at h3; cases h3
      · rw [h5] at h; rw [h] at h4; cases h4
      · rw [ltS_trans h5 h] at h4; cases h4
/-- the kids of a place (-1: the roots), in rising order of their places -/
def kids (l : List Letter) (p : Int) : List Nat := (List.range l.length).filter fun k => (parentsF l)[k]? == some p
def later (l : List Letter) (a b : Nat) : Bool := match l[a]?, l[b]? with
  | some x, some y => earlier x y
  | _, _ => false
/-- the kids as they are shown -/
def kidsS (l : List Letter) (p : Int) : List Nat := (kids l p).mergeSort fun a b => !later l b a
def shownF (l : List Letter) : Nat → Int → Int → List (Nat × Int)
  | 0, _, _ => []
  | f + 1, p, d => (kidsS l p).flatMap fun k => (k, d) :: shownF l f (k : Int) (d + 1)
end Th
end Go.Proofs.YtjamjkjmlckgeaaGreatDoor
namespace Go.Proofs.YtjamjkjmlckgeaaGreatDoor
open Go.RowKit Go.Shelf Go.Lib Go.Sort
set_option linter.unusedVariables false
theorem sort_size {α : Type} [Inhabited α] (enc : α → Value) (w : World) (r off m : Nat) (dk : Array α) (os : Array Obj) : w.heap.size ≤ (sortWorld enc w r off m dk os).heap.size := by
  unfold sortWorld
  simp [grow]
theorem sort_keep {α : Type} [Inhabited α] (enc : α → Value) (w : World) (r off m : Nat) (dk : Array α) (os : Array Obj) (k : Nat) (hk : k < w.heap.size) (hne : k ≠ r) : (sortWorld enc w r off m dk os).heap[k]? = w.heap[k]? := by
  unfold sortWorld
  rw [heap_grow_old _ _ (by simpa using hk)]
  have : r ≠ k := fun e => hne e.symm
  simp [putRow, mapBlock, Sort.ahead, Array.getElem?_modify, this]
def encI {n : Nat} (i : Fin n) : Value := .int .i64 (i.1 : Int)
def cfL (l : List Letter) (a b : Fin l.length) : Int := Th.ordF l[a] l[b]
theorem byOrder_lays (l : List Letter) [Inhabited (Fin l.length)] (A : Option Addr) (c q r off size : Nat) (w : World) (h : SlR letterC (fun b => b = r) w (.slice A l.length c) l) (hq : w.cell? ⟨q, 0, none⟩ = some (.slice A l.length c)) (hqr : q ≠ r) (hn : l.length ≤ 4000000) :
    CmpLays1 Tryz.prog 76 #[.pointer (some ⟨q, 0, none⟩)] (encI (n := l.length)) (cfL l) r off size w := by
  intro m os dk hs x y
  have h2 := (h.keep (fun b hb hne => sort_keep (encI (n := l.length)) w r off m dk os b hb hne) (sort_size _ _ _ _ _ _ _)).zero
  have hq2 : (sortWorld (encI (n := l.length)) w r off m dk os).cell? ⟨q, 0, none⟩ = some (.slice A l.length c) := by
    have := sort_keep (encI (n := l.length)) w r off m dk os q (World.block_lt_of_cell? w _ hq) hqr
    rw [← hq]
    unfold World.cell?
    rw [this]
  exact (byOrder_ok l A c q x.1 y.1 _ h2 hq2 hn x.2 y.2).mono fun e w' ⟨he, hg⟩ => ⟨he, by obtain ⟨q', os', rfl⟩ := hg; exact ⟨q', os', rfl⟩⟩
theorem ltL (l : List Letter) (a b : Fin l.length) : ltOf (cfL l) a b = Th.earlier l[a] l[b] := Th.ord_lt _ _
theorem swoL (l : List Letter) : SWO (ltOf (cfL l)) where
  irrefl x := by rw [ltL]; exact Th.earlier_irrefl _
  trans x y z h1 h2 := by rw [ltL] at *; exact Th.earlier_trans _ _ _ h1 h2
  ntrans x y z h1 h2 := by rw [ltL] at *; exact Th.earlier_ntrans _ _ _ h1 h2
theorem totL {l : List Letter} (hd : Distinct l) (x y : Fin l.length) (h1 : ltOf (cfL l) x y = false) (h2 : ltOf (cfL l) y x = false) : x = y := by
  rw [ltL] at h1 h2
  exact Fin.ext (hd x.1 y.1 x.2 y.2 (Th.earlier_total _ _ h1 h2))
end Go.Proofs.YtjamjkjmlckgeaaGreatDoor
namespace Go.Proofs.YtjamjkjmlckgeaaGreatDoor
open Go.RowKit Go.Shelf Go.Lib Go.Sort
set_option linter.unusedVariables false
theorem sortF_ok (l : List Letter) (hd : Distinct l) [Inhabited (Fin l.length)] (A : Option Addr) (c q r cap : Nat) (d : Array (Fin l.length)) (w : World) (h : SlR letterC (fun b => b = r) w (.slice A l.length c) l) (hq : w.cell? ⟨q, 0, none⟩ = some (.slice A l.length c)) (hqr : q ≠ r) (hn : l.length ≤ 4000000)
    (hH : Holds (encI (n := l.length)) w r 0 d) (hr : r < w.heap.size) (hsz : d.size < 4611686018427387904) :
    Calls Tryz.prog 75 #[.slice (some ⟨r, 0, none⟩) d.size cap, .func (.func 76) #[] #[.pointer (some ⟨q, 0, none⟩)]] w fun e w' =>
      e = .returned (.tuple #[]) ∧ ∃ n os, w' = sortWorld (encI (n := l.length)) w r 0 n (d.toList.mergeSort fun x y => !(ltOf (cfL l)) y x).toArray os := by
  have eg : ∀ args w, (callFunc 76 args).run Tryz.prog w = .ok (.enter 76 args) w := enters_of Tryz.func76 (by kernel_rfl) rfl
  exact Tryz.slices_SortFunc_total (encI (n := l.length)) (fun _ => rfl) (cfL l) (swoL l) 76 #[.pointer (some ⟨q, 0, none⟩)] r 0 cap d w eg (byOrder_lays l A c q r 0 d.size w h hq hqr hn) hH hr hsz (totL hd)
theorem sortF_none (p : Option Addr) (cap : Nat) (fv : Value) (w : World) : Calls Tryz.prog 75 #[.slice p 0 cap, fv] w fun e w' => e = .returned (.tuple #[]) ∧ w' = w :=
  Tryz.slices_SortFunc_none (α := Int) p cap fv w
end Go.Proofs.YtjamjkjmlckgeaaGreatDoor
namespace Go.Proofs.YtjamjkjmlckgeaaGreatDoor
set_option linter.unusedVariables false
namespace Th
theorem cnt_le (p q : Nat → Bool) : ∀ L : List Nat, (∀ x ∈ L, p x = true → q x = true) → (L.filter p).length ≤ (L.filter q).length
  | [], _ => Nat.le_refl _
  | x :: L, h => by
    have ih := cnt_le p q L fun y hy => h y (List.mem_cons_of_mem _ hy)
    have hx := h x List.mem_cons_self
    rw [List.filter_cons, List.filter_cons]
    cases hp : p x with
    | true => rw [hx hp]; simpa using ih
    | false => cases q x <;> simp <;> omega
theorem cnt_lt (p q : Nat → Bool) : ∀ L : List Nat, (∀ x ∈ L, p x = true → q x = true) → (∃ x ∈ L, p x = false ∧ q x = true) → (L.filter p).length < (L.filter q).length
  | [], _, ⟨x, hx, _⟩ => by cases hx
  | x :: L, h, ⟨y, hy, hpy, hqy⟩ => by
    have hL := fun z (hz : z ∈ L) => h z (List.mem_cons_of_mem _ hz)
    have hx := h x List.mem_cons_self
    have hle := cnt_le p q L hL
    rw [List.filter_cons, List.filter_cons]
    rcases List.mem_cons.1 hy with e | e
    · subst e
      rw [hpy, hqy]; simp; omega
    · have ih := cnt_lt p q L hL ⟨y, e, hpy, hqy⟩
      cases hp : p x with
      | true => rw [hx hp]; simpa using ih
      | false => cases q x <;> simp <;> omega
def rank (l : List Letter) (k : Nat) : Nat := ((List.range l.length).filter fun j => later l k j).length
theorem rank_lt (l : List Letter) (a b : Nat) (ha : a < l.length) (hb : b < l.length) (h : earlier l[a] l[b] = true) : rank l b < rank l a := by
  refine cnt_lt _ _ _ (fun x hx hp => ?_) ⟨b, List.mem_range.2 hb, ?_, ?_⟩
  · have hxl := List.mem_range.1 hx
    unfold later at hp ⊢
    rw [List.getElem?_eq_getElem hb, List.getElem?_eq_getElem hxl] at hp
    rw [List.getElem?_eq_getElem ha, List.getElem?_eq_getElem hxl]
    exact earlier_trans _ _ _ h hp
  · unfold later
    rw [List.getElem?_eq_getElem hb]
    exact earlier_irrefl _
  · unfold later
    rw [List.getElem?_eq_getElem ha, List.getElem?_eq_getElem hb]
    exact h
theorem rank_le (l : List Letter) (k : Nat) : rank l k ≤ l.length := by
  unfold rank
  exact Nat.le_trans (List.length_filter_le _ _) (by simp)
end Th
theorem parent_hits {l : List Letter} (hd : Distinct l) (x : Letter) (p : Nat) (h : Th.parentOf l x = (p : Int)) : ∃ (hp : p < l.length), Th.earlier l[p] x = true := by
  rw [← parTo_all] at h
  rcases parTo_last l x x.2.1.length (Nat.le_refl _) with ⟨h1, _⟩ | ⟨r, k, hr, _, h2, h3, _⟩
  · rw [h1] at h; omega
  · obtain ⟨hk, _, _, he⟩ := (refTo_hits hd x r k hr).1 h2
    rw [h3] at h
    have : k = p := by omega
    subst this
    exact ⟨hk, he⟩
theorem kid_later {l : List Letter} (hd : Distinct l) (p k : Nat) (h : k ∈ Th.kids l (p : Int)) : ∃ (hp : p < l.length) (hk : k < l.length), Th.earlier l[p] l[k] = true := by
  unfold Th.kids at h
  obtain ⟨h1, h2⟩ := List.mem_filter.1 h
  have hk := List.mem_range.1 h1
  unfold Th.parentsF at h2
  rw [List.getElem?_map, List.getElem?_eq_getElem hk, Option.map_some] at h2
  have h3 : Th.parentOf l l[k] = (p : Int) := by simpa using h2
  obtain ⟨hp, he⟩ := parent_hits hd l[k] p h3
  exact ⟨hp, hk, he⟩
theorem kidsS_mem (l : List Letter) (p : Int) (k : Nat) : k ∈ Th.kidsS l p ↔ k ∈ Th.kids l p := List.mem_mergeSort
theorem shownF_fuel {l : List Letter} (hd : Distinct l) : ∀ (f f' p : Nat) (d : Int) (hp : p < l.length), Th.rank l p < f → Th.rank l p < f' → Th.shownF l f (p : Int) d = Th.shownF l f' (p : Int) d
  | 0, _, _, _, _, h, _ => by omega
  | _ + 1, 0, _, _, _, _, h => by omega
  | f + 1, f' + 1, p, d, hp, h1, h2 => by
    rw [Th.shownF, Th.shownF, List.flatMap_def, List.flatMap_def]
    congr 1
    refine List.map_congr_left fun k hk => ?_
    obtain ⟨_, hkl, he⟩ := kid_later hd p k ((kidsS_mem l p k).1 hk)
    have := Th.rank_lt l p k hp hkl he
    rw [shownF_fuel hd f f' k (d + 1) hkl (by omega) (by omega)]
/-- all answers -/
def Th.shownA (l : List Letter) (p d : Int) : List (Nat × Int) := Th.shownF l (l.length + 2) p d
theorem shownA_eq {l : List Letter} (hd : Distinct l) (p d : Int) (hp : p < 0 ∨ ∃ k : Nat, p = k ∧ k < l.length) : Th.shownA l p d = (Th.kidsS l p).flatMap fun k => (k, d) :: Th.shownA l (k : Int) (d + 1) := by
  unfold Th.shownA
  rw [Th.shownF, List.flatMap_def, List.flatMap_def]
  congr 1
  refine List.map_congr_left fun k hk => ?_
  have hkl : k < l.length := by
    have := (kidsS_mem l p k).1 hk
    unfold Th.kids at this
    exact List.mem_range.1 (List.mem_filter.1 this).1
  have := Th.rank_le l k
  rw [shownF_fuel hd (l.length + 1) (l.length + 2) k (d + 1) hkl (by omega) (by omega)]
/-- the kids among the first k, of a row of parents: what the children map holds -/
def Th.kidsTo (P : List Int) (k : Nat) (s : Int) : List Nat := (List.range k).filter fun j => P[j]? == some s
theorem kidsTo_succ (P : List Int) (k : Nat) (s : Int) : Th.kidsTo P (k + 1) s = Th.kidsTo P k s ++ (if P[k]? == some s then [k] else []) := by
  unfold Th.kidsTo
  rw [List.range_succ, List.filter_append]
  congr 1
  rw [List.filter_cons]
  rfl
theorem kidsTo_all (l : List Letter) (s : Int) : Th.kidsTo (Th.parentsF l) l.length s = Th.kids l s := rfl
theorem kidsTo_len (P : List Int) (k : Nat) (s : Int) : (Th.kidsTo P k s).length ≤ k := by
  unfold Th.kidsTo
  exact Nat.le_trans (List.length_filter_le _ _) (by simp)
theorem kidsTo_mem (P : List Int) (k : Nat) (s : Int) (j : Nat) (h : j ∈ Th.kidsTo P k s) : j < k := List.mem_range.1 (List.mem_filter.1 h).1
end Go.Proofs.YtjamjkjmlckgeaaGreatDoor
namespace Go.Proofs.YtjamjkjmlckgeaaGreatDoor
open Go.RowKit Go.Shelf Go.Lib Go.Sort
set_option linter.unusedVariables false
theorem putRow_encI {n : Nat} [Inhabited (Fin n)] (w : World) (g : Nat) (D : Array (Fin n)) : putRow (encI (n := n)) w g 0 D = putRow (Value.int .i64) w g 0 (D.map fun i => (i.1 : Int)) := by
  unfold putRow
  congr 1
  funext c
  unfold putCells
  congr 1
  funext k x
  rw [Array.size_map]
  by_cases h : 0 ≤ k ∧ k < 0 + D.size
  · rw [if_pos h, if_pos h]
    have hk : k - 0 < D.size := by omega
    rw [getElem!_pos D _ hk, getElem!_pos _ _ (by simpa using hk)]
    simp [encI]
  · rw [if_neg h, if_neg h]
theorem sorted_map {l : List Letter} (d : List (Fin l.length)) : (d.mergeSort fun x y => !(ltOf (cfL l)) y x).map (fun i => i.1) = (d.map fun i => i.1).mergeSort fun a b => !Th.later l b a := by
  refine List.map_mergeSort fun a _ b _ => ?_
  rw [ltL]
  unfold Th.later
  rw [List.getElem?_eq_getElem a.2, List.getElem?_eq_getElem b.2]
  rfl
theorem pmap_fst {n : Nat} (ks : List Nat) (h : ∀ k ∈ ks, k < n) : (ks.pmap (fun k hk => (⟨k, hk⟩ : Fin n)) h).map (fun i => i.1) = ks := by
  rw [List.map_pmap]
  simp
/-- the sorted row of the kids does not depend on the order in which they lay -/
theorem kidsS_perm {l : List Letter} (hd : Distinct l) {p : Int} {ks : List Nat} (hp : ks.Perm (Th.kids l p)) : (ks.mergeSort fun a b => !Th.later l b a) = Th.kidsS l p := by
  have hk : ∀ k ∈ Th.kids l p, k < l.length := fun k hk => List.mem_range.1 (List.mem_filter.1 hk).1
  have hks : ∀ k ∈ ks, k < l.length := fun k h => hk k (hp.mem_iff.1 h)
  unfold Th.kidsS
  rw [← pmap_fst ks hks, ← pmap_fst (Th.kids l p) hk, ← sorted_map, ← sorted_map]
  congr 1
  have tr : ∀ a b c : Fin l.length, (!(ltOf (cfL l)) b a) = true → (!(ltOf (cfL l)) c b) = true → (!(ltOf (cfL l)) c a) = true := by
    intro a b c h1 h2
    have h3 : ltOf (cfL l) b a = false := by simpa using h1
    have h4 : ltOf (cfL l) c b = false := by simpa using h2
    have h5 := (swoL l).ntrans _ _ _ h4 h3
    simp [h5]
  have tot : ∀ a b : Fin l.length, ((!(ltOf (cfL l)) b a) || (!(ltOf (cfL l)) a b)) = true := by
    intro a b
    cases h1 : ltOf (cfL l) b a with
    | false => simp
    | true =>
      cases h2 : ltOf (cfL l) a b with
      | false => simp
      | true =>
        have h3 := (swoL l).trans _ _ _ h1 h2
        rw [(swoL l).irrefl] at h3
        cases h3
  refine List.Perm.eq_of_pairwise (le := fun a b => (!(ltOf (cfL l)) b a) = true) (fun a b _ _ h1 h2 => ?_) (List.pairwise_mergeSort tr tot _) (List.pairwise_mergeSort tr tot _) ?_
  · exact totL hd a b (by simpa using h2) (by simpa using h1)
  · exact (List.mergeSort_perm _ _).trans ((hp.pmap _).trans (List.mergeSort_perm _ _).symm)
end Go.Proofs.YtjamjkjmlckgeaaGreatDoor
namespace Go.Proofs.YtjamjkjmlckgeaaGreatDoor
open Go.RowKit
set_option linter.unusedVariables false
def intK (s : Int) : Value := .int .i64 s
theorem intK_inj : ∀ a b : Int, intK a = intK b → a = b := by
  intro a b h
  unfold intK at h
  injection h
/-- what the map holds behind k letters: for each parent a row of its own -/
structure KidRows (P : List Int) (k : Nat) (B : Nat) (w : World) (m : Int → Option Value) : Prop where
  miss : ∀ s, Th.kidsTo P k s = [] → m s = none
  row : ∀ s, Th.kidsTo P k s ≠ [] → ∃ v, m s = some v ∧ Own intC M0 w B 3 v ((Th.kidsTo P k s).map fun (j : Nat) => (j : Int))
  apart : ∀ s s' v v', m s = some v → m s' = some v' → s ≠ s' → ∀ b, v.ownBlock = some b → v'.ownBlock ≠ some b
theorem KidRows.start (P : List Int) (B : Nat) (w : World) : KidRows P 0 B w fun _ => none :=
  ⟨fun _ _ => rfl, fun s h => absurd rfl h, fun s s' v v' h => by cases h⟩
theorem KidRows.ext {P : List Int} {k B : Nat} {w w' : World} {m : Int → Option Value} (h : KidRows P k B w m) (hb : Below w.heap.size w w') : KidRows P k B w' m :=
  ⟨h.miss, fun s hs => by obtain ⟨v, h1, h2⟩ := h.row s hs; exact ⟨v, h1, h2.ext hb⟩, h.apart⟩
theorem intK_key (a : Int) : Go.MapKept.IsKey (.int .i64) (intK a) := by simp [intK, Go.MapKept.IsKey]
theorem zero_ints (w : World) : (zeroValue 54).run Tryz.prog w = .ok (.slice none 0 0) w := by kernel_rfl
/-- looking up the rows of a parent -/
theorem kid_look {P : List Int} {k B b : Nat} {w : World} {m : Int → Option Value} (h : KidRows P k B w m) (hm : MapAt (.int .i64) intK w b m) (s : Int) (ty : TypeId) (hty : ty = 146) :
    ∃ v, (Instr.lookup ty (.map (some b)) (.int .i64 s) false).run Tryz.prog w = .ok v w ∧ Own intC M0 w B 3 v ((Th.kidsTo P k s).map fun (j : Nat) => (j : Int)) := by
  subst hty
  by_cases hs : Th.kidsTo P k s = []
  · refine ⟨.slice none 0 0, hm.look_none Tryz.underlying146 Tryz.underlying3 (zero_ints w) (k := s) (h.miss s hs) false, ?_⟩
    rw [hs]
    exact Own.nil _ _ _ _ _
  · obtain ⟨v, h1, h2⟩ := h.row s hs
    exact ⟨v, hm.look_some Tryz.underlying146 Tryz.underlying3 (k := s) h1 false, h2⟩
end Go.Proofs.YtjamjkjmlckgeaaGreatDoor

/-
  Contracts and plain facts, one after another: Sorting and compacting a row of texts that a call made; slices.Sorted of an iterator of texts; rank.stems; rank.counted.
-/
import Derived.Test.YtiohhajkegpebaaGreatDoorR20
import Derived.Test.YtiohhajkegpebaaGreatDoorR21
import Derived.Test.YtiohhajkegpebaaGreatDoorShelf2
import Derived.Test.YtiohhajkegpebaaGreatDoorQyNd
import Derived.Sort.OwnSorted
import Derived.Lib.OwnBridge
import Derived.Below
namespace Go.Proofs.YtiohhajkegpebaaGreatDoor
open Go.RowKit Go.Sort Go.Lib
set_option linter.unusedVariables false
namespace Rk
/-- the stems sorted, each once -/
def sortF (l : List Str) : List Str := l.mergeSort fun x y => decide (x ≤ y)
def countF (l : List Str) : List Str := Lib.compact (sortF l)
theorem sort_len (l : List Str) : (sortF l).length = l.length := List.length_mergeSort _
theorem sort_mem {l : List Str} {x : Str} : x ∈ sortF l ↔ x ∈ l := List.mem_mergeSort
theorem compact_mem {l : List Str} {x : Str} (h : x ∈ Lib.compact l) : x ∈ l := by
  unfold Lib.compact Lib.compactUpTo at h
  obtain ⟨j, hj, rfl⟩ := List.mem_map.1 h
  have hj2 : j < l.length := List.mem_range.1 (List.mem_filter.1 hj).1
  simp [hj2]
theorem compact_len (l : List Str) : (Lib.compact l).length ≤ l.length := by
  unfold Lib.compact Lib.compactUpTo
  rw [List.length_map]
  exact Nat.le_trans (List.length_filter_le _ _) (by simp)
theorem count_one (s : Str) : countF [s] = [s] := by
  unfold countF sortF
  rw [List.mergeSort_singleton]
  exact compact_all [s] (keeps_lt_one _)
end Rk
theorem strs_of_els {M : Nat → Prop} {w : World} {xs : List Value} {l : List Str} (h : Els strC M w xs l) : xs = l.map encStr := by
  have hn : strC.n = 1 := rfl
  have hl := h.1
  rw [hn, Nat.mul_one] at hl
  refine List.ext_getElem (by simpa using hl) fun i h1 h2 => ?_
  have hi : i < l.length := by omega
  have h3 := (h.2 i hi).1
  rw [hn, Nat.mul_one] at h3
  have h4 : ((xs.drop i).take 1)[0]? = some (encStr l[i]) := by rw [h3]; rfl
  rw [List.getElem?_take, if_pos (by omega), List.getElem?_drop, List.getElem?_eq_getElem (by omega)] at h4
  simpa using h4
theorem strs_max {M : Nat → Prop} {w : World} {xs : List Value} {l : List Str} (h : Els strC M w xs l) : ∀ x ∈ l, x.length ≤ maxLen := fun x hx => by
  obtain ⟨i, hi, rfl⟩ := List.mem_iff_getElem.1 hx
  exact (h.2 i hi).2
theorem els_strs (M : Nat → Prop) (w : World) : ∀ (l : List Str), (∀ x ∈ l, x.length ≤ maxLen) → Els strC M w (l.map encStr) l
  | [], _ => Els.nil _ _ _
  | x :: l, h => (Els.single (C := strC) (cs := [encStr x]) ⟨rfl, h x List.mem_cons_self⟩).append (els_strs M w l fun y hy => h y (List.mem_cons_of_mem _ hy))
theorem sortS_ok (L : List Str) (v : Value) (w : World) (B : Nat) (h : Own strC M0 w B 9 v L) (hn : L.length ≤ 1000000) :
    Calls Tryz.prog 56 #[v] w fun e w' => e = .returned (.tuple #[]) ∧ Own strC M0 w' B 9 v (Rk.sortF L) ∧ w.grownBy w' v.ownBlock := by
  obtain ⟨xs, ho, he⟩ := h
  have hxs := strs_of_els he
  have hmx := strs_max he
  subst hxs
  rcases ho.2 with ⟨rfl, h1⟩ | ⟨g, cap, cur, rfl, hBg, hblk, hc1, hc2, hsz, htk⟩
  · have hL : L = [] := List.eq_nil_of_length_eq_zero h1
    subst hL
    refine (Tryz.slices_Sort_string_none none 0 w).mono ?_
    rintro e w' ⟨rfl, rfl⟩
    exact ⟨rfl, by rw [show Rk.sortF [] = [] from List.mergeSort_nil]; exact Own.nil _ _ _ _ _, ⟨rfl, rfl, rfl, Nat.le_refl _, fun _ _ _ => rfl⟩⟩
  · have hn1 : strC.n = 1 := rfl
    rw [hn1, Nat.mul_one] at htk
    rw [hn1] at hsz
    refine (Tryz.slices_Sort_string g 0 cap L w (holds_of_block hblk htk) (Array.getElem?_eq_some_iff.1 hblk).1 (by omega)).mono ?_
    rintro e w' ⟨rfl, n, os, rfl⟩
    have hlen : (Rk.sortF L).length = L.length := Rk.sort_len L
    refine ⟨rfl, ⟨(Rk.sortF L).map encStr, ?_, els_strs _ _ _ fun x hx => hmx x (Rk.sort_mem.1 hx)⟩, grownBy_sorted _⟩
    rw [hlen]
    exact ownsRow_sorted hlen hBg hblk hc1 hc2 hsz
theorem compactS_ok (L : List Str) (v : Value) (w : World) (B : Nat) (h : Own strC M0 w B 9 v L) (hn : L.length ≤ 1000000) :
    Calls Tryz.prog 38 #[v] w fun e w' => ∃ u, e = .returned u ∧ Own strC M0 w' B 9 u (Lib.compact L) ∧ w.grownBy w' v.ownBlock := by
  obtain ⟨xs, ho, he⟩ := h
  have hxs := strs_of_els he
  have hmx := strs_max he
  subst hxs
  rcases ho.2 with ⟨rfl, h1⟩ | ⟨g, cap, cur, rfl, hBg, hblk, hc1, hc2, hsz, htk⟩
  · have hL : L = [] := List.eq_nil_of_length_eq_zero h1
    subst hL
    refine (Tryz.slices_Compact_string_empty none 0 w).mono ?_
    rintro e w' ⟨rfl, rfl⟩
    exact ⟨_, rfl, Own.nil _ _ _ _ _, ⟨rfl, rfl, rfl, Nat.le_refl _, fun _ _ _ => rfl⟩⟩
  · have hn1 : strC.n = 1 := rfl
    have htk1 := htk
    rw [hn1, Nat.mul_one] at htk1
    refine (Tryz.slices_Compact_string g 0 cap L w (holds_of_block hblk htk1) (by omega) hc1).mono ?_
    rintro e w' ⟨rfl, q, rfl⟩
    have hcl := Rk.compact_len L
    obtain ⟨ys, hys⟩ : ∃ ys, Lib.compact L ++ List.replicate (L.length - (Lib.compact L).length) [] = ys := ⟨_, rfl⟩
    have hyl : ys.length = L.length := by rw [← hys]; simp; omega
    have hyt : ys.take (Lib.compact L).length = Lib.compact L := by rw [← hys]; simp
    have hr := ownsRow_putRow (enc := encStr) (q := q) (ys := ys) (k := (Lib.compact L).length) ho hyl hcl
    rw [hyt] at hr
    refine ⟨_, rfl, ⟨(Lib.compact L).map encStr, ?_, els_strs _ _ _ fun x hx => hmx x (Rk.compact_mem hx)⟩, ?_⟩
    · rw [hys]; exact hr
    · have := grownBy_sorted (w := w) (g := g) (n := q) (os := #[]) (Lib.compact L ++ List.replicate (L.length - (Lib.compact L).length) []).toArray
      rw [grow_empty] at this
      exact this
end Go.Proofs.YtiohhajkegpebaaGreatDoor
namespace Go.Proofs.YtiohhajkegpebaaGreatDoor
open Go.RowKit
set_option linter.unusedVariables false
set_option maxRecDepth 100000 in
set_option maxHeartbeats 8000000 in
theorem sortedS_ok (gf : FuncId) (lb : Array Value) (xs : List Str) (FP : (Nat → Prop) → World → Prop) (hit : Iter Tryz.prog gf lb encW xs FP) (eg : ∀ args w, (callFunc gf args).run Tryz.prog w = .ok (.enter gf args) w) (hx : ∀ x ∈ xs, x.length ≤ maxLen) (hn : xs.length ≤ 1000000) (w : World)
    (hFP : ∀ S' W, (∀ b, S' b → w.heap.size ≤ b) → Below w.heap.size w W → FP S' W) :
    Calls Tryz.prog 36 #[.func (.func gf) #[] lb] w fun e w' => ∃ v, e = .returned v ∧ Own strC M0 w' w.heap.size 9 v (Rk.sortF xs) ∧ Below w.heap.size w w' := by
  have Hc := Lib.hid (collectS_ok gf lb xs FP hit eg hx hn w hFP)
  clear hit hFP
  go_enter Tryz.func36, Tryz.ntmps36
  go_wp2_with fail
  refine Hc.out.mono ?_
  clear Hc
  rintro e w1 ⟨A, c, L, rfl, hL, hown, hb⟩
  obtain rfl := hL.out
  clear hL
  have Hown := Lib.hid hown; have Hb := Lib.hid hb
  have Hs := Lib.hid (sortS_ok L (.slice A L.length c) w1 _ hown hn)
  clear hown hb
  go_wp2_with fail
  refine Hs.out.mono ?_
  rintro e w2 ⟨rfl, hown2, hg2⟩
  go_wp2_with fail
  go_ret
  refine ⟨_, rfl, hown2, ?_⟩
  exact Hb.out.grown hg2 (Hb.out.size) fun k hk => Hown.out.base k hk
set_option maxRecDepth 100000 in
set_option maxHeartbeats 8000000 in
theorem stems_ok (cs : Array Value) (w : World) : Calls Tryz.prog 37 #[.agg cs] w fun e w' => ∃ g, w.heap.size = g ∧ e = .returned (.func (.func 57) #[] #[.pointer (some ⟨g, 0, none⟩)]) ∧ Blk w' g 25 cs ∧ Below w.heap.size w w' := by
  obtain ⟨W, g, hW, hg, hs, kb, hal⟩ := boxA w cs 25
  have Hkb := Lib.hid kb; have Hal := Lib.hid hal
  have hmf : ∀ (fn : Fn) (first cap : Array Value) (w : World), (Instr.makeFunc fn first cap).run Tryz.prog w = .ok (.func fn first cap) w := fun _ _ _ _ => rfl
  clear kb hal
  go_enter Tryz.func37, Tryz.ntmps37
  go_wp2_with fail
  go_ret
  exact ⟨g, hg, rfl, Hkb.out, Hal.out⟩
/-- what the stems of a query are: the iterator, wherever the query lies -/
def StemsIt (cs : Array Value) (xs : List Str) (w : World) : Prop :=
  ∀ gq V, Below w.heap.size w V → Blk V gq 25 cs → w.heap.size ≤ gq → ∃ FP, Iter Tryz.prog 57 #[.pointer (some ⟨gq, 0, none⟩)] encW xs FP ∧ ∀ S' W, (∀ b, S' b → V.heap.size ≤ b) → Below V.heap.size V W → FP S' W
theorem stemsIt_leaf (t : Str) (ht : t.length ≤ 4000000) (nv : Int) (A : Option Addr) (n c : Nat) (w : World) : StemsIt #[.int .i64 2, .string (bs t), .int .i64 nv, .slice A n c] ((splitS t).map Sm.stem) w := by
  intro gq V hb kb hg
  refine ⟨_, stems_iter gq t ht nv A n c, fun S' W hS' hW => ⟨kb.ext hW, fun h => ?_⟩⟩
  have h1 := hS' _ h
  have h2 := kb.lt
  omega
set_option maxRecDepth 100000 in
set_option maxHeartbeats 8000000 in
theorem counted_ok (a b c d : Value) (xs : List Str) (w : World) (hit : StemsIt #[a, b, c, d] xs w) (hx : ∀ x ∈ xs, x.length ≤ maxLen) (hn : xs.length ≤ 1000000) :
    Calls Tryz.prog 24 #[.agg #[a, b, c, d]] w fun e w' => ∃ v, e = .returned v ∧ Own strC M0 w' w.heap.size 9 v (Rk.countF xs) ∧ Below w.heap.size w w' := by
  obtain ⟨W, g, hW, hg, hs, kb, hal⟩ := boxA w #[a, b, c, d] 25
  obtain ⟨q0, q1, q2, q3, _⟩ := kb.fourV
  have Hst := Lib.hid (stems_ok #[a, b, c, d] W)
  have HW := Lib.hid hW; have Hg := Lib.hid hg; have Hal := Lib.hid hal; have Hit := Lib.hid hit
  clear hit hal hs
  have eg : ∀ args w, (callFunc 57 args).run Tryz.prog w = .ok (.enter 57 args) w := enters_of Tryz.func57 (by kernel_rfl) rfl
  go_enter Tryz.func24, Tryz.ntmps24
  go_wp2_with fail
  refine Hst.out.mono ?_
  clear Hst q0 q1 q2 q3
  rintro e w1 ⟨g1, hg1, rfl, kq, hb1⟩
  have hb01 := Hal.out.trans (hb1.mono Hal.out.size)
  have hge : w.heap.size ≤ g1 := by have := Hal.out.size; omega
  obtain ⟨FP, hit, hFP⟩ := Hit.out g1 w1 hb01 kq hge
  have Hso := Lib.hid (sortedS_ok 57 #[.pointer (some ⟨g1, 0, none⟩)] xs FP hit eg hx hn w1 hFP)
  have Hb01 := Lib.hid hb01
  clear hit hFP kq hb1 hb01 hge hg1
  go_wp2_with fail
  refine Hso.out.mono ?_
  clear Hso
  rintro e w2 ⟨v, rfl, hown, hb2⟩
  have hb02 := Hb01.out.trans (hb2.mono Hb01.out.size)
  have hown' := hown.lower Hb01.out.size
  have Hco := Lib.hid (compactS_ok (Rk.sortF xs) v w2 _ hown' (by rw [Rk.sort_len]; exact hn))
  have Hown := Lib.hid hown'; have Hb02 := Lib.hid hb02
  obtain ⟨A2, c2, rfl, _, _⟩ := hown.read0.form
  clear hown hown' hb2 hb02
  go_wp2_with fail
  refine Hco.out.mono ?_
  clear Hco
  rintro e w3 ⟨u, rfl, hown3, hg3⟩
  go_wp2_with fail
  go_ret
  exact ⟨u, rfl, hown3, Hb02.out.grown hg3 Hb02.out.size fun k hk => Hown.out.base k hk⟩
end Go.Proofs.YtiohhajkegpebaaGreatDoor

/-
  threads.order.
-/
import Derived.Test.YtclobnojpmgmaaaThPure
import Derived.Test.YtclobnojpmgmaaaCmp
import Derived.Test.YtclobnojpmgmaaaOwn
namespace Go.Proofs.Ytclobnojpmgmaaa
open Go.RowKit
set_option linter.unusedVariables false
theorem ret_i {a b : Int} (h : a = b) : Ending.returned (.int .i64 a) = .returned (.int .i64 b) := by rw [h]
theorem isNaN_ok (a : Int) (w : World) : Calls Try.prog 35 #[.int .i64 a] w fun e w' => e = .returned (.bool false) ∧ w = w' := by
  have hself : (a != a) = false := by simp
  have hself2 : (a == a) = true := by simp
  go_enter Try.func35, Try.ntmps35
  go_wp2
  go_ret
  exact ⟨by simp, rfl⟩
def cmpI (a b : Int) : Int := if a < b then -1 else if b < a then 1 else 0
theorem cmpInt_ok (a b : Int) (w : World) : Calls Try.prog 31 #[.int .i64 a, .int .i64 b] w fun e w' => e = .returned (.int .i64 (cmpI a b)) ∧ w = w' := by
  have hn := fun x W => isNaN_ok x W
  have Hn := Lib.hid hn
  clear hn
  by_cases h1 : a < b
  · have hq : cmpI a b = -1 := by unfold cmpI; rw [if_pos h1]
    have Hq := Lib.hid hq
    clear hq
    go_enter Try.func31, Try.ntmps31
    go_wp2_with fail
    refine (Hn.out _ _).mono ?_
    rintro e w1 ⟨rfl, rfl⟩
    go_wp2_with fail
    refine (Hn.out _ _).mono ?_
    rintro e w1 ⟨rfl, rfl⟩
    go_wp2
    go_ret
    exact ⟨ret_i (by rw [Hq.out]), rfl⟩
  · by_cases h2 : b < a
    · have hq : cmpI a b = 1 := by unfold cmpI; rw [if_neg h1, if_pos h2]
      have Hq := Lib.hid hq
      clear hq
      go_enter Try.func31, Try.ntmps31
      go_wp2_with fail
      refine (Hn.out _ _).mono ?_
      rintro e w1 ⟨rfl, rfl⟩
      go_wp2_with fail
      refine (Hn.out _ _).mono ?_
      rintro e w1 ⟨rfl, rfl⟩
      go_wp2
      go_ret
      exact ⟨ret_i (by rw [Hq.out]), rfl⟩
    · have hq : cmpI a b = 0 := by unfold cmpI; rw [if_neg h1, if_neg h2]
      have Hq := Lib.hid hq
      clear hq
      go_enter Try.func31, Try.ntmps31
      go_wp2_with fail
      refine (Hn.out _ _).mono ?_
      rintro e w1 ⟨rfl, rfl⟩
      go_wp2_with fail
      refine (Hn.out _ _).mono ?_
      rintro e w1 ⟨rfl, rfl⟩
      go_wp2
      go_ret
      exact ⟨ret_i (by rw [Hq.out]), rfl⟩
def orI (x y : Int) : Int := if x ≠ 0 then x else y
theorem or_ok (x y : Int) (b : Nat) (w : World) (hb : Blk w b 3 #[.int .i64 x, .int .i64 y]) : Calls Try.prog 30 #[.slice (some ⟨b, 0, none⟩) 2 2] w fun e w' => e = .returned (.int .i64 (orI x y)) ∧ w = w' := by
  obtain ⟨c0, c1, _, _, _⟩ := hb.two
  go_enter Try.func30, Try.ntmps30
  go_wp2
  go_loop [8] (fun i => i = .int .i64 0 ∨ (i = .int .i64 1 ∧ x = 0) ∨ (i = .int .i64 2 ∧ x = 0 ∧ y = 0)) (fun i => 2 - (intOf i).toNat)
  case atStart => exact .inl rfl
  case round =>
    rcases hrel with rfl | ⟨rfl, rfl⟩ | ⟨rfl, rfl, rfl⟩
    · by_cases hx : x = 0
      · subst hx
        go_wp2
        go_round
        case rel => exact .inr (.inl ⟨rfl, trivial⟩)
        case measure => decide
      · have hx' : (x != 0) = true := by simpa using hx
        go_wp2
        go_ret
        exact ⟨ret_i (by unfold orI; rw [if_pos hx]), rfl⟩
    · by_cases hy : y = 0
      · subst hy
        go_wp2
        go_round
        case rel => exact .inr (.inr ⟨rfl, trivial, trivial⟩)
        case measure => decide
      · have hy' : (y != 0) = true := by simpa using hy
        go_wp2
        go_ret
        exact ⟨ret_i (by simp [orI]), rfl⟩
    · go_wp2
      go_ret
      exact ⟨ret_i (by simp [orI]), rfl⟩
def letV (a : Letter) (v : Value) : Value := .agg #[.string (bs a.1), v, .int .i64 a.2.2]
/-- draws and new blocks alone -/
def Grew (w w' : World) : Prop := ∃ (q : Nat) (os : Array Obj), w' = { w with drawn := w.drawn + q, heap := w.heap ++ os }
theorem Grew.refl (w : World) : Grew w w := ⟨0, #[], by simp⟩
theorem Grew.trans {a b c : World} (h : Grew a b) (k : Grew b c) : Grew a c := by
  obtain ⟨q, os, rfl⟩ := h
  obtain ⟨q', os', rfl⟩ := k
  exact ⟨q + q', os ++ os', by simp [Nat.add_assoc, Array.append_assoc]⟩
theorem Grew.alloc (w : World) (o : Obj) : Grew w (w.alloc o) := ⟨0, #[o], by rw [Array.append_singleton]; rfl⟩
theorem Grew.drew (w : World) : Grew w w.drew := ⟨1, #[], by rw [Array.append_empty]; rfl⟩
theorem Grew.drewN (w : World) (n : Nat) : Grew w (w.drewN n) := ⟨n, #[], by rw [Array.append_empty]; rfl⟩
theorem Grew.below {w w' : World} (h : Grew w w') : Below w.heap.size w w' := by
  obtain ⟨q, os, rfl⟩ := h
  exact ⟨rfl, rfl, rfl, by simp, fun k hk => by simp [Array.getElem?_append_left hk]⟩
set_option maxHeartbeats 2000000 in
theorem order_grew (a b : Letter) (va vb : Value) (w : World) : Calls Try.prog 25 #[letV a va, letV b vb] w fun e w' => e = .returned (.int .i64 (Th.ordF a b)) ∧ Grew w w' := by
  obtain ⟨ia, ra, ta⟩ := a
  obtain ⟨ib, rb, tb⟩ := b
  have ho : Th.ordF (ia, ra, ta) (ib, rb, tb) = orI (cmpI ta tb) (Lib.compareBytes ia ib) := Th.ord_or _ _
  have h1 := fun W => cmpInt_ok ta tb W
  have h2 := fun W => compare_ok ia ib W
  obtain ⟨x, hx⟩ : ∃ x, cmpI ta tb = x := ⟨_, rfl⟩
  obtain ⟨y, hy⟩ : ∃ y, Lib.compareBytes ia ib = y := ⟨_, rfl⟩
  rw [hx] at h1 ho
  rw [hy] at h2 ho
  have Ho := Lib.hid ho; have H1 := Lib.hid h1; have H2 := Lib.hid h2
  clear ho h1 h2 hx hy
  have hg2 : Grew w ((w.alloc (.cells #[.string (bs ia), va, .int .i64 ta] 39)).alloc (.cells #[.string (bs ib), vb, .int .i64 tb] 39)) := (Grew.alloc _ _).trans (Grew.alloc _ _)
  have hw2 : Below w.heap.size w ((w.alloc (.cells #[.string (bs ia), va, .int .i64 ta] 39)).alloc (.cells #[.string (bs ib), vb, .int .i64 tb] 39)) := ((Below.refl _ _).alloc (Nat.le_refl _) _).alloc (by simp) _
  have k1 := (Blk.new w 39 #[.string (bs ia), va, .int .i64 ta]).alloc (.cells #[.string (bs ib), vb, .int .i64 tb] 39)
  have k2 := Blk.new (w.alloc (.cells #[.string (bs ia), va, .int .i64 ta] 39)) 39 #[.string (bs ib), vb, .int .i64 tb]
  rw [show (w.alloc (.cells #[.string (bs ia), va, .int .i64 ta] 39)).heap.size = w.heap.size + 1 by simp] at k2
  unfold letV
  go_enter Try.func25, Try.ntmps25
  go_wp2
  generalize (w.alloc _).alloc _ = W at hg2 hw2 k1 k2 ⊢
  have hkeep : ∀ W', Below W.heap.size W W' → W'.cell? ⟨w.heap.size, 2, none⟩ = some (.int .i64 ta) ∧ W'.cell? ⟨w.heap.size + 1, 2, none⟩ = some (.int .i64 tb) ∧ W'.cell? ⟨w.heap.size, 0, none⟩ = some (.string (bs ia)) ∧ W'.cell? ⟨w.heap.size + 1, 0, none⟩ = some (.string (bs ib)) := fun W' h =>
    ⟨(k1.ext h).three.2.2.1, (k2.ext h).three.2.2.1, (k1.ext h).three.1, (k2.ext h).three.1⟩
  have hS0 := hkeep _ (below_drewN' W.heap.size W 1)
  have HK := Lib.hid hkeep
  clear hkeep k1 k2
  have hb9 : Below W.heap.size W ((W.alloc (.cells #[.int .i64 x, .int .i64 y] 3)).drew) := below_drew ((Below.refl _ _).alloc (Nat.le_refl _) _)
  have hS1 := HK.out _ hb9
  go_region_held3 (fun W' => W'.cell? ⟨w.heap.size, 2, none⟩ = some (.int .i64 ta) ∧ W'.cell? ⟨w.heap.size + 1, 2, none⟩ = some (.int .i64 tb) ∧ W'.cell? ⟨w.heap.size, 0, none⟩ = some (.string (bs ia)) ∧ W'.cell? ⟨w.heap.size + 1, 0, none⟩ = some (.string (bs ib))) (first | exact hS0 | exact hS1) (first
    | (go_at_call 31; refine (H1.out _).mono ?_; rintro e w8 ⟨rfl, rfl⟩)
    | (go_at_call 32; refine (H2.out _).mono ?_; rintro e w8 ⟨rfl, rfl⟩)
    | (go_at_call 30; refine (or_ok x y W.heap.size ((W.alloc (.cells #[.int .i64 x, .int .i64 y] 3)).drew) (Blk.new W 3 #[.int .i64 x, .int .i64 y])).mono ?_; rintro e w9 ⟨rfl, rfl⟩))
  go_wp2
  go_ret
  exact ⟨ret_i (by rw [Ho.out]), hg2.trans ((Grew.alloc _ _).trans (Grew.drew _))⟩
theorem order_ok (a b : Letter) (va vb : Value) (w : World) : Calls Try.prog 25 #[letV a va, letV b vb] w fun e w' => e = .returned (.int .i64 (Th.ordF a b)) ∧ Below w.heap.size w w' := by
  exact (order_grew a b va vb w).mono fun e w' ⟨h1, h2⟩ => ⟨h1, h2.below⟩
end Go.Proofs.Ytclobnojpmgmaaa

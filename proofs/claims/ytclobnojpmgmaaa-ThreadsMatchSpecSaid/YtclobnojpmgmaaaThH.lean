/-
  The closure that orders the answers of one letter.
-/
import Derived.Test.YtclobnojpmgmaaaThI
namespace Go.Proofs.Ytclobnojpmgmaaa
open Go.RowKit
set_option linter.unusedVariables false
set_option maxHeartbeats 2000000 in
theorem byOrder_ok (l : List Letter) (A : Option Addr) (c q : Nat) (a b : Nat) (w : World) (h : SlR letterC M0 w (.slice A l.length c) l) (hq : w.cell? ⟨q, 0, none⟩ = some (.slice A l.length c)) (hn : l.length ≤ 4000000) (ha : a < l.length) (hb : b < l.length) :
    Calls Try.prog 29 #[.int .i64 (a : Int), .int .i64 (b : Int), .pointer (some ⟨q, 0, none⟩)] w fun e w' => e = .returned (.int .i64 (Th.ordF l[a] l[b])) ∧ Grew w w' := by
  obtain ⟨hlc, hcm⟩ := h.lenM
  obtain ⟨bb, off, A2, c2, rfl, _, _, p0, p1, p2, _, _, _, _⟩ := h.letterAt ha
  obtain ⟨bb2, off2, A3, c3, hA, _, _, r0, r1, r2, _, _, _, _⟩ := h.letterAt hb
  injection hA with hA
  injection hA with hA1 hA2
  subst hA1 hA2
  have hoc := fun W => order_grew l[a] l[b] (.slice A2 l[a].2.1.length c2) (.slice A3 l[b].2.1.length c3) W
  unfold letV at hoc
  obtain ⟨o, ho⟩ : ∃ o, Th.ordF l[a] l[b] = o := ⟨_, rfl⟩
  rw [ho] at hoc ⊢
  obtain ⟨x, hx⟩ : ∃ x, l[a] = x := ⟨_, rfl⟩
  obtain ⟨y, hy⟩ : ∃ y, l[b] = y := ⟨_, rfl⟩
  rw [hx] at p0 p1 p2 hoc
  rw [hy] at r0 r1 r2 hoc
  obtain ⟨id, rs, ta⟩ := x
  obtain ⟨yi, yr, yt⟩ := y
  dsimp only at p0 p1 p2 r0 r1 r2 hoc
  have Hoc := Lib.hid hoc
  have ha' : (a : Int) < (l.length : Int) := by omega
  have ha0 : (0 : Int) ≤ (a : Int) := by omega
  have haw : IntKind.i64.wrap (a : Int) = (a : Int) := IntWalk.i64_in _ (by omega)
  have hb' : (b : Int) < (l.length : Int) := by omega
  have hb0 : (0 : Int) ≤ (b : Int) := by omega
  have hbw : IntKind.i64.wrap (b : Int) = (b : Int) := IntWalk.i64_in _ (by omega)
  have hS : ∀ W, Below w.heap.size w W → W.cell? ⟨bb, off + a * 3, none⟩ = some (.string (bs id)) ∧ W.cell? ⟨bb, off + a * 3 + 1, none⟩ = some (.slice A2 rs.length c2) ∧ W.cell? ⟨bb, off + a * 3 + 2, none⟩ = some (.int .i64 ta) ∧ W.cell? ⟨bb, off + b * 3, none⟩ = some (.string (bs yi)) ∧ W.cell? ⟨bb, off + b * 3 + 1, none⟩ = some (.slice A3 yr.length c3) ∧ W.cell? ⟨bb, off + b * 3 + 2, none⟩ = some (.int .i64 yt) ∧ W.cell? ⟨q, 0, none⟩ = some (.slice (some ⟨bb, off, none⟩) l.length c) := fun W hW => ⟨cell_ext hW p0, cell_ext hW p1, cell_ext hW p2, cell_ext hW r0, cell_ext hW r1, cell_ext hW r2, cell_ext hW hq⟩
  have HS := Lib.hid hS
  have hS0 := HS.out _ (below_drewN' w.heap.size w 1)
  clear hoc ho hS hx hy
  go_enter Try.func29, Try.ntmps29
  go_wp2
  go_region_held3 (fun W => W.cell? ⟨bb, off + a * 3, none⟩ = some (.string (bs id)) ∧ W.cell? ⟨bb, off + a * 3 + 1, none⟩ = some (.slice A2 rs.length c2) ∧ W.cell? ⟨bb, off + a * 3 + 2, none⟩ = some (.int .i64 ta) ∧ W.cell? ⟨bb, off + b * 3, none⟩ = some (.string (bs yi)) ∧ W.cell? ⟨bb, off + b * 3 + 1, none⟩ = some (.slice A3 yr.length c3) ∧ W.cell? ⟨bb, off + b * 3 + 2, none⟩ = some (.int .i64 yt) ∧ W.cell? ⟨q, 0, none⟩ = some (.slice (some ⟨bb, off, none⟩) l.length c)) (first | exact hS0 | exact hS2) ((go_at_call 25; refine (Hoc.out _).mono ?_; rintro e w2 ⟨rfl, hb2⟩; have hg12 : Grew w w2 := (Grew.drewN w 1).trans hb2; have hS2 := HS.out _ hg12.below))
  go_wp2
  go_ret
  exact ⟨rfl, hg12⟩
theorem shown_ok (A : Option Addr) (n c : Nat) (w : World) : Calls Try.prog 20 #[.slice A n c] w fun e w' => e = .returned (.func (.func 26) #[] #[.pointer (some ⟨w.heap.size, 0, none⟩)]) ∧ w' = w.alloc (.cells #[.slice A n c] 22) := by
  go_enter Try.func20, Try.ntmps20
  go_wp2
  go_ret
  exact ⟨rfl, rfl⟩
end Go.Proofs.Ytclobnojpmgmaaa

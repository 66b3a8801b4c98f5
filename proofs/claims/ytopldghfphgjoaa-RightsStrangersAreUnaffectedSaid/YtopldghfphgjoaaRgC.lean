/-
  slices.BinarySearchFunc on grants, with rights.order.
-/
import Derived.Test.YtopldghfphgjoaaRgB
namespace Go.Proofs.Ytopldghfphgjoaa
open Go.RowKit
theorem half_lo (i j : Nat) (h : i < j) : i ≤ (i + j) / 2 ∧ (i + j) / 2 < j := by omega
/-- What the search has shown. -/
def Cut (l : List Grant) (x : Grant) (k : Nat) : Prop := (∀ (m : Nat) (hm : m < l.length), m + 1 = k → orderF l[m] x < 0)
def Cut2 (l : List Grant) (x : Grant) (k : Nat) : Prop := (∀ (hm : k < l.length), 0 ≤ orderF l[k] x)
def hitF (l : List Grant) (x : Grant) (k : Nat) : Bool := match l[k]? with | some y => orderF y x == 0 | none => false

set_option maxHeartbeats 2000000 in
theorem bsearch_ok (l : List Grant) (x : Grant) (v : Value) (w : World) (h : SlR grantC M0 w v l) (hln : l.length ≤ 1000000) :
    Calls Try.prog 50 #[v, gv x, .func (.func 51) #[] #[]] w fun e w' => ∃ k : Nat, e = .returned (.tuple #[.int .i64 k, .bool (hitF l x k)]) ∧ k ≤ l.length ∧ Cut l x k ∧ Cut2 l x k ∧ Below w.heap.size w w' := by
  obtain ⟨A, c, rfl, _, _⟩ := h.form
  obtain ⟨hlc, hcm⟩ := h.lenM
  obtain ⟨xs, xn, xr⟩ := x
  have Hh := Lib.hid h
  clear h
  unfold gv
  dsimp only
  go_enter Try.func50, Try.ntmps50
  go_wp2
  go_loopw [9, 10, 11] (fun i j _ wr => ∃ a b : Nat, a ≤ b ∧ b ≤ l.length ∧ i = .int .i64 a ∧ j = .int .i64 b ∧ Hid (Cut l (xs, xn, xr) a) ∧ Hid (Cut2 l (xs, xn, xr) b) ∧ Blk wr w.heap.size 47 #[.string (bs xs), .bool xn, .int .i64 xr] ∧ Below w.heap.size w wr) (fun i j _ _ => (intOf j - intOf i).toNat)
  case atStart =>
    refine ⟨0, l.length, Nat.zero_le _, Nat.le_refl _, rfl, rfl, Lib.hid fun m _ h => absurd h (by omega), Lib.hid fun h => absurd h (by omega), heap_alloc_new _ _, (Below.refl _ _).alloc (Nat.le_refl _) _⟩
  case round =>
    obtain ⟨a, b, hab, hbl, rfl, rfl, ha, hcut2, kb, hb⟩ := hrel
    have hx1 := Hh.out.ext hb
    by_cases hlt : a < b
    · obtain ⟨m, hm⟩ : ∃ m, m = (a + b) / 2 := ⟨_, rfl⟩
      have hml : m < l.length := by omega
      have hma : a ≤ m := by omega
      have hmb : m < b := by omega
      obtain ⟨bb, off, rfl, hbl2, p0, p1, p2, _, _, _⟩ := hx1.grantAt hml
      obtain ⟨⟨ps, pn, pr⟩, hp⟩ : ∃ x, x = l[m] := ⟨_, rfl⟩
      rw [← hp] at p0 p1 p2
      dsimp only at p0 p1 p2
      have Hm := Lib.hid hm
      clear hm
      obtain ⟨o, ho⟩ : ∃ o, orderF (ps, pn, pr) (xs, xn, xr) = o := ⟨_, rfl⟩
      have hol : orderF l[m] (xs, xn, xr) = o := by rw [← hp]; exact ho
      have hoc : ∀ W, Calls Try.prog 51 #[.agg #[.string (bs ps), .bool pn, .int .i64 pr], .agg #[.string (bs xs), .bool xn, .int .i64 xr]] W fun e w' => e = .returned (.int .i64 o) ∧ Below W.heap.size W w' := fun W => by
        have := order_ok (ps, pn, pr) (xs, xn, xr) W
        rw [ho] at this
        exact this
      have kbl := kb.lt
      have hS : ∀ W, Below wr.heap.size wr W → W.cell? ⟨bb, off + m * 3, none⟩ = some (.string (bs ps)) ∧ W.cell? ⟨bb, off + m * 3 + 1, none⟩ = some (.bool pn) ∧ W.cell? ⟨bb, off + m * 3 + 2, none⟩ = some (.int .i64 pr) ∧ W.cell? ⟨w.heap.size, 0, none⟩ = some (.string (bs xs)) ∧ W.cell? ⟨w.heap.size, 1, none⟩ = some (.bool xn) ∧ W.cell? ⟨w.heap.size, 2, none⟩ = some (.int .i64 xr) := fun W hW =>
        ⟨(hW.cell (p := ⟨bb, off + m * 3, none⟩) hbl2).trans p0, (hW.cell (p := ⟨bb, off + m * 3 + 1, none⟩) hbl2).trans p1, (hW.cell (p := ⟨bb, off + m * 3 + 2, none⟩) hbl2).trans p2,
          (hW.cell (p := ⟨w.heap.size, 0, none⟩) kbl).trans (kb.cell 0), (hW.cell (p := ⟨w.heap.size, 1, none⟩) kbl).trans (kb.cell 1), (hW.cell (p := ⟨w.heap.size, 2, none⟩) kbl).trans (kb.cell 2)⟩
      have Hoc := Lib.hid hoc; have HS := Lib.hid hS; have Hol := Lib.hid hol
      have hS0 := HS.out _ (below_drewN' wr.heap.size wr 1)
      clear hoc ho hp p0 p1 p2 hS hol
      have hi0 : (0 : Int) ≤ (m : Int) := by omega
      have hi1 : (m : Int) < (l.length : Int) := by omega
      have hq1 : IntKind.i64.wrap (m : Int) = (m : Int) := IntWalk.i64_in _ (by omega)
      go_wp2
      have e : ((a : Int) + (b : Int)) / 2 = (m : Int) := by have := Hm.out; omega
      rw [e]
      clear e
      go_region_held3 (fun W => W.cell? ⟨bb, off + m * 3, none⟩ = some (.string (bs ps)) ∧ W.cell? ⟨bb, off + m * 3 + 1, none⟩ = some (.bool pn) ∧ W.cell? ⟨bb, off + m * 3 + 2, none⟩ = some (.int .i64 pr) ∧ W.cell? ⟨w.heap.size, 0, none⟩ = some (.string (bs xs)) ∧ W.cell? ⟨w.heap.size, 1, none⟩ = some (.bool xn) ∧ W.cell? ⟨w.heap.size, 2, none⟩ = some (.int .i64 xr)) (first | exact hS0 | exact hS2) ((go_at_call 51; refine (Hoc.out _).mono ?_; rintro e w2 ⟨rfl, hb2⟩; have hb12 : Below wr.heap.size wr w2 := Below.trans (below_drewN' wr.heap.size wr 1) hb2; have hS2 := HS.out _ hb12))
      have kb2 := kb.ext hb12
      have hb2w := hb.trans (hb12.mono hb.size)
      clear hS0 hS2 hq1
      by_cases hneg : o < 0
      · go_wp2
        go_roundw
        case rel => exact ⟨m + 1, b, by omega, hbl, by go_num, rfl, Lib.hid fun m' hm' e => by
          obtain rfl : m' = m := by omega
          rw [Hol.out]; exact hneg, hcut2, kb2, hb2w⟩
        case measure => simp [intOf]; omega
      · go_wp2
        go_roundw
        case rel => exact ⟨a, m, by omega, by omega, rfl, rfl, ha, Lib.hid fun _ => by rw [Hol.out]; omega, kb2, hb2w⟩
        case measure => simp [intOf]; omega
    · obtain rfl : a = b := by omega
      by_cases hal : a < l.length
      · obtain ⟨bb, off, rfl, hbl2, p0, p1, p2, _, _, _⟩ := hx1.grantAt hal
        obtain ⟨⟨ps, pn, pr⟩, hp⟩ : ∃ x, x = l[a] := ⟨_, rfl⟩
        rw [← hp] at p0 p1 p2
        dsimp only at p0 p1 p2
        obtain ⟨o, ho⟩ : ∃ o, orderF (ps, pn, pr) (xs, xn, xr) = o := ⟨_, rfl⟩
        have hhit : hitF l (xs, xn, xr) a = (o == 0) := by unfold hitF; rw [List.getElem?_eq_getElem hal, ← hp, ← ho]
        have hoc : ∀ W, Calls Try.prog 51 #[.agg #[.string (bs ps), .bool pn, .int .i64 pr], .agg #[.string (bs xs), .bool xn, .int .i64 xr]] W fun e w' => e = .returned (.int .i64 o) ∧ Below W.heap.size W w' := fun W => by
          have := order_ok (ps, pn, pr) (xs, xn, xr) W
          rw [ho] at this
          exact this
        have kbl := kb.lt
        have hS : ∀ W, Below wr.heap.size wr W → W.cell? ⟨bb, off + a * 3, none⟩ = some (.string (bs ps)) ∧ W.cell? ⟨bb, off + a * 3 + 1, none⟩ = some (.bool pn) ∧ W.cell? ⟨bb, off + a * 3 + 2, none⟩ = some (.int .i64 pr) ∧ W.cell? ⟨w.heap.size, 0, none⟩ = some (.string (bs xs)) ∧ W.cell? ⟨w.heap.size, 1, none⟩ = some (.bool xn) ∧ W.cell? ⟨w.heap.size, 2, none⟩ = some (.int .i64 xr) := fun W hW =>
          ⟨(hW.cell (p := ⟨bb, off + a * 3, none⟩) hbl2).trans p0, (hW.cell (p := ⟨bb, off + a * 3 + 1, none⟩) hbl2).trans p1, (hW.cell (p := ⟨bb, off + a * 3 + 2, none⟩) hbl2).trans p2,
            (hW.cell (p := ⟨w.heap.size, 0, none⟩) kbl).trans (kb.cell 0), (hW.cell (p := ⟨w.heap.size, 1, none⟩) kbl).trans (kb.cell 1), (hW.cell (p := ⟨w.heap.size, 2, none⟩) kbl).trans (kb.cell 2)⟩
        have Hoc := Lib.hid hoc; have HS := Lib.hid hS; have Hhit := Lib.hid hhit
        have hS0 := HS.out _ (below_drewN' wr.heap.size wr 1)
        clear hoc ho hp p0 p1 p2 hS hhit
        have hi0 : (0 : Int) ≤ (a : Int) := by omega
        have hi1 : (a : Int) < (l.length : Int) := by omega
        have hq1 : IntKind.i64.wrap (a : Int) = (a : Int) := IntWalk.i64_in _ (by omega)
        go_wp2
        go_region_held3 (fun W => W.cell? ⟨bb, off + a * 3, none⟩ = some (.string (bs ps)) ∧ W.cell? ⟨bb, off + a * 3 + 1, none⟩ = some (.bool pn) ∧ W.cell? ⟨bb, off + a * 3 + 2, none⟩ = some (.int .i64 pr) ∧ W.cell? ⟨w.heap.size, 0, none⟩ = some (.string (bs xs)) ∧ W.cell? ⟨w.heap.size, 1, none⟩ = some (.bool xn) ∧ W.cell? ⟨w.heap.size, 2, none⟩ = some (.int .i64 xr)) (first | exact hS0 | exact hS2) ((go_at_call 51; refine (Hoc.out _).mono ?_; rintro e w2 ⟨rfl, hb2⟩; have hb12 : Below wr.heap.size wr w2 := Below.trans (below_drewN' wr.heap.size wr 1) hb2; have hS2 := HS.out _ hb12))
        have hb2w := hb.trans (hb12.mono hb.size)
        clear hS0 hS2 hq1
        go_wp2
        refine bodyPost_ret (v := .tuple #[.int .i64 a, .bool (o == 0)]) (by simp [results, Try.results50, go_sem]) rfl ?_
        exact ⟨a, by rw [Hhit.out], hbl, ha.out, hcut2.out, hb2w⟩
      · obtain rfl : a = l.length := by omega
        have hhit : hitF l (xs, xn, xr) l.length = false := by unfold hitF; simp
        have Hhit := Lib.hid hhit
        clear hhit hx1
        go_wp2
        go_quiet (fail)
        go_wp2
        refine bodyPost_ret (v := .tuple #[.int .i64 l.length, .bool false]) (by simp [results, Try.results50, go_sem]) rfl ?_
        exact ⟨l.length, by rw [Hhit.out], Nat.le_refl _, ha.out, hcut2.out, hb.trans (below_drewN' _ _ _)⟩
end Go.Proofs.Ytopldghfphgjoaa

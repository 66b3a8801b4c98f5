/-
  Granted, the reference.
-/
import Derived.Test.YtopldghfphgjoaaRgD
namespace Go.Proofs.Ytopldghfphgjoaa
open Go.RowKit
def stepG (x : Grant) (st : List Grant × Bool) (y : Grant) : List Grant × Bool :=
  if y.1 != x.1 || y.2.1 != x.2.1 then ((if !st.2 && afterF y x then (st.1 ++ [x], true) else st).1 ++ [y], (if !st.2 && afterF y x then (st.1 ++ [x], true) else st).2) else if !st.2 && afterF y x then (st.1 ++ [x], true) else st
def foldG (x : Grant) (l : List Grant) : List Grant × Bool := l.foldl (stepG x) ([], x.2.2 == 0)
def grantedF (l : List Grant) (x : Grant) : List Grant := if !(foldG x l).2 then (foldG x l).1 ++ [x] else (foldG x l).1
theorem foldG_succ (x : Grant) (l : List Grant) (k : Nat) (hk : k < l.length) : foldG x (l.take (k + 1)) = stepG x (foldG x (l.take k)) l[k] := by
  unfold foldG
  rw [take_get l k hk, List.foldl_append]
  rfl
set_option maxHeartbeats 4000000 in
theorem granted_ok (l : List Grant) (x : Grant) (v : Value) (w : World) (h : SlR grantC M0 w v l) (hln : l.length ≤ 1000000) (hx1 : x.1.length ≤ maxLen) (hx2 : -9223372036854775808 ≤ x.2.2) (hx3 : x.2.2 ≤ 9223372036854775807) :
    Calls Try.prog 34 #[v, gv x] w fun e w' => ∃ v', e = .returned v' ∧ SlR grantC M0 w' v' (grantedF l x) ∧ Below w.heap.size w w' := by
  obtain ⟨A, c, rfl, _, _⟩ := h.form
  obtain ⟨hlc, hcm⟩ := h.lenM
  obtain ⟨xs, xn, xr⟩ := x
  dsimp only at hx1 hx2 hx3
  have Hh := Lib.hid h
  clear h
  unfold gv
  dsimp only
  go_enter Try.func34, Try.ntmps34
  go_wp2
  have Hb0 := Lib.hid (show Below w.heap.size w (w.alloc (.cells #[.string (bs xs), .bool xn, .int .i64 xr] 47)) from (Below.refl _ _).alloc (Nat.le_refl _) _)
  have Hk0 := Lib.hid (show Blk (w.alloc (.cells #[.string (bs xs), .bool xn, .int .i64 xr] 47)) w.heap.size 47 #[.string (bs xs), .bool xn, .int .i64 xr] from heap_alloc_new _ _)
  have hs0 : w.heap.size < (w.alloc (.cells #[.string (bs xs), .bool xn, .int .i64 xr] 47)).heap.size := by rw [World.size_alloc]; omega
  have Hh1 := Lib.hid (Hh.out.ext Hb0.out)
  generalize w.alloc (.cells #[.string (bs xs), .bool xn, .int .i64 xr] 47) = w1 at Hb0 Hk0 hs0 Hh1 ⊢
  have hW0 : ∀ W, Below w1.heap.size w1 W → W.cell? ⟨w.heap.size, 0, none⟩ = some (.string (bs xs)) ∧ W.cell? ⟨w.heap.size, 1, none⟩ = some (.bool xn) ∧ W.cell? ⟨w.heap.size, 2, none⟩ = some (.int .i64 xr) := fun W hW =>
    ⟨(hW.cell (p := ⟨w.heap.size, 0, none⟩) hs0).trans (Hk0.out.cell 0), (hW.cell (p := ⟨w.heap.size, 1, none⟩) hs0).trans (Hk0.out.cell 1), (hW.cell (p := ⟨w.heap.size, 2, none⟩) hs0).trans (Hk0.out.cell 2)⟩
  have HW0 := Lib.hid hW0
  clear hW0
  go_loopw [5, 6, 7] (fun o d i wr => ∃ (k : Nat) (A' : Option Addr) (c' : Nat) (L : List Grant) (db : Bool), k ≤ l.length ∧ i = .int .i64 k ∧ d = .bool db ∧ Hid (foldG (xs, xn, xr) (l.take k) = (L, db)) ∧ o = .slice A' L.length c' ∧ L.length ≤ 2 * k ∧
    Own grantC M0 wr w1.heap.size 47 (.slice A' L.length c') L ∧ Below w1.heap.size w1 wr) (fun _ _ i _ => l.length - (intOf i).toNat)
  case atStart => exact ⟨0, none, 0, [], xr == 0, Nat.zero_le _, rfl, rfl, Lib.hid rfl, rfl, Nat.le_refl _, Own.nil _ _ _ _ _, Below.refl _ _⟩
  case round =>
    obtain ⟨k, A', c', L, db, hkl, rfl, rfl, hst, rfl, hL, hown, hb⟩ := hrel
    by_cases hk : k < l.length
    · obtain ⟨bb, off, rfl, hbl1, P0, P1, P2, z1, z2⟩ := Hh1.out.grantAt hk
      obtain ⟨⟨ps, pn, pr⟩, hp⟩ : ∃ x, x = l[k] := ⟨_, rfl⟩
      rw [← hp] at P0 P1 P2 z1 z2
      dsimp only at P0 P1 P2 z1 z2
      have Hp := Lib.hid hp; have Z := Lib.hid (And.intro z1 z2)
      have hS : ∀ W, Below w1.heap.size w1 W → W.cell? ⟨bb, off + k * 3, none⟩ = some (.string (bs ps)) ∧ W.cell? ⟨bb, off + k * 3 + 1, none⟩ = some (.bool pn) ∧ W.cell? ⟨bb, off + k * 3 + 2, none⟩ = some (.int .i64 pr) ∧ W.cell? ⟨w.heap.size, 0, none⟩ = some (.string (bs xs)) ∧ W.cell? ⟨w.heap.size, 1, none⟩ = some (.bool xn) ∧ W.cell? ⟨w.heap.size, 2, none⟩ = some (.int .i64 xr) := fun W hW =>
        ⟨(hW.cell (p := ⟨bb, off + k * 3, none⟩) hbl1).trans P0, (hW.cell (p := ⟨bb, off + k * 3 + 1, none⟩) hbl1).trans P1, (hW.cell (p := ⟨bb, off + k * 3 + 2, none⟩) hbl1).trans P2,
          (hW.cell (p := ⟨w.heap.size, 0, none⟩) hs0).trans (Hk0.out.cell 0), (hW.cell (p := ⟨w.heap.size, 1, none⟩) hs0).trans (Hk0.out.cell 1), (hW.cell (p := ⟨w.heap.size, 2, none⟩) hs0).trans (Hk0.out.cell 2)⟩
      have HS := Lib.hid hS
      clear hS P0 P1 P2 z1 z2 hp
      cases db with
      | true =>
        obtain ⟨p0, p1, p2, c0, c1, c2⟩ := HS.out _ hb
        go_wp2
        go_quiet (fail)
        clear p0 p1 p2 c0 c1 c2
        have hb1 := hb.trans (below_drewN' w1.heap.size wr nq)
        have hown1 := hown.ext (below_drewN' _ wr nq)
        generalize wr.drewN nq = w4 at hb1 hown1 ⊢
        obtain ⟨p0, p1, p2, c0, c1, c2⟩ := HS.out _ hb1
        by_cases hs : ps = xs
        · by_cases hn : pn = xn
          · have hs9 : Hid (foldG (xs, xn, xr) (l.take (k + 1)) = (L, true)) := Lib.hid (by rw [foldG_succ _ _ _ hk, hst.out, ← Hp.out]; simp only [stepG]; simp [hs, hn])
            subst hs
            subst hn
            go_wp2
            go_quiet (fail)
            go_wp2
            go_roundw
            case rel => exact ⟨k + 1, _, _, L, true, by omega, by go_num, rfl, hs9, rfl, by have := hL; omega, hown1.ext (below_drewN' _ _ _), hb1.trans (below_drewN' _ w4 _)⟩
            case measure => simp [intOf]; omega
          · have hs' := hs.symm
            subst hs'
            have hnb : (!(pn == xn)) = true := by revert hn; cases pn <;> cases xn <;> simp
            go_wp2
            go_quiet (fail)
            have hb5 := hb1.trans (below_drewN' w1.heap.size w4 nq)
            have hown5 := hown1.ext (below_drewN' _ w4 nq)
            generalize w4.drewN nq = w5 at hb5 hown5 ⊢
            clear p0 p1 p2 c0 c1 c2
            obtain ⟨p0, p1, p2, c0, c1, c2⟩ := HS.out _ hb5
            go_wp2_with (at_builtin; refine wpList_push_Own grantC (M := M0) (B := w1.heap.size) TGrants rfl (.tmp 49) (.tmp 54) rfl rfl hown5 rfl (y := (xs, pn, pr)) (grant_rd (a := (xs, pn, pr)) Z.out.1 Z.out.2) (fun _ h => h.elim) ?a1 ?b1 hb5.size ?_)
            case a1 => simp only [maxLen]; have := hL; omega
            case b1 => have := hL; omega
            intro A9 c9 L9 w9 hL9 hown9 hbl9 _ _
            have hs9 : Hid (foldG (xs, xn, xr) (l.take (k + 1)) = (L9, true)) := Lib.hid (by rw [foldG_succ _ _ _ hk, hst.out, hL9.out, ← Hp.out]; simp only [stepG]; simp [hn])
            have hl9 : L9.length ≤ 2 * (k + 1) := by rw [hL9.out, List.length_append, List.length_singleton]; have := hL; omega
            go_wp2
            go_roundw
            case rel => exact ⟨k + 1, A9, c9, L9, true, by omega, by go_num, rfl, hs9, rfl, hl9, hown9, hb5.trans hbl9⟩
            case measure => simp [intOf]; omega
        · skip
          go_wp2
          go_quiet (fail)
          have hb5 := hb1.trans (below_drewN' w1.heap.size w4 nq)
          have hown5 := hown1.ext (below_drewN' _ w4 nq)
          generalize w4.drewN nq = w5 at hb5 hown5 ⊢
          clear p0 p1 p2 c0 c1 c2
          obtain ⟨p0, p1, p2, c0, c1, c2⟩ := HS.out _ hb5
          go_wp2_with (at_builtin; refine wpList_push_Own grantC (M := M0) (B := w1.heap.size) TGrants rfl (.tmp 49) (.tmp 54) rfl rfl hown5 rfl (y := (ps, pn, pr)) (grant_rd (a := (ps, pn, pr)) Z.out.1 Z.out.2) (fun _ h => h.elim) ?a2 ?b2 hb5.size ?_)
          case a2 => simp only [maxLen]; have := hL; omega
          case b2 => have := hL; omega
          intro A9 c9 L9 w9 hL9 hown9 hbl9 _ _
          have hs9 : Hid (foldG (xs, xn, xr) (l.take (k + 1)) = (L9, true)) := Lib.hid (by rw [foldG_succ _ _ _ hk, hst.out, hL9.out, ← Hp.out]; simp only [stepG]; simp [hs])
          have hl9 : L9.length ≤ 2 * (k + 1) := by rw [hL9.out, List.length_append, List.length_singleton]; have := hL; omega
          go_wp2
          go_roundw
          case rel => exact ⟨k + 1, A9, c9, L9, true, by omega, by go_num, rfl, hs9, rfl, hl9, hown9, hb5.trans hbl9⟩
          case measure => simp [intOf]; omega
      | false =>
        obtain ⟨t, ht⟩ : ∃ t, afterF (ps, pn, pr) (xs, xn, xr) = t := ⟨_, rfl⟩
        have hoc : ∀ W, Calls Try.prog 55 #[.agg #[.string (bs ps), .bool pn, .int .i64 pr], .agg #[.string (bs xs), .bool xn, .int .i64 xr]] W fun e w' => e = .returned (.bool t) ∧ Below W.heap.size W w' := fun W => by
          have := after_ok (ps, pn, pr) (xs, xn, xr) W
          rw [ht] at this
          exact this
        have Hoc := Lib.hid hoc; have Ht := Lib.hid ht
        have hS0 := HS.out _ (hb.trans (below_drewN' w1.heap.size wr 1))
        clear hoc ht
        have hi0 : (0 : Int) ≤ (k : Int) := by omega
        have hi1 : (k : Int) < (l.length : Int) := by omega
        have hq1 : IntKind.i64.wrap (k : Int) = (k : Int) := IntWalk.i64_in _ (by omega)
        go_wp2
        go_region_held3 (fun W => W.cell? ⟨bb, off + k * 3, none⟩ = some (.string (bs ps)) ∧ W.cell? ⟨bb, off + k * 3 + 1, none⟩ = some (.bool pn) ∧ W.cell? ⟨bb, off + k * 3 + 2, none⟩ = some (.int .i64 pr) ∧ W.cell? ⟨w.heap.size, 0, none⟩ = some (.string (bs xs)) ∧ W.cell? ⟨w.heap.size, 1, none⟩ = some (.bool xn) ∧ W.cell? ⟨w.heap.size, 2, none⟩ = some (.int .i64 xr)) (first | exact hS0 | exact hS2) ((go_at_call 55; refine (Hoc.out _).mono ?_; rintro e w2 ⟨rfl, hb2⟩; have hb12 : Below wr.heap.size wr w2 := Below.trans (below_drewN' wr.heap.size wr 1) hb2; have hS2 := HS.out _ (hb.trans (hb12.mono hb.size))))
        have hbw2 := hb.trans (hb12.mono hb.size)
        have hown2 := hown.ext hb12
        clear hS0 hS2 hq1
        cases t with
        | false =>
          go_wp2
          obtain ⟨p0, p1, p2, c0, c1, c2⟩ := HS.out _ hbw2
          by_cases hs : ps = xs
          · by_cases hn : pn = xn
            · have hs9 : Hid (foldG (xs, xn, xr) (l.take (k + 1)) = (L, false)) := Lib.hid (by rw [foldG_succ _ _ _ hk, hst.out, ← Hp.out]; simp only [stepG, Ht.out]; simp [hs, hn])
              subst hs
              subst hn
              go_wp2
              go_quiet (fail)
              go_wp2
              go_roundw
              case rel => exact ⟨k + 1, _, _, L, false, by omega, by go_num, rfl, hs9, rfl, by have := hL; omega, hown2.ext (below_drewN' _ _ _), hbw2.trans (below_drewN' _ w2 _)⟩
              case measure => simp [intOf]; omega
            · have hs' := hs.symm
              subst hs'
              have hnb : (!(pn == xn)) = true := by revert hn; cases pn <;> cases xn <;> simp
              go_wp2
              go_quiet (fail)
              have hb5 := hbw2.trans (below_drewN' w1.heap.size w2 nq)
              have hown5 := hown2.ext (below_drewN' _ w2 nq)
              generalize w2.drewN nq = w5 at hb5 hown5 ⊢
              clear p0 p1 p2 c0 c1 c2
              obtain ⟨p0, p1, p2, c0, c1, c2⟩ := HS.out _ hb5
              go_wp2_with (at_builtin; refine wpList_push_Own grantC (M := M0) (B := w1.heap.size) TGrants rfl (.tmp 49) (.tmp 54) rfl rfl hown5 rfl (y := (xs, pn, pr)) (grant_rd (a := (xs, pn, pr)) Z.out.1 Z.out.2) (fun _ h => h.elim) ?a3 ?b3 hb5.size ?_)
              case a3 => simp only [maxLen]; have := hL; omega
              case b3 => have := hL; omega
              intro A9 c9 L9 w9 hL9 hown9 hbl9 _ _
              have hs9 : Hid (foldG (xs, xn, xr) (l.take (k + 1)) = (L9, false)) := Lib.hid (by rw [foldG_succ _ _ _ hk, hst.out, hL9.out, ← Hp.out]; simp only [stepG, Ht.out]; simp [hn])
              have hl9 : L9.length ≤ 2 * (k + 1) := by rw [hL9.out, List.length_append, List.length_singleton]; have := hL; omega
              go_wp2
              go_roundw
              case rel => exact ⟨k + 1, A9, c9, L9, false, by omega, by go_num, rfl, hs9, rfl, hl9, hown9, hb5.trans hbl9⟩
              case measure => simp [intOf]; omega
          · skip
            go_wp2
            go_quiet (fail)
            have hb5 := hbw2.trans (below_drewN' w1.heap.size w2 nq)
            have hown5 := hown2.ext (below_drewN' _ w2 nq)
            generalize w2.drewN nq = w5 at hb5 hown5 ⊢
            clear p0 p1 p2 c0 c1 c2
            obtain ⟨p0, p1, p2, c0, c1, c2⟩ := HS.out _ hb5
            go_wp2_with (at_builtin; refine wpList_push_Own grantC (M := M0) (B := w1.heap.size) TGrants rfl (.tmp 49) (.tmp 54) rfl rfl hown5 rfl (y := (ps, pn, pr)) (grant_rd (a := (ps, pn, pr)) Z.out.1 Z.out.2) (fun _ h => h.elim) ?a4 ?b4 hb5.size ?_)
            case a4 => simp only [maxLen]; have := hL; omega
            case b4 => have := hL; omega
            intro A9 c9 L9 w9 hL9 hown9 hbl9 _ _
            have hs9 : Hid (foldG (xs, xn, xr) (l.take (k + 1)) = (L9, false)) := Lib.hid (by rw [foldG_succ _ _ _ hk, hst.out, hL9.out, ← Hp.out]; simp only [stepG, Ht.out]; simp [hs])
            have hl9 : L9.length ≤ 2 * (k + 1) := by rw [hL9.out, List.length_append, List.length_singleton]; have := hL; omega
            go_wp2
            go_roundw
            case rel => exact ⟨k + 1, A9, c9, L9, false, by omega, by go_num, rfl, hs9, rfl, hl9, hown9, hb5.trans hbl9⟩
            case measure => simp [intOf]; omega
        | true =>
          obtain ⟨p0, p1, p2, c0, c1, c2⟩ := HS.out _ hbw2
          go_wp2_with (at_builtin; refine wpList_push_Own grantC (M := M0) (B := w1.heap.size) TGrants rfl (.tmp 27) (.tmp 29) rfl rfl hown2 rfl (y := (xs, xn, xr)) (grant_rd (a := (xs, xn, xr)) hx1 ⟨hx2, hx3⟩) (fun _ h => h.elim) ?a0 ?b0 hbw2.size ?_)
          case a0 => simp only [maxLen]; omega
          case b0 => omega
          intro A3 c3 L3 w3 hL3 hown3 hbl3 _ _
          have hbw3 := hbw2.trans hbl3
          have hll : Hid (L3.length ≤ 2 * k + 1) := Lib.hid (by rw [hL3.out, List.length_append, List.length_singleton]; omega)
          clear p0 p1 p2 c0 c1 c2
          go_wp2
          obtain ⟨p0, p1, p2, c0, c1, c2⟩ := HS.out _ hbw3
          by_cases hs : ps = xs
          · by_cases hn : pn = xn
            · have hs9 : Hid (foldG (xs, xn, xr) (l.take (k + 1)) = (L3, true)) := Lib.hid (by rw [foldG_succ _ _ _ hk, hst.out, ← Hp.out]; simp only [stepG, Ht.out]; simp [hs, hn, hL3.out])
              subst hs
              subst hn
              go_wp2
              go_quiet (fail)
              go_wp2
              go_roundw
              case rel => exact ⟨k + 1, _, _, L3, true, by omega, by go_num, rfl, hs9, rfl, by have := hll.out; omega, hown3.ext (below_drewN' _ _ _), hbw3.trans (below_drewN' _ w3 _)⟩
              case measure => simp [intOf]; omega
            · have hs' := hs.symm
              subst hs'
              have hnb : (!(pn == xn)) = true := by revert hn; cases pn <;> cases xn <;> simp
              go_wp2
              go_quiet (fail)
              have hb5 := hbw3.trans (below_drewN' w1.heap.size w3 nq)
              have hown5 := hown3.ext (below_drewN' _ w3 nq)
              generalize w3.drewN nq = w5 at hb5 hown5 ⊢
              clear p0 p1 p2 c0 c1 c2
              obtain ⟨p0, p1, p2, c0, c1, c2⟩ := HS.out _ hb5
              go_wp2_with (at_builtin; refine wpList_push_Own grantC (M := M0) (B := w1.heap.size) TGrants rfl (.tmp 49) (.tmp 54) rfl rfl hown5 rfl (y := (xs, pn, pr)) (grant_rd (a := (xs, pn, pr)) Z.out.1 Z.out.2) (fun _ h => h.elim) ?a5 ?b5 hb5.size ?_)
              case a5 => simp only [maxLen]; have := hll.out; omega
              case b5 => have := hll.out; omega
              intro A9 c9 L9 w9 hL9 hown9 hbl9 _ _
              have hs9 : Hid (foldG (xs, xn, xr) (l.take (k + 1)) = (L9, true)) := Lib.hid (by rw [foldG_succ _ _ _ hk, hst.out, hL9.out, ← Hp.out]; simp only [stepG, Ht.out]; simp [hn, hL3.out])
              have hl9 : L9.length ≤ 2 * (k + 1) := by rw [hL9.out, List.length_append, List.length_singleton]; have := hll.out; omega
              go_wp2
              go_roundw
              case rel => exact ⟨k + 1, A9, c9, L9, true, by omega, by go_num, rfl, hs9, rfl, hl9, hown9, hb5.trans hbl9⟩
              case measure => simp [intOf]; omega
          · skip
            go_wp2
            go_quiet (fail)
            have hb5 := hbw3.trans (below_drewN' w1.heap.size w3 nq)
            have hown5 := hown3.ext (below_drewN' _ w3 nq)
            generalize w3.drewN nq = w5 at hb5 hown5 ⊢
            clear p0 p1 p2 c0 c1 c2
            obtain ⟨p0, p1, p2, c0, c1, c2⟩ := HS.out _ hb5
            go_wp2_with (at_builtin; refine wpList_push_Own grantC (M := M0) (B := w1.heap.size) TGrants rfl (.tmp 49) (.tmp 54) rfl rfl hown5 rfl (y := (ps, pn, pr)) (grant_rd (a := (ps, pn, pr)) Z.out.1 Z.out.2) (fun _ h => h.elim) ?a6 ?b6 hb5.size ?_)
            case a6 => simp only [maxLen]; have := hll.out; omega
            case b6 => have := hll.out; omega
            intro A9 c9 L9 w9 hL9 hown9 hbl9 _ _
            have hs9 : Hid (foldG (xs, xn, xr) (l.take (k + 1)) = (L9, true)) := Lib.hid (by rw [foldG_succ _ _ _ hk, hst.out, hL9.out, ← Hp.out]; simp only [stepG, Ht.out]; simp [hs, hL3.out])
            have hl9 : L9.length ≤ 2 * (k + 1) := by rw [hL9.out, List.length_append, List.length_singleton]; have := hll.out; omega
            go_wp2
            go_roundw
            case rel => exact ⟨k + 1, A9, c9, L9, true, by omega, by go_num, rfl, hs9, rfl, hl9, hown9, hb5.trans hbl9⟩
            case measure => simp [intOf]; omega
    · obtain rfl : k = l.length := by omega
      rw [List.take_length] at hst
      cases db with
      | true =>
        have hres : grantedF l (xs, xn, xr) = L := by unfold grantedF; rw [hst.out]; rfl
        have Hres := Lib.hid hres
        clear hres
        go_wp2
        go_ret
        exact ⟨_, rfl, by rw [Hres.out]; exact hown.read0, Hb0.out.trans (hb.mono (by omega))⟩
      | false =>
        have hres : grantedF l (xs, xn, xr) = L ++ [(xs, xn, xr)] := by unfold grantedF; rw [hst.out]; rfl
        have Hres := Lib.hid hres
        clear hres
        have c0 := (HW0.out wr hb).1; have c1 := (HW0.out wr hb).2.1; have c2 := (HW0.out wr hb).2.2
        go_wp2_with (at_builtin; refine wpList_push_Own grantC (M := M0) (B := w1.heap.size) TGrants rfl (.tmp 58) (.tmp 60) rfl rfl hown rfl (y := (xs, xn, xr)) (grant_rd (a := (xs, xn, xr)) hx1 ⟨hx2, hx3⟩) (fun _ h => h.elim) ?az ?bz hb.size ?_)
        case az => simp only [maxLen]; omega
        case bz => omega
        intro A3 c3 L3 w3 hL3 hown3 hbl3 _ _
        go_wp2
        go_ret
        exact ⟨_, rfl, by rw [Hres.out, ← hL3.out]; exact hown3.read0, Hb0.out.trans ((hb.trans hbl3).mono (by omega))⟩

end Go.Proofs.Ytopldghfphgjoaa

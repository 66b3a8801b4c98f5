/-
  Setting a grant again changes nothing: the law's walk.
-/
import Derived.Test.YtopldghfphgjoaaRgEx
import Derived.Test.YtopldghfphgjoaaRgLQ
namespace Go.Proofs.Ytopldghfphgjoaa
open Go.RowKit

set_option maxRecDepth 100000 in
set_option maxHeartbeats 8000000 in
theorem rtwice_walk (v0 : Value) (l : List Grant) (x : Grant) (w : World) (h0 : SlR grantC M0 w v0 l) (hx1 : x.1.length ≤ maxLen) (hx2 : -9223372036854775808 ≤ x.2.2) (hx3 : x.2.2 ≤ 9223372036854775807) :
    Calls Try.prog 9 #[v0, gv x] w fun e w' => e = .returned (.bool true) ∧ Below w.heap.size w w' := by
  obtain ⟨A0, c0, rfl, _, _⟩ := h0.form
  obtain ⟨xs, xn, xr⟩ := x
  dsimp only at hx1 hx2 hx3
  obtain ⟨⟨L, s1, s2⟩, hS⟩ : ∃ r, setR l (xs, xn, xr) = r := ⟨_, rfl⟩
  have kx := Blk.new w 47 #[.string (bs xs), .bool xn, .int .i64 xr]
  have hbw := (Below.refl w.heap.size w).alloc (Nat.le_refl _) (.cells #[.string (bs xs), .bool xn, .int .i64 xr] 47)
  replace h0 := h0.ext hbw
  have HS := Lib.hid hS
  clear hS
  unfold gv
  dsimp only
  go_enter Try.func9, Try.ntmps9
  go_wp2_with fail
  refine (rexample_ok _).mono ?_
  rintro e w1 ⟨rfl, hq1⟩
  replace kx := kx.ext hq1
  replace h0 := h0.ext hq1
  replace hbw := hbw.trans (hq1.mono hbw.size)
  clear hq1
  obtain ⟨x0, x1, x2, _, _, _, xb⟩ := kx.three
  have hset := set_ok _ l (xs, xn, xr) _ h0 hx1 hx2 hx3
  rw [HS.out] at hset
  go_wp2_with fail
  refine (hset).mono ?_
  rintro e w2 ⟨v2, rfl, hr2, hq2⟩
  obtain ⟨A2, c2, rfl, _, _⟩ := hr2.form
  clear x0 x1 x2 xb hset
  have ha2 := (Below.refl w2.heap.size w2).alloc (Nat.le_refl _) (.cells #[.int .i64 s1, .int .i64 s2] 24)
  have hc2 := below2 hq2 ha2
  replace kx := kx.ext hc2
  replace h0 := h0.ext hc2
  replace hbw := hbw.trans (hc2.mono hbw.size)
  have k2 := Blk.new w2 24 #[.int .i64 s1, .int .i64 s2]
  clear hq2 hc2
  replace hr2 := hr2.ext ha2
  obtain ⟨k20, k21, k22, k23, k24⟩ := k2.two
  by_cases hs : s1 = 0
  · subst hs
    have ht := set_twice HS.out
    obtain ⟨R, hn1, hn2⟩ := set_none HS.out
    dsimp only at hn1 hn2
    have HT := Lib.hid ht; have HN1 := Lib.hid hn1; have HN2 := Lib.hid hn2
    clear ht hn1 hn2
    obtain ⟨x0, x1, x2, _, _, _, xb⟩ := kx.three
    have hset := set_ok _ L (xs, xn, xr) _ hr2 hx1 hx2 hx3
    rw [HT.out] at hset
    go_wp2_with fail
    refine (hset).mono ?_
    rintro e w3 ⟨v3, rfl, hr3, hq3⟩
    obtain ⟨A3, c3, rfl, _, _⟩ := hr3.form
    clear x0 x1 x2 xb hset k20 k21 k22 k23 k24
    have ha3 := (Below.refl w3.heap.size w3).alloc (Nat.le_refl _) (.cells #[.int .i64 0, .int .i64 0] 24)
    have hc3 := below2 hq3 ha3
    replace kx := kx.ext hc3
    replace h0 := h0.ext hc3
    replace k2 := k2.ext hc3
    replace hr2 := hr2.ext hc3
    replace hbw := hbw.trans (hc3.mono hbw.size)
    have k3 := Blk.new w3 24 #[.int .i64 0, .int .i64 0]
    clear hq3 hc3
    replace hr3 := hr3.ext ha3
    obtain ⟨x0, x1, x2, _, _, _, xb⟩ := kx.three
    obtain ⟨W3, hW3⟩ : ∃ W3, W3 = w3.alloc (.cells #[.int .i64 0, .int .i64 0] 24) := ⟨_, rfl⟩
    rw [← hW3] at x0 x1 x2 xb ha3 kx h0 hr2 hr3 k2 k3 hbw
    have ha4 := (Below.refl W3.heap.size W3).alloc (Nat.le_refl _) (.cells #[.string (bs xs), .bool xn, .int .i64 0] 47)
    have kn := Blk.new W3 47 #[.string (bs xs), .bool xn, .int .i64 0]
    replace kx := kx.ext ha4
    replace h0 := h0.ext ha4
    replace k2 := k2.ext ha4
    replace hr2 := hr2.ext ha4
    replace k3 := k3.ext ha4
    replace hr3 := hr3.ext ha4
    replace hbw := hbw.trans (ha4.mono hbw.size)
    have hsW : W3.heap.size = w3.heap.size + 1 := by rw [hW3, World.size_alloc]
    rw [hsW] at kn
    clear hsW
    have hset := set_ok _ L (xs, xn, 0) _ hr2 hx1 (by simp) (by simp)
    rw [HN1.out] at hset
    obtain ⟨y0, y1, y2, _, _, _, yb⟩ := kn.three
    rw [hW3] at x0 x1 x2 xb hset y0 y1 y2 yb ha4
    go_wp2_with fail
    rw [← hW3] at hset ha4 ⊢
    refine (hset).mono ?_
    rintro e w5 ⟨v5, rfl, hr5, hq4⟩
    obtain ⟨A5, c5, rfl, _, _⟩ := hr5.form
    clear x0 x1 x2 xb y0 y1 y2 yb hset hW3
    have ha4 := (Below.refl w5.heap.size w5).alloc (Nat.le_refl _) (.cells #[.int .i64 0, .int .i64 0] 24)
    have hc4 := below2 hq4 ha4
    replace kx := kx.ext hc4
    replace h0 := h0.ext hc4
    replace k2 := k2.ext hc4
    replace hr2 := hr2.ext hc4
    replace k3 := k3.ext hc4
    replace hr3 := hr3.ext hc4
    replace kn := kn.ext hc4
    replace hbw := hbw.trans (hc4.mono hbw.size)
    have k5 := Blk.new w5 24 #[.int .i64 0, .int .i64 0]
    clear hq4 hc4
    replace hr5 := hr5.ext ha4
    obtain ⟨y0, y1, y2, _, _, _, yb⟩ := kn.three
    have hset := set_ok _ l (xs, xn, 0) _ h0 hx1 (by simp) (by simp)
    rw [HN2.out] at hset
    go_wp2_with fail
    refine (hset).mono ?_
    rintro e w6 ⟨v6, rfl, hr6, hq5⟩
    obtain ⟨A6, c6, rfl, _, _⟩ := hr6.form
    clear y0 y1 y2 yb hset
    have ha5 := (Below.refl w6.heap.size w6).alloc (Nat.le_refl _) (.cells #[.int .i64 0, .int .i64 0] 24)
    have hc5 := below2 hq5 ha5
    replace kx := kx.ext hc5
    replace h0 := h0.ext hc5
    replace k2 := k2.ext hc5
    replace hr2 := hr2.ext hc5
    replace k3 := k3.ext hc5
    replace hr3 := hr3.ext hc5
    replace kn := kn.ext hc5
    replace k5 := k5.ext hc5
    replace hr5 := hr5.ext hc5
    replace hbw := hbw.trans (hc5.mono hbw.size)
    have k6 := Blk.new w6 24 #[.int .i64 0, .int .i64 0]
    clear hq5 hc5
    replace hr6 := hr6.ext ha5
    obtain ⟨p0, p1, _, _, _⟩ := k3.two
    obtain ⟨q0, q1, _, _, _⟩ := k5.two
    obtain ⟨r0, r1, _, _, _⟩ := k6.two
    have hsm := sameGrants_ok _ _ L L _ hr2 hr3
    rw [beq_self_eq_true] at hsm
    have Hr5 := Lib.hid hr5; have Hr6 := Lib.hid hr6; have Hk5 := Lib.hid k5; have Hk6 := Lib.hid k6
    clear hr5 hr6 k5 k6
    go_wp2_with fail
    refine hsm.mono ?_
    rintro e w7 ⟨rfl, hb7⟩
    have hsm2 := sameGrants_ok _ _ R R _ (Hr5.out.ext hb7) (Hr6.out.ext hb7)
    rw [beq_self_eq_true] at hsm2
    clear p0 p1 q0 q1 r0 r1
    obtain ⟨q0, q1, _, _, _⟩ := (Hk5.out.ext hb7).two
    obtain ⟨r0, r1, _, _, _⟩ := (Hk6.out.ext hb7).two
    go_wp2_with fail
    refine hsm2.mono ?_
    rintro e w8 ⟨rfl, hb8⟩
    go_wp2
    go_ret
    exact ⟨rfl, (hbw.trans (hb7.mono hbw.size)).trans (hb8.mono (by have := hb7.size; have := hbw.size; omega))⟩
  · have hsb : (s1 != 0) = true := by simpa using hs
    have hL : L = [] := by
      have h := HS.out
      unfold setR at h
      split at h
      · exact ((Prod.mk.injEq _ _ _ _).mp h).1.symm
      · split at h
        · exact ((Prod.mk.injEq _ _ _ _).mp h).1.symm
        · split at h
          · exact ((Prod.mk.injEq _ _ _ _).mp h).1.symm
          · split at h
            · exact ((Prod.mk.injEq _ _ _ _).mp h).1.symm
            · exact absurd (((Prod.mk.injEq _ _ _ _).mp ((Prod.mk.injEq _ _ _ _).mp h).2).1.symm) hs
    subst hL
    clear hs
    go_wp2
    go_ret
    exact ⟨rfl, hbw⟩
end Go.Proofs.Ytopldghfphgjoaa

/-
  The results of Create, Delete and Rename are valid: the law's walk.
-/
import Derived.Test.YtinmpjhmbciapaaDoorFoEx
namespace Go.Proofs.YtinmpjhmbciapaaDoor
open Go.RowKit
theorem valid_small {a : List Str} (h : foldersF a = (0, 0)) : ∀ s ∈ a, s.length ≤ 4000000 := fun s hs => by
  have := path_len ((valid_of_folders (l := a) (by rw [h])).path s hs)
  omega

set_option maxRecDepth 100000 in
set_option maxHeartbeats 8000000 in
theorem fstay_walk (v0 : Value) (l : List Str) (n t : Str) (w : World) (hl0 : SlR strC M0 w v0 l) (hz : ∀ s ∈ l, s.length ≤ 4000000) (hn : n.length ≤ 4000000) (ht : t.length ≤ 4000000) :
    Calls Tryd.prog 7 #[v0, .string (bs n), .string (bs t)] w fun e w' => e = .returned (.bool true) ∧ Below w.heap.size w w' := by
  obtain ⟨A0, c0, rfl, hlc0, hcm0⟩ := hl0.form
  have hbw := Below.refl w.heap.size w
  obtain ⟨⟨L1, x1, y1⟩, hF1⟩ : ∃ r, createF l n = r := ⟨_, rfl⟩
  have HF1 := Lib.hid hF1
  clear hF1
  obtain ⟨⟨L2, x2, y2⟩, hF2⟩ : ∃ r, deleteF l n = r := ⟨_, rfl⟩
  have HF2 := Lib.hid hF2
  clear hF2
  obtain ⟨⟨L3, x3, y3⟩, hF3⟩ : ∃ r, renameF l n t = r := ⟨_, rfl⟩
  have HF3 := Lib.hid hF3
  clear hF3
  go_enter Tryd.func7, Tryd.ntmps7
  have hc := create_ok' _ l n _ hl0 hz hn
  rw [HF1.out] at hc
  go_wp2_with fail
  refine (hc).mono ?_
  rintro e w1 ⟨v1, rfl, hr1, hq1⟩
  clear hc
  dsimp only at hr1 ⊢
  have ha1 := (Below.refl w1.heap.size w1).alloc (Nat.le_refl _) (.cells #[.int .i64 x1, .int .i64 y1] 24)
  have hc1 := below2 hq1 ha1
  replace hl0 := hl0.ext hc1
  replace hbw := hbw.trans (hc1.mono hbw.size)
  have k1 := Blk.new w1 24 #[.int .i64 x1, .int .i64 y1]
  clear hq1 hc1
  replace hr1 := hr1.ext ha1
  obtain ⟨A1, c1, rfl, _, _⟩ := hr1.form
  have hc := delete_ok' _ l n _ hl0 hz hn
  rw [HF2.out] at hc
  go_wp2_with fail
  refine (hc).mono ?_
  rintro e w2 ⟨v2, rfl, hr2, hq2⟩
  clear hc
  dsimp only at hr2 ⊢
  have ha2 := (Below.refl w2.heap.size w2).alloc (Nat.le_refl _) (.cells #[.int .i64 x2, .int .i64 y2] 24)
  have hc2 := below2 hq2 ha2
  replace hl0 := hl0.ext hc2
  replace k1 := k1.ext hc2
  replace hr1 := hr1.ext hc2
  replace hbw := hbw.trans (hc2.mono hbw.size)
  have k2 := Blk.new w2 24 #[.int .i64 x2, .int .i64 y2]
  clear hq2 hc2
  replace hr2 := hr2.ext ha2
  obtain ⟨A2, c2, rfl, _, _⟩ := hr2.form
  have hc := rename_ok' _ l n t _ hl0 hz hn ht
  rw [HF3.out] at hc
  go_wp2_with fail
  refine (hc).mono ?_
  rintro e w3 ⟨v3, rfl, hr3, hq3⟩
  clear hc
  dsimp only at hr3 ⊢
  have ha3 := (Below.refl w3.heap.size w3).alloc (Nat.le_refl _) (.cells #[.int .i64 x3, .int .i64 y3] 24)
  have hc3 := below2 hq3 ha3
  replace hl0 := hl0.ext hc3
  replace k1 := k1.ext hc3
  replace hr1 := hr1.ext hc3
  replace k2 := k2.ext hc3
  replace hr2 := hr2.ext hc3
  replace hbw := hbw.trans (hc3.mono hbw.size)
  have k3 := Blk.new w3 24 #[.int .i64 x3, .int .i64 y3]
  clear hq3 hc3
  replace hr3 := hr3.ext ha3
  obtain ⟨A3, c3, rfl, _, _⟩ := hr3.form
  clear ha1 ha2 ha3
  go_wp2_with fail
  refine (fexample_ok _).mono ?_
  rintro e w4 ⟨rfl, hq4⟩
  replace hl0 := hl0.ext hq4
  replace k1 := k1.ext hq4
  replace hr1 := hr1.ext hq4
  replace k2 := k2.ext hq4
  replace hr2 := hr2.ext hq4
  replace k3 := k3.ext hq4
  replace hr3 := hr3.ext hq4
  replace hbw := hbw.trans (hq4.mono hbw.size)
  clear hq4
  have Hz := Lib.hid hz
  clear hz
  by_cases hx1 : x1 = 0
  · subst hx1
    obtain ⟨p0, _, _, _, _⟩ := k1.two
    have hs := create_stays HF1.out
    have hv := validate_ok _ L1 _ hr1 (valid_small hs)
    rw [hs] at hv
    clear hs
    have hcd := run_code 0 0
    have Hcd := Lib.hid hcd; clear hcd
    go_wp2_with fail
    refine (hv).mono ?_
    rintro e w5 ⟨rfl, hq5⟩
    replace hl0 := hl0.ext hq5
    replace k1 := k1.ext hq5
    replace hr1 := hr1.ext hq5
    replace k2 := k2.ext hq5
    replace hr2 := hr2.ext hq5
    replace k3 := k3.ext hq5
    replace hr3 := hr3.ext hq5
    replace hbw := hbw.trans (hq5.mono hbw.size)
    clear hq5
    clear hv p0
    have hcd := Hcd.out
    clear Hcd
    by_cases hx2 : x2 = 0
    · subst hx2
      obtain ⟨p0, _, _, _, _⟩ := k2.two
      have hs := delete_stays HF2.out
      have hv := validate_ok _ L2 _ hr2 (valid_small hs)
      rw [hs] at hv
      clear hs
      have hcd := run_code 0 0
      have Hcd := Lib.hid hcd; clear hcd
      go_wp2_with fail
      refine (hv).mono ?_
      rintro e w6 ⟨rfl, hq6⟩
      replace hl0 := hl0.ext hq6
      replace k1 := k1.ext hq6
      replace hr1 := hr1.ext hq6
      replace k2 := k2.ext hq6
      replace hr2 := hr2.ext hq6
      replace k3 := k3.ext hq6
      replace hr3 := hr3.ext hq6
      replace hbw := hbw.trans (hq6.mono hbw.size)
      clear hq6
      clear hv p0
      have hcd := Hcd.out
      clear Hcd
      by_cases hx3 : x3 = 0
      · subst hx3
        obtain ⟨p0, _, _, _, _⟩ := k3.two
        have hs := rename_stays HF3.out
        have hv := validate_ok _ L3 _ hr3 (valid_small hs)
        rw [hs] at hv
        clear hs
        have hcd := run_code 0 0
        have Hcd := Lib.hid hcd; clear hcd
        go_wp2_with fail
        refine (hv).mono ?_
        rintro e w7 ⟨rfl, hq7⟩
        replace hl0 := hl0.ext hq7
        replace k1 := k1.ext hq7
        replace hr1 := hr1.ext hq7
        replace k2 := k2.ext hq7
        replace hr2 := hr2.ext hq7
        replace k3 := k3.ext hq7
        replace hr3 := hr3.ext hq7
        replace hbw := hbw.trans (hq7.mono hbw.size)
        clear hq7
        clear hv p0
        have hcd := Hcd.out
        clear Hcd
        go_wp2
        go_ret
        exact ⟨rfl, hbw⟩
      · have hb3 : (x3 != 0) = true := by simpa using hx3
        clear hx3
        obtain ⟨p30, _, _, _, _⟩ := k3.two
        go_wp2
        go_ret
        exact ⟨rfl, hbw⟩
    · have hb2 : (x2 != 0) = true := by simpa using hx2
      clear hx2
      obtain ⟨p20, _, _, _, _⟩ := k2.two
      by_cases hx3 : x3 = 0
      · subst hx3
        obtain ⟨p0, _, _, _, _⟩ := k3.two
        have hs := rename_stays HF3.out
        have hv := validate_ok _ L3 _ hr3 (valid_small hs)
        rw [hs] at hv
        clear hs
        have hcd := run_code 0 0
        have Hcd := Lib.hid hcd; clear hcd
        go_wp2_with fail
        refine (hv).mono ?_
        rintro e w8 ⟨rfl, hq8⟩
        replace hl0 := hl0.ext hq8
        replace k1 := k1.ext hq8
        replace hr1 := hr1.ext hq8
        replace k2 := k2.ext hq8
        replace hr2 := hr2.ext hq8
        replace k3 := k3.ext hq8
        replace hr3 := hr3.ext hq8
        replace hbw := hbw.trans (hq8.mono hbw.size)
        clear hq8
        clear hv p0
        have hcd := Hcd.out
        clear Hcd
        go_wp2
        go_ret
        exact ⟨rfl, hbw⟩
      · have hb3 : (x3 != 0) = true := by simpa using hx3
        clear hx3
        obtain ⟨p30, _, _, _, _⟩ := k3.two
        go_wp2
        go_ret
        exact ⟨rfl, hbw⟩
  · have hb1 : (x1 != 0) = true := by simpa using hx1
    clear hx1
    obtain ⟨p10, _, _, _, _⟩ := k1.two
    by_cases hx2 : x2 = 0
    · subst hx2
      obtain ⟨p0, _, _, _, _⟩ := k2.two
      have hs := delete_stays HF2.out
      have hv := validate_ok _ L2 _ hr2 (valid_small hs)
      rw [hs] at hv
      clear hs
      have hcd := run_code 0 0
      have Hcd := Lib.hid hcd; clear hcd
      go_wp2_with fail
      refine (hv).mono ?_
      rintro e w9 ⟨rfl, hq9⟩
      replace hl0 := hl0.ext hq9
      replace k1 := k1.ext hq9
      replace hr1 := hr1.ext hq9
      replace k2 := k2.ext hq9
      replace hr2 := hr2.ext hq9
      replace k3 := k3.ext hq9
      replace hr3 := hr3.ext hq9
      replace hbw := hbw.trans (hq9.mono hbw.size)
      clear hq9
      clear hv p0
      have hcd := Hcd.out
      clear Hcd
      by_cases hx3 : x3 = 0
      · subst hx3
        obtain ⟨p0, _, _, _, _⟩ := k3.two
        have hs := rename_stays HF3.out
        have hv := validate_ok _ L3 _ hr3 (valid_small hs)
        rw [hs] at hv
        clear hs
        have hcd := run_code 0 0
        have Hcd := Lib.hid hcd; clear hcd
        go_wp2_with fail
        refine (hv).mono ?_
        rintro e w10 ⟨rfl, hq10⟩
        replace hl0 := hl0.ext hq10
        replace k1 := k1.ext hq10
        replace hr1 := hr1.ext hq10
        replace k2 := k2.ext hq10
        replace hr2 := hr2.ext hq10
        replace k3 := k3.ext hq10
        replace hr3 := hr3.ext hq10
        replace hbw := hbw.trans (hq10.mono hbw.size)
        clear hq10
        clear hv p0
        have hcd := Hcd.out
        clear Hcd
        go_wp2
        go_ret
        exact ⟨rfl, hbw⟩
      · have hb3 : (x3 != 0) = true := by simpa using hx3
        clear hx3
        obtain ⟨p30, _, _, _, _⟩ := k3.two
        go_wp2
        go_ret
        exact ⟨rfl, hbw⟩
    · have hb2 : (x2 != 0) = true := by simpa using hx2
      clear hx2
      obtain ⟨p20, _, _, _, _⟩ := k2.two
      by_cases hx3 : x3 = 0
      · subst hx3
        obtain ⟨p0, _, _, _, _⟩ := k3.two
        have hs := rename_stays HF3.out
        have hv := validate_ok _ L3 _ hr3 (valid_small hs)
        rw [hs] at hv
        clear hs
        have hcd := run_code 0 0
        have Hcd := Lib.hid hcd; clear hcd
        go_wp2_with fail
        refine (hv).mono ?_
        rintro e w11 ⟨rfl, hq11⟩
        replace hl0 := hl0.ext hq11
        replace k1 := k1.ext hq11
        replace hr1 := hr1.ext hq11
        replace k2 := k2.ext hq11
        replace hr2 := hr2.ext hq11
        replace k3 := k3.ext hq11
        replace hr3 := hr3.ext hq11
        replace hbw := hbw.trans (hq11.mono hbw.size)
        clear hq11
        clear hv p0
        have hcd := Hcd.out
        clear Hcd
        go_wp2
        go_ret
        exact ⟨rfl, hbw⟩
      · have hb3 : (x3 != 0) = true := by simpa using hx3
        clear hx3
        obtain ⟨p30, _, _, _, _⟩ := k3.two
        go_wp2
        go_ret
        exact ⟨rfl, hbw⟩
end Go.Proofs.YtinmpjhmbciapaaDoor

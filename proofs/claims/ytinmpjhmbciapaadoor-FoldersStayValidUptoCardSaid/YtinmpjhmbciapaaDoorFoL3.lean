/-
  Renaming back yields all: the law's walk.
-/
import Derived.Test.YtinmpjhmbciapaaDoorFoEx
namespace Go.Proofs.YtinmpjhmbciapaaDoor
open Go.RowKit
theorem valid_small3 {a : List Str} (h : foldersF a = (0, 0)) : ∀ s ∈ a, s.length ≤ 4000000 := fun s hs => by
  have := path_len ((valid_of_folders (l := a) (by rw [h])).path s hs)
  omega

set_option maxRecDepth 100000 in
set_option maxHeartbeats 8000000 in
theorem fback_walk (v0 : Value) (l : List Str) (f t : Str) (w : World) (hl0 : SlR strC M0 w v0 l) (hz : ∀ s ∈ l, s.length ≤ 4000000) (hf : f.length ≤ 4000000) (ht : t.length ≤ 4000000) :
    Calls Tryd.prog 8 #[v0, .string (bs f), .string (bs t)] w fun e w' => e = .returned (.bool true) ∧ Below w.heap.size w w' := by
  obtain ⟨A0, c0, rfl, hlc0, hcm0⟩ := hl0.form
  have hbw := Below.refl w.heap.size w
  obtain ⟨⟨L1, x1, y1⟩, hF1⟩ : ∃ r, renameF l f t = r := ⟨_, rfl⟩
  have HF1 := Lib.hid hF1
  clear hF1
  have htm : t.length ≤ maxLen := by unfold maxLen; omega
  go_enter Tryd.func8, Tryd.ntmps8
  go_wp2_with fail
  refine (fexample_ok _).mono ?_
  rintro e w1 ⟨rfl, hq1⟩
  replace hl0 := hl0.ext hq1
  replace hbw := hbw.trans (hq1.mono hbw.size)
  clear hq1
  have hc := rename_ok' _ l f t _ hl0 hz hf ht
  rw [HF1.out] at hc
  go_wp2_with fail
  refine (hc).mono ?_
  rintro e w2 ⟨v1, rfl, hr1, hq2⟩
  clear hc
  dsimp only at hr1 ⊢
  have ha2 := (Below.refl w2.heap.size w2).alloc (Nat.le_refl _) (.cells #[.int .i64 x1, .int .i64 y1] 24)
  have hc2 := below2 hq2 ha2
  replace hl0 := hl0.ext hc2
  replace hbw := hbw.trans (hc2.mono hbw.size)
  have k1 := Blk.new w2 24 #[.int .i64 x1, .int .i64 y1]
  clear hq2 hc2
  replace hr1 := hr1.ext ha2
  clear ha2
  obtain ⟨A1, c1, rfl, hlc1, hcm1⟩ := hr1.form
  obtain ⟨p0, _, _, _, _⟩ := k1.two
  by_cases hx : x1 = 0
  · subst hx
    have hab := fun W => aboveR_ok t htm W
    have hal : (aboveF t).length ≤ t.length := by
      by_cases h : t = []
      · rw [h]; exact Nat.le_refl _
      · exact Nat.le_of_lt (above_lt t h)
    obtain ⟨a, ha⟩ : ∃ a, aboveF t = a := ⟨_, rfl⟩
    rw [ha] at hab hal
    have Ha := Lib.hid ha; have Hab := Lib.hid hab
    clear ha hab
    cases hae : a with
    | nil =>
      have hcond : aboveF t = [] ∨ (aboveF t ∈ l ∧ ¬ underF (aboveF t) f) := .inl (by rw [Ha.out, hae])
      have Hcond := Lib.hid hcond
      subst hae
      clear hcond
      go_wp2_with fail
      refine (Hab.out _).mono ?_
      rintro e w7 ⟨rfl, rfl⟩
      have hd := rename_back HF1.out Hcond.out
      have hsv := rename_stays HF1.out
      have hc := rename_ok' _ L1 t f _ hr1 (valid_small3 hsv) ht hf
      rw [hd] at hc
      clear hd hsv
      go_wp2_with fail
      refine (hc).mono ?_
      rintro e w3 ⟨v3, rfl, hr3, hq3⟩
      clear hc p0
      dsimp only at hr3 ⊢
      have ha3 := (Below.refl w3.heap.size w3).alloc (Nat.le_refl _) (.cells #[.int .i64 0, .int .i64 0] 24)
      have hc3 := below2 hq3 ha3
      replace hl0 := hl0.ext hc3
      replace k1 := k1.ext hc3
      replace hr1 := hr1.ext hc3
      replace hbw := hbw.trans (hc3.mono hbw.size)
      have k3 := Blk.new w3 24 #[.int .i64 0, .int .i64 0]
      clear hq3 hc3
      replace hr3 := hr3.ext ha3
      clear ha3
      obtain ⟨A3, c3, rfl, _, _⟩ := hr3.form
      obtain ⟨p0, _, _, _, _⟩ := k3.two
      have htx := texts_ok _ _ l l _ hr3 hl0
      rw [beq_self_eq_true] at htx
      have Htx := Lib.hid htx; clear htx
      go_wp2_with fail
      refine (Htx.out).mono ?_
      rintro e w9 ⟨rfl, hq4⟩
      replace hl0 := hl0.ext hq4
      replace k1 := k1.ext hq4
      replace hr1 := hr1.ext hq4
      replace k3 := k3.ext hq4
      replace hr3 := hr3.ext hq4
      replace hbw := hbw.trans (hq4.mono hbw.size)
      clear hq4
      go_wp2
      go_ret
      exact ⟨rfl, hbw⟩
    | cons ch u =>
      have hne : a ≠ [] := by rw [hae]; simp
      have hnb : (a == ([] : List UInt8)) = false := by simpa using hne
      clear hae
      have hht := hasText_ok M0 _ l a _ hl0
      rw [any_mem] at hht
      obtain ⟨t1, htt⟩ : ∃ t, decide (a ∈ l) = t := ⟨_, rfl⟩
      rw [htt] at hht
      have hud := fun W => under_ok a f (by unfold maxLen; omega) W
      obtain ⟨t2, htu⟩ : ∃ t, decide (f ∈ ancF a) = t := ⟨_, rfl⟩
      rw [htu] at hud
      have Htt := Lib.hid htt; have Hne := Lib.hid hne; have Hht := Lib.hid hht; have Hud := Lib.hid hud; have Htu := Lib.hid htu
      clear htt hne hht hud htu
      go_wp2_with fail
      refine (Hab.out _).mono ?_
      rintro e w7 ⟨rfl, rfl⟩
      go_wp2_with fail
      refine (Hab.out _).mono ?_
      rintro e w7 ⟨rfl, rfl⟩
      go_wp2_with fail
      refine Hht.out.mono ?_
      rintro e w7 ⟨rfl, rfl⟩
      cases t1 with
      | true =>
        go_wp2_with fail
        refine (Hab.out _).mono ?_
        rintro e w7 ⟨rfl, rfl⟩
        go_wp2_with fail
        refine (Hud.out _).mono ?_
        rintro e w7 ⟨rfl, rfl⟩
        cases t2 with
        | true =>
          go_wp2
          go_ret
          exact ⟨rfl, hbw⟩
        | false =>
          have hcond : aboveF t = [] ∨ (aboveF t ∈ l ∧ ¬ underF (aboveF t) f) := .inr ⟨by rw [Ha.out]; simpa using Htt.out, fun hu => by
            have h := Htu.out
            rw [decide_eq_false_iff_not, mem_anc] at h
            rw [Ha.out] at hu
            exact h ⟨fun e => by
              obtain ⟨q1, q2, _⟩ := rename_ok HF1.out
              exact path_ne (q1.path f q2) e, hu⟩⟩
          have Hcond := Lib.hid hcond
          clear hcond
          have hd := rename_back HF1.out Hcond.out
          have hsv := rename_stays HF1.out
          have hc := rename_ok' _ L1 t f _ hr1 (valid_small3 hsv) ht hf
          rw [hd] at hc
          clear hd hsv
          go_wp2_with fail
          refine (hc).mono ?_
          rintro e w3 ⟨v3, rfl, hr3, hq5⟩
          clear hc p0
          dsimp only at hr3 ⊢
          have ha5 := (Below.refl w3.heap.size w3).alloc (Nat.le_refl _) (.cells #[.int .i64 0, .int .i64 0] 24)
          have hc5 := below2 hq5 ha5
          replace hl0 := hl0.ext hc5
          replace k1 := k1.ext hc5
          replace hr1 := hr1.ext hc5
          replace hbw := hbw.trans (hc5.mono hbw.size)
          have k3 := Blk.new w3 24 #[.int .i64 0, .int .i64 0]
          clear hq5 hc5
          replace hr3 := hr3.ext ha5
          clear ha5
          obtain ⟨A3, c3, rfl, _, _⟩ := hr3.form
          obtain ⟨p0, _, _, _, _⟩ := k3.two
          have htx := texts_ok _ _ l l _ hr3 hl0
          rw [beq_self_eq_true] at htx
          have Htx := Lib.hid htx; clear htx
          go_wp2_with fail
          refine (Htx.out).mono ?_
          rintro e w9 ⟨rfl, hq6⟩
          replace hl0 := hl0.ext hq6
          replace k1 := k1.ext hq6
          replace hr1 := hr1.ext hq6
          replace k3 := k3.ext hq6
          replace hr3 := hr3.ext hq6
          replace hbw := hbw.trans (hq6.mono hbw.size)
          clear hq6
          go_wp2
          go_ret
          exact ⟨rfl, hbw⟩
      | false =>
        go_wp2
        go_ret
        exact ⟨rfl, hbw⟩
  · have hb1 : (x1 != 0) = true := by simpa using hx
    have hnil := rename_nil HF1.out hx
    subst hnil
    clear hx
    go_wp2
    go_ret
    exact ⟨rfl, hbw⟩
end Go.Proofs.YtinmpjhmbciapaaDoor

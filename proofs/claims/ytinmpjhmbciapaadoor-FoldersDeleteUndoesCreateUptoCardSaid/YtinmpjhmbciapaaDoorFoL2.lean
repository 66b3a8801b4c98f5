/-
  Deleting undoes creating: the law's walk.
-/
import Derived.Test.YtinmpjhmbciapaaDoorFoEx
namespace Go.Proofs.YtinmpjhmbciapaaDoor
open Go.RowKit
theorem valid_small2 {a : List Str} (h : foldersF a = (0, 0)) : ∀ s ∈ a, s.length ≤ 4000000 := fun s hs => by
  have := path_len ((valid_of_folders (l := a) (by rw [h])).path s hs)
  omega

set_option maxRecDepth 100000 in
set_option maxHeartbeats 8000000 in
theorem fundo_walk (v0 : Value) (l : List Str) (n : Str) (w : World) (hl0 : SlR strC M0 w v0 l) (hz : ∀ s ∈ l, s.length ≤ 4000000) (hn : n.length ≤ 4000000) :
    Calls Tryd.prog 9 #[v0, .string (bs n)] w fun e w' => e = .returned (.bool true) ∧ Below w.heap.size w w' := by
  obtain ⟨A0, c0, rfl, hlc0, hcm0⟩ := hl0.form
  have hbw := Below.refl w.heap.size w
  obtain ⟨⟨L1, x1, y1⟩, hF1⟩ : ∃ r, createF l n = r := ⟨_, rfl⟩
  have HF1 := Lib.hid hF1
  clear hF1
  have hnm : n.length ≤ maxLen := by unfold maxLen; omega
  go_enter Tryd.func9, Tryd.ntmps9
  go_wp2_with fail
  refine (fexample_ok _).mono ?_
  rintro e w1 ⟨rfl, hq1⟩
  replace hl0 := hl0.ext hq1
  replace hbw := hbw.trans (hq1.mono hbw.size)
  clear hq1
  have hc := create_ok' _ l n _ hl0 hz hn
  rw [HF1.out] at hc
  go_wp2_with fail
  refine (hc).mono ?_
  rintro e w2 ⟨v1, rfl, hr1, hq2⟩
  clear hc
  dsimp only at hr1 ⊢
  have ha2 := (Below.refl w2.heap.size w2).alloc (Nat.le_refl _) (.cells #[.int .i64 x1, .int .i64 y1] 24)
  have hc2 := below2 hq2 ha2
  replace hl0 := hl0.ext hc2
  replace hbw := hbw.trans (hc2.mono hbw.size)
  have k1 := Blk.new w2 24 #[.int .i64 x1, .int .i64 y1]
  clear hq2 hc2
  replace hr1 := hr1.ext ha2
  clear ha2
  obtain ⟨A1, c1, rfl, hlc1, hcm1⟩ := hr1.form
  obtain ⟨p0, _, _, _, _⟩ := k1.two
  by_cases hx : x1 = 0
  · subst hx
    have hlb : L1.length ≤ 9223372036854775807 ∧ l.length ≤ 100 := by
      obtain ⟨q1, _, _, _, q5⟩ := create_ok HF1.out
      exact ⟨by omega, q1.len⟩
    have hlb1 := hlb.1
    have hlb2 := hlb.2
    clear hlb
    have hab := fun W => aboveR_ok n hnm W
    obtain ⟨a, ha⟩ : ∃ a, aboveF n = a := ⟨_, rfl⟩
    rw [ha] at hab
    have Ha := Lib.hid ha; have Hab := Lib.hid hab
    clear ha hab
    cases hae : a with
    | nil =>
      have hcond : aboveF n = [] ∨ aboveF n ∈ l := .inl (by rw [Ha.out, hae])
      have Hcond := Lib.hid hcond
      subst hae
      clear hcond
      go_wp2_with fail
      refine (Hab.out _).mono ?_
      rintro e w7 ⟨rfl, rfl⟩
      have hd := delete_create HF1.out Hcond.out
      have hsv := create_stays HF1.out
      have hc := delete_ok' _ L1 n _ hr1 (valid_small2 hsv) hn
      rw [hd] at hc
      clear hd hsv
      go_wp2_with fail
      refine (hc).mono ?_
      rintro e w3 ⟨v3, rfl, hr3, hq3⟩
      clear hc p0
      dsimp only at hr3 ⊢
      have ha3 := (Below.refl w3.heap.size w3).alloc (Nat.le_refl _) (.cells #[.int .i64 0, .int .i64 0] 24)
      have hc3 := below2 hq3 ha3
      replace hl0 := hl0.ext hc3
      replace k1 := k1.ext hc3
      replace hr1 := hr1.ext hc3
      replace hbw := hbw.trans (hc3.mono hbw.size)
      have k3 := Blk.new w3 24 #[.int .i64 0, .int .i64 0]
      clear hq3 hc3
      replace hr3 := hr3.ext ha3
      clear ha3
      obtain ⟨A3, c3, rfl, _, _⟩ := hr3.form
      obtain ⟨p0, _, _, _, _⟩ := k3.two
      have htx := texts_ok _ _ l l _ hr3 hl0
      rw [beq_self_eq_true] at htx
      have Htx := Lib.hid htx; clear htx
      go_wp2_with fail
      refine (Htx.out).mono ?_
      rintro e w9 ⟨rfl, hq4⟩
      replace hl0 := hl0.ext hq4
      replace k1 := k1.ext hq4
      replace hr1 := hr1.ext hq4
      replace k3 := k3.ext hq4
      replace hr3 := hr3.ext hq4
      replace hbw := hbw.trans (hq4.mono hbw.size)
      clear hq4
      go_wp2
      go_ret
      exact ⟨rfl, hbw⟩
    | cons ch u =>
      have hne : a ≠ [] := by rw [hae]; simp
      have hnb : (a == ([] : List UInt8)) = false := by simpa using hne
      clear hae
      have hht := hasText_ok M0 _ l a _ hl0
      rw [any_mem] at hht
      obtain ⟨t, htt⟩ : ∃ t, decide (a ∈ l) = t := ⟨_, rfl⟩
      rw [htt] at hht
      have Htt := Lib.hid htt; have Hne := Lib.hid hne; have Hht := Lib.hid hht
      clear htt hne hht
      go_wp2_with fail
      refine (Hab.out _).mono ?_
      rintro e w7 ⟨rfl, rfl⟩
      go_wp2_with fail
      refine (Hab.out _).mono ?_
      rintro e w7 ⟨rfl, rfl⟩
      go_wp2_with fail
      refine Hht.out.mono ?_
      rintro e w7 ⟨rfl, rfl⟩
      cases t with
      | true =>
        have hcond : aboveF n = [] ∨ aboveF n ∈ l := .inr (by rw [Ha.out]; simpa using Htt.out)
        have Hcond := Lib.hid hcond
        clear hcond
        have hd := delete_create HF1.out Hcond.out
        have hsv := create_stays HF1.out
        have hc := delete_ok' _ L1 n _ hr1 (valid_small2 hsv) hn
        rw [hd] at hc
        clear hd hsv
        go_wp2_with fail
        refine (hc).mono ?_
        rintro e w3 ⟨v3, rfl, hr3, hq5⟩
        clear hc p0
        dsimp only at hr3 ⊢
        have ha5 := (Below.refl w3.heap.size w3).alloc (Nat.le_refl _) (.cells #[.int .i64 0, .int .i64 0] 24)
        have hc5 := below2 hq5 ha5
        replace hl0 := hl0.ext hc5
        replace k1 := k1.ext hc5
        replace hr1 := hr1.ext hc5
        replace hbw := hbw.trans (hc5.mono hbw.size)
        have k3 := Blk.new w3 24 #[.int .i64 0, .int .i64 0]
        clear hq5 hc5
        replace hr3 := hr3.ext ha5
        clear ha5
        obtain ⟨A3, c3, rfl, _, _⟩ := hr3.form
        obtain ⟨p0, _, _, _, _⟩ := k3.two
        have htx := texts_ok _ _ l l _ hr3 hl0
        rw [beq_self_eq_true] at htx
        have Htx := Lib.hid htx; clear htx
        go_wp2_with fail
        refine (Htx.out).mono ?_
        rintro e w9 ⟨rfl, hq6⟩
        replace hl0 := hl0.ext hq6
        replace k1 := k1.ext hq6
        replace hr1 := hr1.ext hq6
        replace k3 := k3.ext hq6
        replace hr3 := hr3.ext hq6
        replace hbw := hbw.trans (hq6.mono hbw.size)
        clear hq6
        go_wp2
        go_ret
        exact ⟨rfl, hbw⟩
      | false =>
        have hlong := create_longer HF1.out (by rw [Ha.out]; exact Hne.out) (by rw [Ha.out]; simpa using Htt.out)
        have hlong2 : (l.length : Int) + 1 < (L1.length : Int) := by omega
        clear hlong
        go_wp2
        go_ret
        exact ⟨rfl, hbw⟩
  · have hb1 : (x1 != 0) = true := by simpa using hx
    have hnil := create_nil HF1.out hx
    subst hnil
    clear hx
    go_wp2
    go_ret
    exact ⟨rfl, hbw⟩
end Go.Proofs.YtinmpjhmbciapaaDoor

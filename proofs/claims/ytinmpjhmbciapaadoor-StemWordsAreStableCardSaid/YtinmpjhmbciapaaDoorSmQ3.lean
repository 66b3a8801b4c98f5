/-
  The words of the words of a text, separated by spaces, are the same: the law's walk.
-/
import Derived.Test.YtinmpjhmbciapaaDoorSmEx
import Derived.Test.YtinmpjhmbciapaaDoorSmV
namespace Go.Proofs.YtinmpjhmbciapaaDoor
open Go.RowKit
set_option linter.unusedVariables false
def joinW (l : List Str) : Str := l.flatMap fun w => w ++ [32]
theorem joinW_take (l : List Str) (k : Nat) (h : k < l.length) : joinW (l.take (k + 1)) = joinW (l.take k) ++ l[k] ++ [32] := by
  unfold joinW
  rw [List.take_succ_eq_append_getElem h, List.flatMap_append]
  simp
theorem joinW_le (l : List Str) (k : Nat) : (joinW (l.take k)).length ≤ (joinW l).length := by
  conv => rhs; rw [← List.take_append_drop k l]
  unfold joinW
  rw [List.flatMap_append, List.length_append]
  omega
theorem joinW_len (l : List Str) : (joinW l).length = (l.map List.length).sum + l.length := by
  induction l with
  | nil => rfl
  | cons x l ih =>
    unfold joinW at ih ⊢
    simp only [List.flatMap_cons, List.length_append, List.length_cons, List.length_nil, List.map_cons, List.sum_cons, ih]
    omega
theorem join_words (s : Str) (hs : s.length ≤ 4000) : (joinW (Sm.words s)).length ≤ 20000 := by
  have h1 := Sm.words_sum s.length [] s (Nat.le_refl _)
  have h2 := len_le_sum (l := (Sm.rawWords s).map List.length) (fun x hx => by
    obtain ⟨y, hy, rfl⟩ := List.mem_map.1 hx
    exact List.length_pos_iff.2 (h1.2 y hy))
  have h3 : ∀ R : List Str, ((R.map Sm.lower).map List.length).sum ≤ 4 * (R.map List.length).sum := by
    intro R
    induction R with
    | nil => exact Nat.le_refl _
    | cons x R ih =>
      have := Sm.lower_len x.length x (Nat.le_refl _)
      simp only [List.map_cons, List.sum_cons]
      omega
  have h4 := h3 (Sm.rawWords s)
  rw [joinW_len]
  unfold Sm.words
  rw [List.length_map] at h2 ⊢
  have h5 := h1.1
  simp only [List.length_nil, Nat.zero_add] at h5
  unfold Sm.rawWords at h2 h4 ⊢
  unfold Sm.wordsFrom at h5
  omega
set_option maxRecDepth 100000 in
set_option maxHeartbeats 8000000 in
theorem sstab_ok (s : Str) (w : World) (hs : s.length ≤ 4000) (hT : TabsU w) :
    Calls Tryd.prog 5 #[.string (bs s)] w fun e w' => e = .returned (.bool true) ∧ Below w.heap.size w w' := by
  have hbw := Below.refl w.heap.size w
  have hst := Sm.words_stable s
  have hjl := join_words s hs
  obtain ⟨L, hL⟩ : ∃ L, Sm.words s = L := ⟨_, rfl⟩
  rw [hL] at hst hjl
  have HL := Lib.hid hL; have Hst := Lib.hid hst
  clear hL hst
  obtain ⟨J, hJ⟩ : ∃ J, joinW L = J := ⟨_, rfl⟩
  rw [hJ] at hjl
  have HJ := Lib.hid hJ
  clear hJ
  go_enter Tryd.func5, Tryd.ntmps5
  go_wp2_with fail
  refine (sexample_ok _ hT).mono ?_
  rintro e w1 ⟨rfl, hq1⟩
  replace hT := hT.ext hq1
  replace hbw := hbw.trans (hq1.mono hbw.size)
  clear hq1
  have hc := stemWords_r s hs _ hT
  rw [HL.out] at hc
  go_wp2_with fail
  refine (hc).mono ?_
  rintro e w2 ⟨v1, rfl, hr1, hq2⟩
  clear hc
  have ha2 := (Below.refl w2.heap.size w2).alloc (Nat.le_refl _) (.cells #[.int .i64 0, .int .i64 0] 24)
  have hc2 := below2 hq2 ha2
  replace hT := hT.ext hc2
  replace hbw := hbw.trans (hc2.mono hbw.size)
  have k1 := Blk.new w2 24 #[.int .i64 0, .int .i64 0]
  clear hq2 hc2
  replace hr1 := hr1.ext ha2
  clear ha2
  obtain ⟨A1, c1, rfl, _, _⟩ := hr1.form
  obtain ⟨hlc1, hcm1⟩ := hr1.lenM
  obtain ⟨W, hW⟩ : ∃ W, W = w2.alloc (.cells #[.int .i64 0, .int .i64 0] 24) := ⟨_, rfl⟩
  rw [← hW] at hT hr1 k1 hbw
  have HW := Lib.hid hW
  clear hW
  go_wp2
  rw [← HW.out]
  go_loop [5, 6] (fun j i => ∃ k : Nat, k ≤ L.length ∧ i = .int .i64 k ∧ j = .string (bs (joinW (L.take k)))) (fun _ i => L.length - (intOf i).toNat)
  case atStart => exact ⟨0, Nat.zero_le _, rfl, rfl⟩
  case round =>
    obtain ⟨k, hk, rfl, rfl⟩ := hrel
    by_cases hlt : k < L.length
    · obtain ⟨b, off, rfl, _, _, hcell, _⟩ := hr1.strAt hlt
      have hjt := joinW_take L k hlt
      have hj1 := joinW_le L (k + 1)
      rw [hjt, HJ.out] at hj1
      obtain ⟨x, hx⟩ : ∃ x, L[k] = x := ⟨_, rfl⟩
      rw [hx] at hcell hjt hj1
      obtain ⟨j, hj⟩ : ∃ j, joinW (L.take k) = j := ⟨_, rfl⟩
      rw [hj] at hjt hj1 ⊢
      simp only [List.length_append, List.length_cons, List.length_nil] at hj1
      have hcat1 : (j.length + x.length ≤ 9223372036854775807) = True := by simp; omega
      have hcat2 : (j.length + x.length + 1 ≤ 9223372036854775807) = True := by simp; omega
      have hcat3 : (9223372036854775807 < j.length + x.length) = False := by simp; omega
      have hcat4 : (9223372036854775807 < j.length + x.length + 1) = False := by simp; omega
      have Hjt := Lib.hid hjt
      clear hjt hx hj hj1
      go_wp2
      go_round
      case rel => exact ⟨k + 1, by omega, by go_num, by rw [Hjt.out]; exact congrArg Value.string (by rw [← bs_append, ← bs_append]; rfl)⟩
      case measure => simp [intOf]; omega
    · obtain rfl : k = L.length := by omega
      rw [List.take_length, HJ.out]
      obtain ⟨p0, _, _, _, _⟩ := k1.two
      by_cases hlong : 4000 < J.length
      · have hd : decide ((4000 : Int) < (J.length : Int)) = true := by simp; omega
        go_wp2
        go_ret
        exact ⟨rfl, hbw⟩
      · have hd : decide ((4000 : Int) < (J.length : Int)) = false := by simp; omega
        have hst2 : Sm.words J = L := by rw [← HJ.out]; exact Hst.out
        have hc := stemWords_r J (by omega) _ hT
        rw [hst2] at hc
        clear hst2
        go_wp2_with fail
        refine (hc).mono ?_
        rintro e w3 ⟨v2, rfl, hr2, hq3⟩
        clear hc p0
        have ha3 := (Below.refl w3.heap.size w3).alloc (Nat.le_refl _) (.cells #[.int .i64 0, .int .i64 0] 24)
        have hc3 := below2 hq3 ha3
        replace hT := hT.ext hc3
        replace k1 := k1.ext hc3
        replace hr1 := hr1.ext hc3
        replace hbw := hbw.trans (hc3.mono hbw.size)
        have k2 := Blk.new w3 24 #[.int .i64 0, .int .i64 0]
        clear hq3 hc3
        replace hr2 := hr2.ext ha3
        clear ha3
        obtain ⟨A2, c2, rfl, _, _⟩ := hr2.form
        obtain ⟨p0, _, _, _, _⟩ := k2.two
        have htx := texts_ok _ _ L L _ hr1 hr2
        rw [beq_self_eq_true] at htx
        have Htx := Lib.hid htx; clear htx
        go_wp2_with fail
        refine (Htx.out).mono ?_
        rintro e w9 ⟨rfl, hq4⟩
        replace hT := hT.ext hq4
        replace k1 := k1.ext hq4
        replace hr1 := hr1.ext hq4
        replace k2 := k2.ext hq4
        replace hr2 := hr2.ext hq4
        replace hbw := hbw.trans (hq4.mono hbw.size)
        clear hq4
        go_wp2
        go_ret
        exact ⟨rfl, hbw⟩
theorem sstabLong_r (s : Str) (hs : 4000 < s.length) (w : World) : Calls Tryd.prog 10 #[.string (bs s)] w fun e w' => e = .returned (.tuple #[.slice none 0 0, .agg #[.int .i64 1, .int .i64 (-1)]]) ∧ Below w.heap.size w w' := stemWords_long s hs w
set_option maxRecDepth 100000 in
set_option maxHeartbeats 8000000 in
theorem sstab_walk (s : Str) (w : World) (hs : s.length ≤ maxLen) (hT : TabsU w) :
    Calls Tryd.prog 5 #[.string (bs s)] w fun e w' => e = .returned (.bool true) ∧ Below w.heap.size w w' := by
  by_cases h : s.length ≤ 4000
  · exact sstab_ok s w h hT
  have hbw := Below.refl w.heap.size w
  go_enter Tryd.func5, Tryd.ntmps5
  go_wp2_with fail
  refine (sexample_ok _ hT).mono ?_
  rintro e w1 ⟨rfl, hq1⟩
  replace hT := hT.ext hq1
  replace hbw := hbw.trans (hq1.mono hbw.size)
  clear hq1
  go_wp2_with fail
  refine (sstabLong_r s (by omega) _).mono ?_
  rintro e w2 ⟨rfl, hq2⟩
  have ha2 := (Below.refl w2.heap.size w2).alloc (Nat.le_refl _) (.cells #[.int .i64 1, .int .i64 (-1)] 24)
  have hc2 := below2 hq2 ha2
  replace hT := hT.ext hc2
  replace hbw := hbw.trans (hc2.mono hbw.size)
  have k1 := Blk.new w2 24 #[.int .i64 1, .int .i64 (-1)]
  clear hq2 hc2
  clear ha2
  obtain ⟨W, hW⟩ : ∃ W, W = w2.alloc (.cells #[.int .i64 1, .int .i64 (-1)] 24) := ⟨_, rfl⟩
  rw [← hW] at hT k1 hbw
  have HW := Lib.hid hW
  clear hW
  go_wp2
  rw [← HW.out]
  go_loop [6] (fun i => i = .int .i64 0) (fun i => (intOf i).toNat)
  case atStart => rfl
  case round =>
    subst hrel
    obtain ⟨p0, _, _, _, _⟩ := k1.two
    go_wp2
    go_ret
    exact ⟨rfl, hbw⟩
end Go.Proofs.YtinmpjhmbciapaaDoor

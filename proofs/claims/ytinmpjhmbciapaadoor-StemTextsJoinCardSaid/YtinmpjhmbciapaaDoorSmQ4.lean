/-
  The words of two texts with a full stop between them are those of both: the law's walk.
-/
import Derived.Test.YtinmpjhmbciapaaDoorSmEx
import Derived.Test.YtinmpjhmbciapaaDoorSmV
namespace Go.Proofs.YtinmpjhmbciapaaDoor
open Go.RowKit
set_option linter.unusedVariables false
def wordsF (s : Str) : List Str × Int × Int := if s.length ≤ 4000 then (Sm.words s, 0, 0) else ([], 1, -1)
theorem stemWords_any (s : Str) (w : World) (hT : TabsU w) : Calls Tryd.prog 10 #[.string (bs s)] w fun e w' => ∃ v, e = .returned (.tuple #[v, .agg #[.int .i64 (wordsF s).2.1, .int .i64 (wordsF s).2.2]]) ∧ SlR strC M0 w' v (wordsF s).1 ∧ Below w.heap.size w w' := by
  unfold wordsF
  by_cases h : s.length ≤ 4000
  · simp only [if_pos h]
    exact stemWords_r s h w hT
  · simp only [if_neg h]
    exact (stemWords_long s (by omega) w).mono fun e w' ⟨he, hb⟩ => ⟨_, he, SlR.nil _ _ _, hb⟩
theorem words_count (s : Str) (hs : s.length ≤ 4000) : (Sm.words s).length ≤ 4000 := by
  have h1 := Sm.words_sum s.length [] s (Nat.le_refl _)
  have h2 := len_le_sum (l := (Sm.rawWords s).map List.length) (fun x hx => by
    obtain ⟨y, hy, rfl⟩ := List.mem_map.1 hx
    exact List.length_pos_iff.2 (h1.2 y hy))
  rw [List.length_map] at h2
  have h3 := h1.1
  simp only [List.length_nil, Nat.zero_add] at h3
  unfold Sm.words
  rw [List.length_map]
  unfold Sm.rawWords at h2 ⊢
  unfold Sm.wordsFrom at h3
  omega
set_option maxRecDepth 100000 in
set_option maxHeartbeats 8000000 in
theorem sjoin_ok (a b : Str) (w : World) (hs : a.length + 1 + b.length ≤ 4000) (hT : TabsU w) :
    Calls Tryd.prog 6 #[.string (bs a), .string (bs b)] w fun e w' => e = .returned (.bool true) ∧ Below w.heap.size w w' := by
  have hbw := Below.refl w.heap.size w
  have hcat1 : (a.length + 1 ≤ 9223372036854775807) = True := by simp; omega
  have hcat2 : (a.length + 1 + b.length ≤ 9223372036854775807) = True := by simp; omega
  have hj := Sm.words_join a b
  have n1 := words_count a (by omega)
  have n2 := words_count b (by omega)
  obtain ⟨L1, hL1⟩ : ∃ L, Sm.words a = L := ⟨_, rfl⟩
  obtain ⟨L2, hL2⟩ : ∃ L, Sm.words b = L := ⟨_, rfl⟩
  rw [hL1, hL2] at hj
  rw [hL1] at n1
  rw [hL2] at n2
  have Hj := Lib.hid hj; have HL1 := Lib.hid hL1; have HL2 := Lib.hid hL2
  clear hj hL1 hL2
  go_enter Tryd.func6, Tryd.ntmps6
  go_wp2_with fail
  refine (sexample_ok _ hT).mono ?_
  rintro e w1 ⟨rfl, hq1⟩
  replace hT := hT.ext hq1
  replace hbw := hbw.trans (hq1.mono hbw.size)
  clear hq1
  have hc := stemWords_r a (by omega) _ hT
  rw [HL1.out] at hc
  go_wp2_with fail
  refine (hc).mono ?_
  rintro e w2 ⟨v1, rfl, hr1, hq2⟩
  clear hc
  have ha2 := (Below.refl w2.heap.size w2).alloc (Nat.le_refl _) (.cells #[.int .i64 0, .int .i64 0] 24)
  have hc2 := below2 hq2 ha2
  replace hT := hT.ext hc2
  replace hbw := hbw.trans (hc2.mono hbw.size)
  have k1 := Blk.new w2 24 #[.int .i64 0, .int .i64 0]
  clear hq2 hc2
  replace hr1 := hr1.ext ha2
  clear ha2
  obtain ⟨A1, c1, rfl, _, _⟩ := hr1.form
  have hc := stemWords_r b (by omega) _ hT
  rw [HL2.out] at hc
  go_wp2_with fail
  refine (hc).mono ?_
  rintro e w3 ⟨v2, rfl, hr2, hq3⟩
  clear hc
  have ha3 := (Below.refl w3.heap.size w3).alloc (Nat.le_refl _) (.cells #[.int .i64 0, .int .i64 0] 24)
  have hc3 := below2 hq3 ha3
  replace hT := hT.ext hc3
  replace k1 := k1.ext hc3
  replace hr1 := hr1.ext hc3
  replace hbw := hbw.trans (hc3.mono hbw.size)
  have k2 := Blk.new w3 24 #[.int .i64 0, .int .i64 0]
  clear hq3 hc3
  replace hr2 := hr2.ext ha3
  clear ha3
  obtain ⟨A2, c2, rfl, _, _⟩ := hr2.form
  have hc := stemWords_r (a ++ 46 :: b) (by simp; omega) _ hT
  rw [Hj.out, show bs (a ++ 46 :: b) = bs a ++ (⟨#[46]⟩ : ByteArray) ++ bs b by rw [show (⟨#[46]⟩ : ByteArray) = bs [46] from rfl, bs_append, bs_append]; simp] at hc
  go_wp2_with fail
  refine (hc).mono ?_
  rintro e w4 ⟨v3, rfl, hr3, hq4⟩
  clear hc
  have ha4 := (Below.refl w4.heap.size w4).alloc (Nat.le_refl _) (.cells #[.int .i64 0, .int .i64 0] 24)
  have hc4 := below2 hq4 ha4
  replace hT := hT.ext hc4
  replace k1 := k1.ext hc4
  replace hr1 := hr1.ext hc4
  replace k2 := k2.ext hc4
  replace hr2 := hr2.ext hc4
  replace hbw := hbw.trans (hc4.mono hbw.size)
  have k3 := Blk.new w4 24 #[.int .i64 0, .int .i64 0]
  clear hq4 hc4
  replace hr3 := hr3.ext ha4
  clear ha4
  obtain ⟨A3, c3, rfl, _, _⟩ := hr3.form
  obtain ⟨W, hW⟩ : ∃ W, W = w4.alloc (.cells #[.int .i64 0, .int .i64 0] 24) := ⟨_, rfl⟩
  rw [← hW] at hT hr1 hr2 hr3 k1 k2 k3 hbw
  have HW := Lib.hid hW
  clear hW
  obtain ⟨p0, _, _, _, _⟩ := k1.two
  obtain ⟨q0, _, _, _, _⟩ := k2.two
  obtain ⟨r0, _, _, _, _⟩ := k3.two
  have hB := hr2.toMB
  have hnl : SlR strC (fun x => M0 x ∨ (Value.slice none 0 0).ownBlock = some x) W _ L1 := hr1.sub fun x hx hor => hor.elim id fun h => by simp [Value.ownBlock] at h
  have hsW : W.heap.size ≤ W.heap.size := Nat.le_refl _
  rw [HW.out] at p0 q0 r0
  go_wp2_with (at_builtin; rw [← HW.out]; refine wpList_append_Own strC (M := M0) (B := W.heap.size) (l := []) (l' := L1) TStrs rfl (.const (.slice none 0 0)) (.tmp 48) rfl (v := .slice none 0 0) rfl (Own.nil _ _ _ _ _) rfl hnl ?c1 ?c2 hsW ?_)
  case c1 => simp [maxLen]; omega
  case c2 => simp only [List.length_nil]; omega
  intro A5 c5 L5 w5 hL5 hown5 hb5 _ _
  have hl5 : L5.length = L1.length := by rw [hL5.out]
  have hwW := hbw.size
  have hr3W := hr3
  have hb5W := hb5
  replace hT := hT.ext hb5
  replace k1 := k1.ext hb5
  replace hr1 := hr1.ext hb5
  replace k2 := k2.ext hb5
  replace hr2 := hr2.ext hb5
  replace k3 := k3.ext hb5
  replace hr3 := hr3.ext hb5
  replace hbw := hbw.trans (hb5.mono hbw.size)
  have hB5 := hB.ext hb5
  have hs5 := hb5.size
  clear hb5 hB
  have hrd : SlR strC (fun x => M0 x ∨ (Value.slice A5 L5.length c5).ownBlock = some x) w5 _ L2 := hB5.sub fun x hx hor => hor.elim (fun h => h.elim) fun h => .inr (hown5.base x h)
  go_wp2_with (at_builtin; refine wpList_append_Own strC (M := M0) (B := W.heap.size) (l := L5) (l' := L2) TStrs rfl (.tmp 49) (.tmp 50) rfl (v := .slice A5 L5.length c5) rfl hown5 rfl hrd ?d1 ?d2 hs5 ?_)
  case d1 => simp [maxLen]; omega
  case d2 => omega
  intro A6 c6 L6 w6 hL6 hown6 hb6 _ _
  have hbw6 := hbw.trans (hb6.mono hwW)
  have he6 : (L1 ++ L2 == L6) = true := by rw [hL6.out, hL5.out]; simp
  have htx := texts_ok _ _ (L1 ++ L2) L6 w6 (hr3W.ext (hb5W.trans hb6)) hown6.read0
  rw [he6, List.length_append] at htx
  have Htx := Lib.hid htx
  clear htx he6 hrd hB5 hown5 hown6
  go_wp2_with fail
  refine Htx.out.mono ?_
  rintro e w7 ⟨rfl, hb7⟩
  go_wp2
  go_ret
  exact ⟨rfl, below2 hbw6 hb7⟩
theorem stemLong_r (s : Str) (hs : 4000 < s.length) (w : World) : Calls Tryd.prog 10 #[.string (bs s)] w fun e w' => ∃ v, e = .returned (.tuple #[v, .agg #[.int .i64 1, .int .i64 (-1)]]) ∧ SlR strC M0 w' v [] ∧ Below w.heap.size w w' :=
  (stemWords_long s hs w).mono fun e w' ⟨he, hb⟩ => ⟨_, he, SlR.nil _ _ _, hb⟩
set_option maxRecDepth 100000 in
set_option maxHeartbeats 8000000 in
theorem sjoin_bad (a b : Str) (w : World) (hs : 4000 < a.length + 1 + b.length) (ha : a.length ≤ 140737488351232) (hb : b.length ≤ 140737488351232) (hT : TabsU w) :
    Calls Tryd.prog 6 #[.string (bs a), .string (bs b)] w fun e w' => e = .returned (.bool true) ∧ Below w.heap.size w w' := by
  have hbw := Below.refl w.heap.size w
  have hcat1 : (a.length + 1 ≤ 9223372036854775807) = True := by simp; omega
  have hcat2 : (a.length + 1 + b.length ≤ 9223372036854775807) = True := by simp; omega
  obtain ⟨⟨L1, x1, y1⟩, hL1⟩ : ∃ L, wordsF a = L := ⟨_, rfl⟩
  obtain ⟨⟨L2, x2, y2⟩, hL2⟩ : ∃ L, wordsF b = L := ⟨_, rfl⟩
  have HL1 := Lib.hid hL1; have HL2 := Lib.hid hL2
  clear hL1 hL2
  go_enter Tryd.func6, Tryd.ntmps6
  go_wp2_with fail
  refine (sexample_ok _ hT).mono ?_
  rintro e w1 ⟨rfl, hq1⟩
  replace hT := hT.ext hq1
  replace hbw := hbw.trans (hq1.mono hbw.size)
  clear hq1
  have hc := stemWords_any a _ hT
  rw [HL1.out] at hc
  go_wp2_with fail
  refine (hc).mono ?_
  rintro e w2 ⟨v1, rfl, hr1, hq2⟩
  clear hc
  have ha2 := (Below.refl w2.heap.size w2).alloc (Nat.le_refl _) (.cells #[.int .i64 x1, .int .i64 y1] 24)
  have hc2 := below2 hq2 ha2
  replace hT := hT.ext hc2
  replace hbw := hbw.trans (hc2.mono hbw.size)
  have k1 := Blk.new w2 24 #[.int .i64 x1, .int .i64 y1]
  clear hq2 hc2
  replace hr1 := hr1.ext ha2
  clear ha2
  obtain ⟨A1, c1, rfl, _, _⟩ := hr1.form
  have hc := stemWords_any b _ hT
  rw [HL2.out] at hc
  go_wp2_with fail
  refine (hc).mono ?_
  rintro e w3 ⟨v2, rfl, hr2, hq3⟩
  clear hc
  have ha3 := (Below.refl w3.heap.size w3).alloc (Nat.le_refl _) (.cells #[.int .i64 x2, .int .i64 y2] 24)
  have hc3 := below2 hq3 ha3
  replace hT := hT.ext hc3
  replace k1 := k1.ext hc3
  replace hr1 := hr1.ext hc3
  replace hbw := hbw.trans (hc3.mono hbw.size)
  have k2 := Blk.new w3 24 #[.int .i64 x2, .int .i64 y2]
  clear hq3 hc3
  replace hr2 := hr2.ext ha3
  clear ha3
  obtain ⟨A2, c2, rfl, _, _⟩ := hr2.form
  have hc := stemLong_r (a ++ 46 :: b) (by simp; omega) (w3.alloc (.cells #[.int .i64 x2, .int .i64 y2] 24))
  rw [show bs (a ++ 46 :: b) = bs a ++ (⟨#[46]⟩ : ByteArray) ++ bs b by rw [show (⟨#[46]⟩ : ByteArray) = bs [46] from rfl, bs_append, bs_append]; simp] at hc
  go_wp2_with fail
  refine (hc).mono ?_
  rintro e w4 ⟨v3, rfl, hr3, hq4⟩
  clear hc
  have ha4 := (Below.refl w4.heap.size w4).alloc (Nat.le_refl _) (.cells #[.int .i64 1, .int .i64 (-1)] 24)
  have hc4 := below2 hq4 ha4
  replace hT := hT.ext hc4
  replace k1 := k1.ext hc4
  replace hr1 := hr1.ext hc4
  replace k2 := k2.ext hc4
  replace hr2 := hr2.ext hc4
  replace hbw := hbw.trans (hc4.mono hbw.size)
  have k3 := Blk.new w4 24 #[.int .i64 1, .int .i64 (-1)]
  clear hq4 hc4
  replace hr3 := hr3.ext ha4
  clear ha4
  obtain ⟨A3, c3, rfl, _, _⟩ := hr3.form
  obtain ⟨p0, _, _, _, _⟩ := k1.two
  obtain ⟨q0, _, _, _, _⟩ := k2.two
  obtain ⟨r0, _, _, _, _⟩ := k3.two
  clear hr1 hr2 hr3 HL1 HL2 hT
  by_cases h1 : x1 = 0
  all_goals by_cases h2 : x2 = 0
  all_goals
    first | (have e1 : (x1 != 0) = false := by simpa using h1) | (have e1 : (x1 != 0) = true := by simpa using h1)
    first | (have e2 : (x2 != 0) = false := by simpa using h2) | (have e2 : (x2 != 0) = true := by simpa using h2)
    clear h1 h2
    go_wp2
    go_ret
    exact ⟨rfl, hbw⟩
theorem sjoin_walk (a b : Str) (w : World) (ha : a.length ≤ 140737488351232) (hb : b.length ≤ 140737488351232) (hT : TabsU w) :
    Calls Tryd.prog 6 #[.string (bs a), .string (bs b)] w fun e w' => e = .returned (.bool true) ∧ Below w.heap.size w w' := by
  by_cases h : a.length + 1 + b.length ≤ 4000
  · exact sjoin_ok a b w h hT
  · exact sjoin_bad a b w (by omega) ha hb hT
end Go.Proofs.YtinmpjhmbciapaaDoor

/-
  Contracts and plain facts, one after another: The printer of queries: Print; The printer of queries: Print.
-/
import Derived.Test.YtihhgmpanfboaaaGreatDoorK20
import Derived.Test.YtihhgmpanfboaaaGreatDoorQyV
import Derived.Deep.RegionWith
namespace Go.Proofs.YtihhgmpanfboaaaGreatDoor
open Go.RowKit
set_option linter.unusedVariables false
namespace Q
/-- what Print hands back -/
def printF (q : Q) : Str × Int × Int := if (fault q).1 ≠ 0 then ([], fault q) else if 4000 < (textF 8 q).length then ([], 1, -1) else (textF 8 q, 0, 0)
end Q
set_option maxRecDepth 100000 in
set_option maxHeartbeats 8000000 in
theorem print_bad (F : Nat) (q : Q) (v : Value) (w : World) (hv : QAt F M0 w v q) (hbk : q.bulk ≤ 4000000) (hT : TabsU w) (hf : (Q.fault q).1 ≠ 0) :
    Calls Tryz.prog 7 #[v] w fun e w' => e = .returned (.tuple #[.string (bs []), .agg #[.int .i64 (Q.fault q).1, .int .i64 (Q.fault q).2]]) ∧ Below w.heap.size w w' := by
  obtain ⟨va, vb, vc, vd, rfl, hrd, rfl, rfl, rfl, A, c, rfl⟩ := hv.cellsOf
  obtain ⟨W, g, hW, hg, hs, kB, kF, hal⟩ := boxPair w #[.int .i64 q.kind, .string (bs q.text), .int .i64 q.num, .slice A q.parts.length c] 24 #[.int .i64 0, .int .i64 0] 26
  have hva := qvalidate_ok F q _ W (hv.ext hal) hbk (hT.ext hal)
  obtain ⟨fa, hfa⟩ : ∃ x, (Q.fault q).1 = x := ⟨_, rfl⟩
  obtain ⟨fb, hfb⟩ : ∃ x, (Q.fault q).2 = x := ⟨_, rfl⟩
  rw [hfa] at hf
  rw [hfa, hfb] at hva ⊢
  have hfa0 : (fa != 0) = true := by simpa using hf
  obtain ⟨x0, x1, x2, x3, _⟩ := kB.four
  have Hva := Lib.hid hva; have HF := Lib.hid kF; have Hal := Lib.hid hal
  have hgw : w.heap.size ≤ g + 1 := by omega
  clear hva kB kF hal hs hfa hfb hf hrd hv hT
  go_enter Tryz.func7, Tryz.ntmps7
  go_wp2_with fail
  refine Hva.out.mono ?_
  rintro e w5 ⟨rfl, hb5⟩
  obtain ⟨W6, g6, hW6, hg6, hs6, k6, hb6⟩ := boxA w5 #[.int .i64 fa, .int .i64 fb] 26
  obtain ⟨i0, i1, _⟩ := k6.two
  have Hk6 := Lib.hid k6; have Hb46 := Lib.hid (hb5.trans (hb6.mono hb5.size))
  clear hs6 k6 hb6 hb5 hW hg x0 x1 x2 x3
  go_wp2_with fail
  refine (failed_ok fa fb W6).mono ?_
  clear hW6 hg6
  rintro e w7 ⟨rfl, hb7⟩
  have hb47 := Hb46.out.trans (hb7.mono Hb46.out.size)
  have kF := HF.out.ext hb47
  obtain ⟨i0, i1, _⟩ := (Hk6.out.ext hb7).two
  obtain ⟨y0, y1, y2, y3, _⟩ := kF.two
  have HkF := Lib.hid kF; have Hb7 := Lib.hid (Hal.out.trans (hb47.mono Hal.out.size))
  clear kF hb47 hb7
  go_wp2_with fail
  go_region
  go_wp2_with fail
  obtain ⟨V, hV⟩ : ∃ V, (w7.setCell ⟨g + 1, 0, none⟩ (.int .i64 fa)).setCell ⟨g + 1, 1, none⟩ (.int .i64 fb) = V := ⟨_, rfl⟩
  have k9 : Blk V (g + 1) 26 #[.int .i64 fa, .int .i64 fb] := by
    rw [← hV]; simpa using (HkF.out.set_ 0 (.int .i64 fa)).set_ 1 (.int .i64 fb)
  have hb9 : Below w.heap.size w V := by
    rw [← hV]; exact (Hb7.out.setCell (p := ⟨g + 1, 0, none⟩) hgw _).setCell (p := ⟨g + 1, 1, none⟩) hgw _
  rw [hV]
  have k9' : Blk V.drew (g + 1) 26 #[.int .i64 fa, .int .i64 fb] := k9
  obtain ⟨t0, t1, _⟩ := k9'.two
  exact bodyPost_ret (v := .tuple #[.string (bs []), .agg #[.int .i64 fa, .int .i64 fb]]) (by simp [results, Tryz.results7, go_sem, t0, t1]; rfl) rfl ⟨rfl, hb9.drew⟩
set_option maxRecDepth 100000 in
set_option maxHeartbeats 8000000 in
theorem print_long (F : Nat) (q : Q) (v : Value) (w : World) (hv : QAt F M0 w v q) (hbk : q.bulk ≤ 4000000) (hT : TabsU w) (hC : CutV w) (hf : (Q.fault q).1 = 0) (hl : 4000 < (Q.textF 8 q).length) :
    Calls Tryz.prog 7 #[v] w fun e w' => e = .returned (.tuple #[.string (bs []), .agg #[.int .i64 1, .int .i64 (-1)]]) ∧ Below w.heap.size w w' := by
  obtain ⟨va, vb, vc, vd, rfl, hrd, rfl, rfl, rfl, A, c, rfl⟩ := hv.cellsOf
  obtain ⟨W, g, hW, hg, hs, kB, kF, hal⟩ := boxPair w #[.int .i64 q.kind, .string (bs q.text), .int .i64 q.num, .slice A q.parts.length c] 24 #[.int .i64 0, .int .i64 0] 26
  have hfz := Q.fault_zero.1 hf
  have htl := Q.textF_len 8 q
  have htx := fun w' (hb' : Below w.heap.size w w') => text_ok 8 q _ w' F ⟨hfz.1, hfz.2.2⟩ (hv.ext hb') hbk (hC.ext hb')
  have Htx := Lib.hid htx
  have hva := qvalidate_ok F q _ W (hv.ext hal) hbk (hT.ext hal)
  obtain ⟨fa, hfa⟩ : ∃ x, (Q.fault q).1 = x := ⟨_, rfl⟩
  obtain ⟨fb, hfb⟩ : ∃ x, (Q.fault q).2 = x := ⟨_, rfl⟩
  rw [hfa] at hf
  rw [hfa, hfb] at hva
  have hfa0 : (fa != 0) = false := by rw [hf]; rfl
  clear hfz htx hC
  obtain ⟨x0, x1, x2, x3, _⟩ := kB.four
  have Hva := Lib.hid hva; have HF := Lib.hid kF; have HB := Lib.hid kB; have Hal := Lib.hid hal
  have hgw : w.heap.size ≤ g + 1 := by omega
  clear hva kB kF hal hs hfa hfb hf hrd hv hT
  go_enter Tryz.func7, Tryz.ntmps7
  go_wp2_with fail
  refine Hva.out.mono ?_
  rintro e w5 ⟨rfl, hb5⟩
  obtain ⟨W6, g6, hW6, hg6, hs6, k6, hb6⟩ := boxA w5 #[.int .i64 fa, .int .i64 fb] 26
  obtain ⟨i0, i1, _⟩ := k6.two
  have Hk6 := Lib.hid k6; have Hb46 := Lib.hid (hb5.trans (hb6.mono hb5.size))
  clear hs6 k6 hb6 hb5 hW hg x0 x1 x2 x3
  go_wp2_with fail
  refine (failed_ok fa fb W6).mono ?_
  clear hW6 hg6
  rintro e w7 ⟨rfl, hb7⟩
  have hb47 := Hb46.out.trans (hb7.mono Hb46.out.size)
  have kF := HF.out.ext hb47
  obtain ⟨i0, i1, _⟩ := (Hk6.out.ext hb7).two
  obtain ⟨y0, y1, y2, y3, _⟩ := kF.two
  obtain ⟨x0, x1, x2, x3, _⟩ := (HB.out.ext hb47).four
  have HkF := Lib.hid kF; have Hb7 := Lib.hid (Hal.out.trans (hb47.mono Hal.out.size))
  clear kF hb47 hb7
  go_wp2_with fail
  refine (Htx.out _ Hb7.out).mono ?_
  rintro e w8 ⟨rfl, hb8⟩
  obtain ⟨T, hT⟩ : ∃ T, Q.textF 8 q = T := ⟨_, rfl⟩
  rw [hT] at hl htl ⊢
  have hlz : (4000 : Int) < (T.length : Int) := by omega
  have hT64 : T.length ≤ 16000000 := by omega
  have kF8 := HkF.out.ext hb8
  have Hb8 := Lib.hid (Hb7.out.trans (hb8.mono Hb7.out.size)); have HkF8 := Lib.hid kF8
  clear hT htl kF8 hb8 i0 i1 y0 y1 y2 y3 x0 x1 x2 x3 Htx
  go_wp2_with fail
  refine (fault_ok 1 (-1) w8).mono ?_
  rintro e w9 ⟨rfl, hb9⟩
  have kF9 := HkF8.out.ext hb9
  obtain ⟨y0, y1, y2, y3, _⟩ := kF9.two
  have Hb9 := Lib.hid (Hb8.out.trans (hb9.mono Hb8.out.size)); have HkF9 := Lib.hid kF9
  clear kF9 hb9
  go_wp2_with fail
  obtain ⟨V, hV⟩ : ∃ V, (w9.setCell ⟨g + 1, 0, none⟩ (.int .i64 1)).setCell ⟨g + 1, 1, none⟩ (.int .i64 (-1)) = V := ⟨_, rfl⟩
  have k9 : Blk V (g + 1) 26 #[.int .i64 1, .int .i64 (-1)] := by
    rw [← hV]; simpa using (HkF9.out.set_ 0 (.int .i64 1)).set_ 1 (.int .i64 (-1))
  have hb9 : Below w.heap.size w V := by
    rw [← hV]; exact (Hb9.out.setCell (p := ⟨g + 1, 0, none⟩) hgw _).setCell (p := ⟨g + 1, 1, none⟩) hgw _
  rw [hV]
  obtain ⟨t0, t1, _⟩ := k9.two
  exact bodyPost_ret (v := .tuple #[.string (bs []), .agg #[.int .i64 1, .int .i64 (-1)]]) (by simp [results, Tryz.results7, go_sem, t0, t1]; rfl) rfl ⟨rfl, hb9⟩
end Go.Proofs.YtihhgmpanfboaaaGreatDoor
namespace Go.Proofs.YtihhgmpanfboaaaGreatDoor
open Go.RowKit
set_option linter.unusedVariables false
set_option maxRecDepth 100000 in
set_option maxHeartbeats 8000000 in
theorem print_good (F : Nat) (q : Q) (v : Value) (w : World) (hv : QAt F M0 w v q) (hbk : q.bulk ≤ 4000000) (hT : TabsU w) (hC : CutV w) (hf : (Q.fault q).1 = 0) (hl : (Q.textF 8 q).length ≤ 4000) :
    Calls Tryz.prog 7 #[v] w fun e w' => e = .returned (.tuple #[.string (bs (Q.textF 8 q)), .agg #[.int .i64 0, .int .i64 0]]) ∧ Below w.heap.size w w' := by
  obtain ⟨va, vb, vc, vd, rfl, hrd, rfl, rfl, rfl, A, c, rfl⟩ := hv.cellsOf
  obtain ⟨W, g, hW, hg, hs, kB, kF, hal⟩ := boxPair w #[.int .i64 q.kind, .string (bs q.text), .int .i64 q.num, .slice A q.parts.length c] 24 #[.int .i64 0, .int .i64 0] 26
  have hfz := Q.fault_zero.1 hf
  have htl := Q.textF_len 8 q
  have htx := fun w' (hb' : Below w.heap.size w w') => text_ok 8 q _ w' F ⟨hfz.1, hfz.2.2⟩ (hv.ext hb') hbk (hC.ext hb')
  have Htx := Lib.hid htx
  have hva := qvalidate_ok F q _ W (hv.ext hal) hbk (hT.ext hal)
  obtain ⟨fa, hfa⟩ : ∃ x, (Q.fault q).1 = x := ⟨_, rfl⟩
  obtain ⟨fb, hfb⟩ : ∃ x, (Q.fault q).2 = x := ⟨_, rfl⟩
  rw [hfa] at hf
  rw [hfa, hfb] at hva
  have hfa0 : (fa != 0) = false := by rw [hf]; rfl
  clear hfz htx hC
  obtain ⟨x0, x1, x2, x3, _⟩ := kB.four
  have Hva := Lib.hid hva; have HF := Lib.hid kF; have HB := Lib.hid kB; have Hal := Lib.hid hal
  have hgw : w.heap.size ≤ g + 1 := by omega
  clear hva kB kF hal hs hfa hfb hf hrd hv hT
  go_enter Tryz.func7, Tryz.ntmps7
  go_wp2_with fail
  refine Hva.out.mono ?_
  rintro e w5 ⟨rfl, hb5⟩
  obtain ⟨W6, g6, hW6, hg6, hs6, k6, hb6⟩ := boxA w5 #[.int .i64 fa, .int .i64 fb] 26
  obtain ⟨i0, i1, _⟩ := k6.two
  have Hk6 := Lib.hid k6; have Hb46 := Lib.hid (hb5.trans (hb6.mono hb5.size))
  clear hs6 k6 hb6 hb5 hW hg x0 x1 x2 x3
  go_wp2_with fail
  refine (failed_ok fa fb W6).mono ?_
  clear hW6 hg6
  rintro e w7 ⟨rfl, hb7⟩
  have hb47 := Hb46.out.trans (hb7.mono Hb46.out.size)
  have kF := HF.out.ext hb47
  obtain ⟨i0, i1, _⟩ := (Hk6.out.ext hb7).two
  obtain ⟨y0, y1, y2, y3, _⟩ := kF.two
  obtain ⟨x0, x1, x2, x3, _⟩ := (HB.out.ext hb47).four
  have HkF := Lib.hid kF; have Hb7 := Lib.hid (Hal.out.trans (hb47.mono Hal.out.size))
  clear kF hb47 hb7
  go_wp2_with fail
  refine (Htx.out _ Hb7.out).mono ?_
  rintro e w8 ⟨rfl, hb8⟩
  obtain ⟨T, hT⟩ : ∃ T, Q.textF 8 q = T := ⟨_, rfl⟩
  rw [hT] at hl htl ⊢
  have hlz : ¬ (4000 : Int) < (T.length : Int) := by omega
  have hT64 : T.length ≤ 16000000 := by omega
  have kF8 := HkF.out.ext hb8
  have Hb8 := Lib.hid (Hb7.out.trans (hb8.mono Hb7.out.size)); have HkF8 := Lib.hid kF8
  have HTe := Lib.hid hT
  clear hT htl kF8 hb8 i0 i1 y0 y1 y2 y3 x0 x1 x2 x3 Htx
  go_wp2_with fail
  refine (none_ok _).mono ?_
  rintro e w9 ⟨rfl, hb9⟩
  have kF9 := HkF8.out.ext hb9
  obtain ⟨y0, y1, y2, y3, _⟩ := kF9.two
  all_goals
    have hb89 : Below w8.heap.size w8 w9 := hb9
    have Hb9 := Lib.hid (Hb8.out.trans (hb89.mono Hb8.out.size)); have HkF9 := Lib.hid kF9
    clear kF9 hb9 hb89
    go_wp2_with fail
    obtain ⟨V, hV⟩ : ∃ V, (w9.setCell ⟨g + 1, 0, none⟩ (.int .i64 0)).setCell ⟨g + 1, 1, none⟩ (.int .i64 0) = V := ⟨_, rfl⟩
    have k9 : Blk V (g + 1) 26 #[.int .i64 0, .int .i64 0] := by
      rw [← hV]; simpa using (HkF9.out.set_ 0 (.int .i64 0)).set_ 1 (.int .i64 0)
    have hb9 : Below w.heap.size w V := by
      rw [← hV]; exact (Hb9.out.setCell (p := ⟨g + 1, 0, none⟩) hgw _).setCell (p := ⟨g + 1, 1, none⟩) hgw _
    rw [hV]
    obtain ⟨t0, t1, _⟩ := k9.two
    exact bodyPost_ret (v := .tuple #[.string (bs T), .agg #[.int .i64 0, .int .i64 0]]) (by simp [results, Tryz.results7, go_sem, t0, t1]) rfl ⟨by rw [HTe.out], hb9⟩
theorem print_ok (F : Nat) (q : Q) (v : Value) (w : World) (hv : QAt F M0 w v q) (hbk : q.bulk ≤ 4000000) (hT : TabsU w) (hC : CutV w) :
    Calls Tryz.prog 7 #[v] w fun e w' => e = .returned (.tuple #[.string (bs (Q.printF q).1), .agg #[.int .i64 (Q.printF q).2.1, .int .i64 (Q.printF q).2.2]]) ∧ Below w.heap.size w w' := by
  unfold Q.printF
  by_cases hf : (Q.fault q).1 = 0
  · rw [if_neg (by simpa using hf)]
    by_cases hl : 4000 < (Q.textF 8 q).length
    · rw [if_pos hl]; exact print_long F q v w hv hbk hT hC hf hl
    · rw [if_neg hl]; exact print_good F q v w hv hbk hT hC hf (by omega)
  · rw [if_pos hf]; exact print_bad F q v w hv hbk hT hf
end Go.Proofs.YtihhgmpanfboaaaGreatDoor

/-
  The reference of the reader: QueryOf.
-/
import Derived.Test.YtihhgmpanfboaaaGreatDoorRf8
import Derived.Test.YtihhgmpanfboaaaGreatDoorK19
import Derived.Test.YtihhgmpanfboaaaGreatDoorSrQf
import Derived.Test.YtihhgmpanfboaaaGreatDoorK6
namespace Go.Proofs.YtihhgmpanfboaaaGreatDoor
open Go.RowKit
set_option linter.unusedVariables false
namespace Q
theorem parseF_fin {s u : Str} (hs : s.length ≤ 4000) (h : fin (topS s) = .err u) : parseF s = (.node 0 [] 0 [], 11, ((s.length - u.length : Nat) : Int)) := by
  rw [parseF_eq, if_neg (by omega)]
  cases ht : topS s with
  | err u2 =>
    have hl := topS_err ht
    rw [ht] at h
    injection h with h
    subst h
    dsimp only
    rw [show (s.length : Int) - (u2.length : Int) = ((s.length - u2.length : Nat) : Int) by omega]
  | ok q u2 =>
    have hl := topS_len ht
    rw [ht, fin] at h
    split at h
    · rename_i hk
      injection h with h
      subst h
      dsimp only
      rw [if_neg (fun e => hk.1 (.inl e)), show (s.length : Int) - (u2.length : Int) = ((s.length - u2.length : Nat) : Int) by omega]
    · cases h
theorem parseF_more {s u : Str} {q : Q} (hs : s.length ≤ 4000) (h : topS s = .ok q u) (hu : u ≠ []) : parseF s = (.node 0 [] 0 [], 11, ((s.length - u.length : Nat) : Int)) := by
  have hl := topS_len h
  rw [parseF_eq, if_neg (by omega), h]
  dsimp only
  rw [if_neg hu, show (s.length : Int) - (u.length : Int) = ((s.length - u.length : Nat) : Int) by omega]
theorem parseF_all {s : Str} {q : Q} (hs : s.length ≤ 4000) (h : topS s = .ok q []) : parseF s = if (fault q).1 ≠ 0 then (.node 0 [] 0 [], fault q) else (q, 0, 0) := by
  rw [parseF_eq, if_neg (by omega), h]
  rfl
end Q
set_option maxRecDepth 100000 in
set_option maxHeartbeats 8000000 in
theorem queryOf_ok (s : Str) (hm : s.length ≤ maxLen) (w : World) (hT : TabsU w) : Calls Tryz.prog 14 #[.string (bs s)] w (Parsed w (Q.parseF s)) := by
  unfold maxLen at hm
  obtain ⟨P, hP⟩ : ∃ P, Q.parseF s = P := ⟨_, rfl⟩
  rw [hP]
  obtain ⟨W, gQ, hW, hgQ, hsW, kQ, kF, hb⟩ := boxPair w #[.int .i64 0, .string ⟨#[]⟩, .int .i64 0, .slice none 0 0] 24 #[.int .i64 0, .int .i64 0] 26
  have hQ0 : w.heap.size ≤ gQ := by omega
  have hQ1 : w.heap.size ≤ gQ + 1 := by omega
  have hgB : gQ + 1 < W.heap.size := by omega
  have hne : gQ ≠ gQ + 1 := by omega
  have HQ := Lib.hid kQ; have HF := Lib.hid kF; have Hb := Lib.hid hb; have HgQ := Lib.hid hgQ; have HW := Lib.hid hW; have HP := Lib.hid hP; have HT := Lib.hid hT
  clear kQ kF hsW hgQ hW hP hT
  have hWs : w.heap.size ≤ W.heap.size := hb.size
  by_cases hlong : 4000 < s.length
  · have hg : (4000 : Int) < (s.length : Int) := by omega
    have hPl : P = (.node 0 [] 0 [], 1, -1) := by rw [← HP.out, Q.parseF_eq, if_pos hlong]
    subst hPl
    clear hb hlong
    go_enter Tryz.func14, Tryz.ntmps14
    go_wp2_with fail
    rw [HW.out]
    try rw [HgQ.out]
    have hat := at_ok 1 (-1) W
    refine hat.mono ?_
    clear hat
    rintro e w5 ⟨rfl, hb5⟩
    have hb05 := Hb.out.trans (hb5.mono hWs)
    have kQ := HQ.out.ext hb5; have kF := HF.out.ext hb5
    obtain ⟨z0, z1, z2, z3, _⟩ := kQ.four
    obtain ⟨y0, y1, y2, y3, _⟩ := kF.two
    have f0 := kQ.frozen 0; have f1 := kQ.frozen 1; have f2 := kQ.frozen 2; have f3 := kQ.frozen 3
    obtain ⟨V, hV, kQ9, kF9, hkp, hsz, hV5⟩ := stored kQ kF hne (.int .i64 0) (.string ⟨#[]⟩) (.int .i64 0) (.slice none 0 0) (.int .i64 1) (.int .i64 (-1))
    have hbV := hV5 w.heap.size w hQ0 hQ1 hb05
    have HV := Lib.hid hV; have HQ9 := Lib.hid kQ9; have HF9 := Lib.hid kF9; have HbV := Lib.hid hbV
    clear kQ kF kQ9 kF9 hkp hsz hV5 hbV hV hb05
    go_wp2_with fail
    rw [HV.out]
    obtain ⟨r0, r1, r2, r3, _⟩ := HQ9.out.four
    obtain ⟨s0, s1, _⟩ := HF9.out.two
    exact bodyPost_ret (v := .tuple #[.agg #[.int .i64 0, .string ⟨#[]⟩, .int .i64 0, .slice none 0 0], .agg #[.int .i64 1, .int .i64 (-1)]]) (by simp [results, Tryz.results14, go_sem, r0, r1, r2, r3, s0, s1]) rfl ⟨0, _, rfl, QAt.nil4 _ _, HbV.out⟩
  have hs : s.length ≤ 4000 := by omega
  have hg : ¬ (4000 : Int) < (s.length : Int) := by omega
  have hdj := fdisj_ok w HT.out s hs s.length _ (Q.termS_short (s.length + 1)) (Q.idle_term (s.length + 1)) (fterm_ok w HT.out s hs (s.length + 1) s.length (Nat.lt_succ_self _)) s W (List.suffix_refl s) (Nat.le_refl _) hb
  rw [Nat.sub_self] at hdj
  have Hdj := Lib.hid hdj
  clear hdj hb hlong
  go_enter Tryz.func14, Tryz.ntmps14
  go_wp2_with fail
  rw [HW.out]
  try rw [HgQ.out]
  refine Hdj.out.mono ?_
  clear Hdj
  rintro e w5 ⟨f5, v5, q4, u4, ok4, rfl, hq5, hu4, hb5, hres⟩
  obtain ⟨va, vb, vc, vd, rfl, _, rfl, rfl, rfl, Ap2, cp2, rfl⟩ := hq5.cellsOf
  obtain ⟨qk2, hqk⟩ : ∃ k, q4.kind = k := ⟨_, rfl⟩
  obtain ⟨qt2, hqt⟩ : ∃ k, bs q4.text = k := ⟨_, rfl⟩
  obtain ⟨qn2, hqn⟩ : ∃ k, q4.num = k := ⟨_, rfl⟩
  obtain ⟨ql2, hql⟩ : ∃ k, q4.parts.length = k := ⟨_, rfl⟩
  obtain ⟨j, hj⟩ : ∃ j, s.length - u4.length = j := ⟨_, rfl⟩
  rw [hqk, hqt, hqn, hql] at hq5 ⊢
  rw [hj]
  have hul4 := hu4.length_le
  change Q.fin (Q.topS s) = _ at hres
  obtain ⟨W2, g2, hW2, hg2, hs2, k2, hal2⟩ := boxA w5 #[.int .i64 qk2, .string qt2, .int .i64 qn2, .slice Ap2 ql2 cp2] 24
  have hb5W := hb5.trans (hal2.mono hb5.size)
  have hb02 := Hb.out.trans (hb5W.mono hWs)
  have hq2 := hq5.ext hal2
  have hg2W : W.heap.size ≤ g2 := by have := hb5.size; omega
  have kQ2 := HQ.out.ext hb5W; have kF2 := HF.out.ext hb5W
  obtain ⟨x0, x1, x2, x3, _⟩ := k2.four
  have Hj := Lib.hid hj; have Hq2 := Lib.hid hq2; have Hb02 := Lib.hid hb02; have Hk2 := Lib.hid k2; have HkQ2 := Lib.hid kQ2; have HkF2 := Lib.hid kF2
  clear hqk hqt hqn hql hj hq5 hb5 hal2 k2 hs2 hu4 hb5W hb02 hq2 kQ2 kF2 HQ HF
  cases ok4 with
  | false =>
    change _ = Q.Res.err u4 at hres
    have hPl : P = (.node 0 [] 0 [], 11, (j : Int)) := by rw [← HP.out, Q.parseF_fin hs hres, Hj.out]
    subst hPl
    clear hres
    go_wp2_with fail
    have hat := at_ok 11 (j : Int) W2
    refine hat.mono ?_
    clear hat
    rintro e w6 ⟨rfl, hb6⟩
    have hb05 := Hb02.out.trans (hb6.mono Hb02.out.size)
    have kQ := HkQ2.out.ext hb6; have kF := HkF2.out.ext hb6
    clear hW2 hg2
    obtain ⟨z0, z1, z2, z3, _⟩ := kQ.four
    obtain ⟨y0, y1, y2, y3, _⟩ := kF.two
    have f0 := kQ.frozen 0; have f1 := kQ.frozen 1; have f2 := kQ.frozen 2; have f3 := kQ.frozen 3
    obtain ⟨V, hV, kQ9, kF9, hkp, hsz, hV5⟩ := stored kQ kF hne (.int .i64 0) (.string ⟨#[]⟩) (.int .i64 0) (.slice none 0 0) (.int .i64 11) (.int .i64 (j : Int))
    have hbV := hV5 w.heap.size w hQ0 hQ1 hb05
    have HV := Lib.hid hV; have HQ9 := Lib.hid kQ9; have HF9 := Lib.hid kF9; have HbV := Lib.hid hbV
    clear kQ kF kQ9 kF9 hkp hsz hV5 hbV hV hb05
    go_wp2_with fail
    rw [HV.out]
    obtain ⟨r0, r1, r2, r3, _⟩ := HQ9.out.four
    obtain ⟨s0, s1, _⟩ := HF9.out.two
    exact bodyPost_ret (v := .tuple #[.agg #[.int .i64 0, .string ⟨#[]⟩, .int .i64 0, .slice none 0 0], .agg #[.int .i64 11, .int .i64 (j : Int)]]) (by simp [results, Tryz.results14, go_sem, r0, r1, r2, r3, s0, s1]) rfl ⟨0, _, rfl, QAt.nil4 _ _, HbV.out⟩
  | true =>
    change _ = Q.Res.ok q4 u4 at hres
    have htop := (Q.fin_ok hres).1
    by_cases hu : u4 = []
    rotate_left
    · have hpu := List.length_pos_iff.2 hu
      have hPl : P = (.node 0 [] 0 [], 11, (j : Int)) := by rw [← HP.out, Q.parseF_more hs htop hu, Hj.out]
      subst hPl
      have hjl : (j : Int) < (s.length : Int) := by have := Hj.out; omega
      clear hres htop
      go_wp2_with fail
      have hat := at_ok 11 (j : Int) W2
      refine hat.mono ?_
      clear hat
      rintro e w6 ⟨rfl, hb6⟩
      have hb05 := Hb02.out.trans (hb6.mono Hb02.out.size)
      have kQ := HkQ2.out.ext hb6; have kF := HkF2.out.ext hb6
      clear hW2 hg2
      obtain ⟨z0, z1, z2, z3, _⟩ := kQ.four
      obtain ⟨y0, y1, y2, y3, _⟩ := kF.two
      have f0 := kQ.frozen 0; have f1 := kQ.frozen 1; have f2 := kQ.frozen 2; have f3 := kQ.frozen 3
      obtain ⟨V, hV, kQ9, kF9, hkp, hsz, hV5⟩ := stored kQ kF hne (.int .i64 0) (.string ⟨#[]⟩) (.int .i64 0) (.slice none 0 0) (.int .i64 11) (.int .i64 (j : Int))
      have hbV := hV5 w.heap.size w hQ0 hQ1 hb05
      have HV := Lib.hid hV; have HQ9 := Lib.hid kQ9; have HF9 := Lib.hid kF9; have HbV := Lib.hid hbV
      clear kQ kF kQ9 kF9 hkp hsz hV5 hbV hV hb05
      go_wp2_with fail
      rw [HV.out]
      obtain ⟨r0, r1, r2, r3, _⟩ := HQ9.out.four
      obtain ⟨s0, s1, _⟩ := HF9.out.two
      exact bodyPost_ret (v := .tuple #[.agg #[.int .i64 0, .string ⟨#[]⟩, .int .i64 0, .slice none 0 0], .agg #[.int .i64 11, .int .i64 (j : Int)]]) (by simp [results, Tryz.results14, go_sem, r0, r1, r2, r3, s0, s1]) rfl ⟨0, _, rfl, QAt.nil4 _ _, HbV.out⟩
    · subst hu
      have hjl : ¬ (j : Int) < (s.length : Int) := by have := Hj.out; rw [List.length_nil] at this; omega
      have hbk := Q.topS_bulk htop
      have hP9 := HP.out.symm.trans (Q.parseF_all hs htop)
      have hqf := queryFault_ok f5 q4 _ W2 (Hq2.out.sub (M' := M0) fun b _ h => h.elim) (by omega) (HT.out.ext Hb02.out)
      obtain ⟨fa, hfa⟩ : ∃ x, (Q.fault q4).1 = x := ⟨_, rfl⟩
      obtain ⟨fb, hfb⟩ : ∃ x, (Q.fault q4).2 = x := ⟨_, rfl⟩
      rw [show Q.fault q4 = (fa, fb) from Prod.ext hfa hfb] at hP9
      rw [hfa, hfb] at hqf
      have Hqf := Lib.hid hqf; have HP9 := Lib.hid hP9
      clear hres htop hqf hP9 hfa hfb
      go_wp2_with fail
      refine Hqf.out.mono ?_
      clear Hqf hW2 hg2
      rintro e w6 ⟨rfl, hb6⟩
      obtain ⟨W7, g7, hW7, hg7, hs7, k7, hal7⟩ := boxA w6 #[.int .i64 fa, .int .i64 fb] 26
      have hb67 := hb6.trans (hal7.mono hb6.size)
      have hb07 := Hb02.out.trans (hb67.mono Hb02.out.size)
      have hq7 := Hq2.out.ext hb67
      have k27 := Hk2.out.ext hb67
      have kQ := HkQ2.out.ext hb67; have kF := HkF2.out.ext hb67
      obtain ⟨f0, f1, _⟩ := k7.two
      have Hb07 := Lib.hid hb07; have Hq7 := Lib.hid hq7; have Hk27 := Lib.hid k27; have HkQ7 := Lib.hid kQ; have HkF7 := Lib.hid kF; have Hk7 := Lib.hid k7
      have hg7W : W.heap.size ≤ g7 := by have h1 := Hb02.out.size; have h2 := hb6.size; have h3 := hg2W; omega
      clear hb6 hal7 hs7 hb67 hb07 hq7 k27 kQ kF k7 x0 x1 x2 x3
      by_cases hf : fa = 0
      · subst hf
        have hP := HP9.out
        rw [if_neg (by simp)] at hP
        subst hP
        have kQ := HkQ7.out; have kF := HkF7.out
        obtain ⟨x0, x1, x2, x3, _⟩ := Hk27.out.four
        have hb05 := Hb07.out
        clear HP9
        obtain ⟨z0, z1, z2, z3, _⟩ := kQ.four
        obtain ⟨y0, y1, y2, y3, _⟩ := kF.two
        have f0 := kQ.frozen 0; have f1 := kQ.frozen 1; have f2 := kQ.frozen 2; have f3 := kQ.frozen 3
        obtain ⟨V, hV, kQ9, kF9, hkp, hsz, hV5⟩ := stored kQ kF hne (.int .i64 qk2) (.string qt2) (.int .i64 qn2) (.slice Ap2 ql2 cp2) (.int .i64 0) (.int .i64 0)
        have hbV := hV5 w.heap.size w hQ0 hQ1 hb05
        have hq9 := Hq7.out.keepAll (w' := V) (fun b hb1 hb2 => hkp b (by omega) (by omega)) hsz
        have Hq9 := Lib.hid hq9
        clear hq9
        have HV := Lib.hid hV; have HQ9 := Lib.hid kQ9; have HF9 := Lib.hid kF9; have HbV := Lib.hid hbV
        clear kQ kF kQ9 kF9 hkp hsz hV5 hbV hV hb05
        go_wp2_with fail
        rw [HV.out]
        obtain ⟨r0, r1, r2, r3, _⟩ := HQ9.out.four
        obtain ⟨s0, s1, _⟩ := HF9.out.two
        exact bodyPost_ret (v := .tuple #[.agg #[.int .i64 qk2, .string qt2, .int .i64 qn2, .slice Ap2 ql2 cp2], .agg #[.int .i64 0, .int .i64 0]]) (by simp [results, Tryz.results14, go_sem, r0, r1, r2, r3, s0, s1]) rfl ⟨f5, _, rfl, Hq9.out.sub fun b _ (h : b < w.heap.size) => (by omega : b < W.heap.size), HbV.out⟩
      · have hP := HP9.out
        rw [if_pos (by simpa using hf)] at hP
        subst hP
        have hfn : (fa != 0) = true := by simpa using hf
        have hfe : (fa == 0) = false := by simpa using hf
        clear HP9 hf
        go_upto_region 8 with (fail)
        clear hW7 hg7
        have kQ := HkQ7.out
        have kF := HkF7.out
        obtain ⟨z0, z1, z2, z3, _⟩ := kQ.four
        obtain ⟨y0, y1, y2, y3, _⟩ := kF.two
        have u0 := kQ.frozen 0; have u1 := kQ.frozen 1; have u2 := kQ.frozen 2; have u3 := kQ.frozen 3
        obtain ⟨V, hV, kQ9, kF9, hkp, hsz, hV5⟩ := stored kQ kF hne (.int .i64 0) (.string ⟨#[]⟩) (.int .i64 0) (.slice none 0 0) (.int .i64 fa) (.int .i64 fb)
        have hbF := hV5 w.heap.size w hQ0 hQ1 Hb07.out
        have HV := Lib.hid hV; have HQ9 := Lib.hid kQ9; have HF9 := Lib.hid kF9; have HbF := Lib.hid hbF
        clear kQ kF kQ9 kF9 hkp hsz hV5 hbF hV
        go_region
        go_wp2_with fail
        rw [HV.out]
        have kQ9' : Blk V.drew gQ 24 #[.int .i64 0, .string ⟨#[]⟩, .int .i64 0, .slice none 0 0] := HQ9.out
        have kF9' : Blk V.drew (gQ + 1) 26 #[.int .i64 fa, .int .i64 fb] := HF9.out
        obtain ⟨r0, r1, r2, r3, _⟩ := kQ9'.four
        obtain ⟨s0, s1, _⟩ := kF9'.two
        exact bodyPost_ret (v := .tuple #[.agg #[.int .i64 0, .string ⟨#[]⟩, .int .i64 0, .slice none 0 0], .agg #[.int .i64 fa, .int .i64 fb]]) (by simp [results, Tryz.results14, go_sem, r0, r1, r2, r3, s0, s1]) rfl ⟨0, _, rfl, QAt.nil4 _ _, HbF.out.drew⟩
end Go.Proofs.YtihhgmpanfboaaaGreatDoor

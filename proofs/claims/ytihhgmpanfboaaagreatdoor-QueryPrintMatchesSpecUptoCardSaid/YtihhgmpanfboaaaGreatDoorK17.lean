/-
  Contracts and plain facts, one after another: The reader of queries: term, by the first byte; a node's end; The reader of queries: term, the other first bytes; term whole; The reader of queries: term at a word; term whole.
-/
import Derived.Test.YtihhgmpanfboaaaGreatDoorK16
namespace Go.Proofs.YtihhgmpanfboaaaGreatDoor
open Go.RowKit
set_option linter.unusedVariables false
/-- a node stored as the result -/
theorem fin4 {w w5 : World} {g gR f n0 : Nat} {t : TypeId} {s u : Str} {q : Q} {a b c d : Value} (a' b' c' d' : Value) (hk : Blk w5 gR t #[a, b, c, d]) (hgR : w.heap.size ≤ gR) (hn : gR ≠ g) (hr : Rd w5 g s u) (hb : But g w w5) (hq : QAt f (fun b => b < n0) w5 (.agg #[a', b', c', d']) q) (hg0 : gR < n0) (hw : w.heap.size ≤ n0) :
    ∃ W9, ((((w5.setCell ⟨gR, 0, none⟩ a').setCell ⟨gR, 1, none⟩ b').setCell ⟨gR, 2, none⟩ c').setCell ⟨gR, 3, none⟩ d') = W9 ∧ W9.cell? ⟨gR, 0, none⟩ = some a' ∧ W9.cell? ⟨gR, 1, none⟩ = some b' ∧ W9.cell? ⟨gR, 2, none⟩ = some c' ∧ W9.cell? ⟨gR, 3, none⟩ = some d' ∧ ResAt g s w (.ok q u) (.returned (.agg #[a', b', c', d'])) W9 := by
  obtain ⟨W9, hW9⟩ : ∃ W9, ((((w5.setCell ⟨gR, 0, none⟩ a').setCell ⟨gR, 1, none⟩ b').setCell ⟨gR, 2, none⟩ c').setCell ⟨gR, 3, none⟩ d') = W9 := ⟨_, rfl⟩
  have k9 := put4 hk a' b' c' d'
  rw [hW9] at k9
  obtain ⟨y0, y1, y2, y3, _⟩ := k9.four
  have hb9 : But g w W9 := by rw [← hW9]; exact hb.put4 hgR _ _ _ _
  have hr9 : Rd W9 g s u := ⟨by show W9.heap[g]? = _; rw [← hW9, keep4 _ _ _ _ hn.symm]; exact hr.1, hr.2⟩
  have hq9 := hq.keepOne (gR := gR) (w' := W9) (fun b hb => by rw [← hW9, keep4 _ _ _ _ hb]) hg0 (by rw [← hW9, size4]; exact Nat.le_refl _)
  exact ⟨W9, hW9, y0, y1, y2, y3, f, _, rfl, hq9.sub fun b _ (h : b < w.heap.size) => (by omega : b < n0), hr9, hb9⟩
set_option maxRecDepth 100000 in
set_option maxHeartbeats 8000000 in
theorem rterm_minus (w0 : World) (g : Nat) (hg : w0.heap.size ≤ g) (s : Str) (hs : s.length ≤ 4000) (n : Nat) (T : Str → Q.Res) (hTc : TermC w0 g s n T) (t : Str) (w : World) (hr : Rd w g s (45 :: t)) (hrn : t.length ≤ n) (hb0 : Below w0.heap.size w0 w) (R : Q.Res) (hR : (match T t with | .ok q u => Q.Res.ok (.node 8 [] 0 [q]) u | .err u => .err u) = R) :
    Calls Tryz.prog 58 #[.pointer (some ⟨g, 0, none⟩)] w (ResAt g s w R) := by
  obtain ⟨W, gR, hW, hgR, hsR, kr, hal⟩ := boxA w #[.int .i64 0, .string ⟨#[]⟩, .int .i64 0, .slice none 0 0] 24
  have hgw : g < w.heap.size := hr.1.two.2.2.2.2
  have his := is_yes g s 45 t W (hr.ext hal) hs (by decide)
  have HW := Lib.hid hW; have HgR := Lib.hid hgR; have Hk := Lib.hid kr
  have Hb0 := Lib.hid (hb0.trans (hal.mono hb0.size)); have Hal := Lib.hid hal
  have hgB : g < W.heap.size := by omega
  have hgn : gR ≠ g := by omega
  have hWs : w.heap.size ≤ W.heap.size := hal.size
  have HR := Lib.hid hR; have His := Lib.hid his; have HTc := Lib.hid hTc
  clear hW hgR hsR kr hal hr hb0 hR hTc his
  go_enter Tryz.func58, Tryz.ntmps58
  go_wp2_with fail
  rw [HW.out]
  try rw [HgR.out]
  refine His.out.mono ?_
  rintro e w1 ⟨rfl, hr1, hbt1⟩
  have htc := HTc.out t w1 hr1 hrn (hbt1.below Hb0.out hg)
  have Htc := Lib.hid htc; have Hbt1 := Lib.hid hbt1
  clear htc hbt1 hr1 His
  cases ht : T t with
  | err u =>
    have hR := HR.out
    rw [ht] at hR
    dsimp only at hR
    have htc := Htc.out
    rw [ht] at htc
    have HR2 := Lib.hid hR; have Htc2 := Lib.hid htc
    clear hR htc ht Htc
    go_wp2_with fail
    refine Htc2.out.mono ?_
    rintro e w2 ⟨rfl, hb2, hu⟩
    go_wp2_with fail
    refine ⟨rfl, ?_⟩
    rw [← HR2.out]
    exact ⟨rfl, ((But.of_below g Hal.out).trans Hbt1.out).trans hb2, hu⟩
  | ok q u =>
    have hR := HR.out
    rw [ht] at hR
    dsimp only at hR
    have htc := Htc.out
    rw [ht] at htc
    have HR2 := Lib.hid hR; have Htc2 := Lib.hid htc
    clear hR htc ht Htc
    go_wp2_with fail
    refine Htc2.out.mono ?_
    rintro e w2 ⟨fq, v, rfl, hq, hr2, hb2⟩
    obtain ⟨va, vb, vc, vd, rfl, hrd, rfl, rfl, rfl, Ap, cp, rfl⟩ := hq.cellsOf
    obtain ⟨qk, hqk⟩ : ∃ k, q.kind = k := ⟨_, rfl⟩
    obtain ⟨qt, hqt⟩ : ∃ k, bs q.text = k := ⟨_, rfl⟩
    obtain ⟨qn, hqn⟩ : ∃ k, q.num = k := ⟨_, rfl⟩
    obtain ⟨ql, hql⟩ : ∃ k, q.parts.length = k := ⟨_, rfl⟩
    rw [hqk, hqt, hqn, hql] at hrd ⊢
    have hw12 : W.heap.size ≤ w1.heap.size := Hbt1.out.size
    have hB2 : W.heap.size ≤ w2.heap.size := Nat.le_trans hw12 hb2.size
    have own0 : Own (qF (fq + 1)) (fun b => b < W.heap.size) (w2.alloc (.cells [.int .i64 qk, .string qt, .int .i64 qn, .slice Ap ql cp].toArray 24)) W.heap.size 24 (.slice (some ⟨w2.heap.size, 0, none⟩) [q].length [q].length) [q] :=
      Own.built (w := w2) (C := qF (fq + 1)) 24 (Els.single (Codec.sub _ hrd fun b _ (h : b < W.heap.size) => (by omega : b < w1.heap.size))) hB2 (by simp [maxLen])
    obtain ⟨W2, g2, hW2, hg2, hs2, _, hal2⟩ := boxA w2 #[.int .i64 qk, .string qt, .int .i64 qn, .slice Ap ql cp] 24
    have hr2' : Rd (w2.alloc (.cells [.int .i64 qk, .string qt, .int .i64 qn, .slice Ap ql cp].toArray 24)) g s u := hr2.ext ((Below.refl _ _).alloc (Nat.le_refl _) _)
    rw [show (w2.alloc (.cells [.int .i64 qk, .string qt, .int .i64 qn, .slice Ap ql cp].toArray 24)) = W2 from hW2] at own0 hr2'
    have hbtW2 : But g W W2 := Hbt1.out.trans (hb2.trans (But.of_below g hal2))
    have hsl : (Value.slice (some ⟨w2.heap.size, 0, none⟩) [q].length [q].length) = .slice (some ⟨g2, 0, none⟩) 1 1 := by rw [hg2]; rfl
    rw [hsl] at own0
    have k5 := hbtW2.blk Hk.out hgn
    have hqn : QAt (fq + 1) (fun b => b < W.heap.size) W2 (.agg #[.int .i64 8, .string ⟨#[]⟩, .int .i64 0, .slice (some ⟨g2, 0, none⟩) 1 1]) (.node 8 [] 0 [q]) :=
      ⟨_, _, rfl, by simp, by simp [maxLen], by simp, own0.readG (Nat.le_refl _)⟩
    obtain ⟨W9, hW9, y0, y1, y2, y3, hres⟩ := fin4 (w := w) _ _ _ _ k5 (by have := HgR.out; omega) hgn hr2' ((But.of_below g Hal.out).trans hbtW2) hqn (by exact Hk.out.lt) hWs
    obtain ⟨z0, z1, z2, z3, hz⟩ := k5.four
    have f0 := k5.frozen 0; have f1 := k5.frozen 1; have f2 := k5.frozen 2; have f3 := k5.frozen 3
    subst hW2
    rw [← hg2] at hW9 y3 hres
    have HW9 := Lib.hid hW9; have Hres := Lib.hid hres
    have hy := And.intro y0 (And.intro y1 (And.intro y2 y3)); have Hy := Lib.hid hy
    clear hsl hg2 hs2 hal2 own0 hr2' hbtW2 hr2 hb2 hrd hq hqk hqt hqn hql Htc2 k5 hW9 hres y0 y1 y2 y3 hy
    go_wp2_with fail
    rw [HW9.out]
    obtain ⟨y0, y1, y2, y3⟩ := Hy.out
    refine bodyPost_ret (v := .agg #[.int .i64 8, .string ⟨#[]⟩, .int .i64 0, .slice (some ⟨w2.heap.size, 0, none⟩) 1 1]) (by simp [results, Tryz.results58, go_sem, y0, y1, y2, y3]) rfl ?_
    rw [← HR2.out]
    exact Hres.out
set_option maxRecDepth 100000 in
set_option maxHeartbeats 8000000 in
theorem rterm_star (w0 : World) (hT : TabsU w0) (g : Nat) (hg : w0.heap.size ≤ g) (s : Str) (hs : s.length ≤ 4000) (n : Nat) (T : Str → Q.Res) (hTs : Q.Short T) (hTc : TermC w0 g s n T) (t : Str) (w : World) (hr : Rd w g s (42 :: t)) (hrn : t.length ≤ n) (hb0 : Below w0.heap.size w0 w) (R : Q.Res) (hR : (Q.Res.ok (.node 1 [] 0 []) t) = R) :
    Calls Tryz.prog 58 #[.pointer (some ⟨g, 0, none⟩)] w (ResAt g s w R) := by
  obtain ⟨W, gR, hW, hgR, hsR, kr, hal⟩ := boxA w #[.int .i64 0, .string ⟨#[]⟩, .int .i64 0, .slice none 0 0] 24
  have hgw : g < w.heap.size := hr.1.two.2.2.2.2
  have hrW := hr.ext hal
  have HW := Lib.hid hW; have HgR := Lib.hid hgR; have Hk := Lib.hid kr
  have Hb0 := Lib.hid (hb0.trans (hal.mono hb0.size)); have Hal := Lib.hid hal
  have hgB : g < W.heap.size := by omega
  have hgn : gR ≠ g := by omega
  have hWs : w.heap.size ≤ W.heap.size := hal.size
  have HR := Lib.hid hR; have HTc := Lib.hid hTc; have HTs := Lib.hid hTs; have HT := Lib.hid hT; have HrW := Lib.hid hrW; have Ha0 := Lib.hid (But.of_below g hal)
  clear hW hgR hsR kr hal hr hb0 hR hTc hTs hT hrW
  go_enter Tryz.func58, Tryz.ntmps58
  go_wp2_with fail
  rw [HW.out]
  try rw [HgR.out]
  have HbW := Lib.hid (But.refl g W)
  have his := is_no g s 45 (42 :: t) W HrW.out hs (by decide) (by rw [List.headD_cons]; decide)
  refine his.mono ?_
  clear his
  rintro e w1 ⟨rfl, hr1, hbt1⟩
  have Hrw1 := Lib.hid hr1; have Hbw1 := Lib.hid (HbW.out.trans hbt1)
  clear hr1 hbt1
  go_wp2_with fail
  have his := is_no g s 40 (42 :: t) w1 Hrw1.out hs (by decide) (by rw [List.headD_cons]; decide)
  refine his.mono ?_
  clear his
  rintro e w2 ⟨rfl, hr2, hbt2⟩
  have Hrw2 := Lib.hid hr2; have Hbw2 := Lib.hid (Hbw1.out.trans hbt2)
  clear hr2 hbt2
  go_wp2_with fail
  have his := is_no g s 34 (42 :: t) w2 Hrw2.out hs (by decide) (by rw [List.headD_cons]; decide)
  refine his.mono ?_
  clear his
  rintro e w3 ⟨rfl, hr3, hbt3⟩
  have Hrw3 := Lib.hid hr3; have Hbw3 := Lib.hid (Hbw2.out.trans hbt3)
  clear hr3 hbt3
  go_wp2_with fail
  have his := is_yes g s 42 (t) w3 Hrw3.out hs (by decide)
  refine his.mono ?_
  clear his
  rintro e w4 ⟨rfl, hr4, hbt4⟩
  have Hrw4 := Lib.hid hr4; have Hbw4 := Lib.hid (Hbw3.out.trans hbt4)
  clear hr4 hbt4
  have k5 := (Hbw4.out).blk Hk.out hgn
  obtain ⟨W9, hW9, y0, y1, y2, y3, hres⟩ := fin4 (w := w) (.int .i64 1) (.string ⟨#[]⟩) (.int .i64 0) (.slice none 0 0) k5 (by have := HgR.out; omega) hgn (Hrw4.out) (Ha0.out.trans (Hbw4.out)) ((⟨none, 0, rfl, by simp, by simp [maxLen], by simp, SlR.nil _ _ _⟩ : QAt 0 (fun b => b < W.heap.size) w4 _ (.node 1 [] 0 []))) (by exact Hk.out.lt) hWs
  obtain ⟨z0, z1, z2, z3, hz⟩ := k5.four
  have f0 := k5.frozen 0; have f1 := k5.frozen 1; have f2 := k5.frozen 2; have f3 := k5.frozen 3
  rw [HR.out] at hres
  have HW9 := Lib.hid hW9; have Hres := Lib.hid hres
  have hy := And.intro y0 (And.intro y1 (And.intro y2 y3)); have Hy := Lib.hid hy
  clear k5 hW9 hres y0 y1 y2 y3 hy
  go_wp2_with fail
  rw [HW9.out]
  obtain ⟨y0, y1, y2, y3⟩ := Hy.out
  refine bodyPost_ret (v := .agg #[.int .i64 1, .string ⟨#[]⟩, .int .i64 0, .slice none 0 0]) (by simp [results, Tryz.results58, go_sem, y0, y1, y2, y3]) rfl ?_
  exact Hres.out
set_option maxRecDepth 100000 in
set_option maxHeartbeats 8000000 in
theorem rterm_quote (w0 : World) (hT : TabsU w0) (g : Nat) (hg : w0.heap.size ≤ g) (s : Str) (hs : s.length ≤ 4000) (n : Nat) (T : Str → Q.Res) (hTs : Q.Short T) (hTc : TermC w0 g s n T) (t : Str) (w : World) (hr : Rd w g s (34 :: t)) (hrn : t.length ≤ n) (hb0 : Below w0.heap.size w0 w) (R : Q.Res) (hR : (Q.quotedS t) = R) :
    Calls Tryz.prog 58 #[.pointer (some ⟨g, 0, none⟩)] w (ResAt g s w R) := by
  obtain ⟨W, gR, hW, hgR, hsR, kr, hal⟩ := boxA w #[.int .i64 0, .string ⟨#[]⟩, .int .i64 0, .slice none 0 0] 24
  have hgw : g < w.heap.size := hr.1.two.2.2.2.2
  have hrW := hr.ext hal
  have HW := Lib.hid hW; have HgR := Lib.hid hgR; have Hk := Lib.hid kr
  have Hb0 := Lib.hid (hb0.trans (hal.mono hb0.size)); have Hal := Lib.hid hal
  have hgB : g < W.heap.size := by omega
  have hgn : gR ≠ g := by omega
  have hWs : w.heap.size ≤ W.heap.size := hal.size
  have HR := Lib.hid hR; have HTc := Lib.hid hTc; have HTs := Lib.hid hTs; have HT := Lib.hid hT; have HrW := Lib.hid hrW; have Ha0 := Lib.hid (But.of_below g hal)
  clear hW hgR hsR kr hal hr hb0 hR hTc hTs hT hrW
  go_enter Tryz.func58, Tryz.ntmps58
  go_wp2_with fail
  rw [HW.out]
  try rw [HgR.out]
  have HbW := Lib.hid (But.refl g W)
  have his := is_no g s 45 (34 :: t) W HrW.out hs (by decide) (by rw [List.headD_cons]; decide)
  refine his.mono ?_
  clear his
  rintro e w1 ⟨rfl, hr1, hbt1⟩
  have Hrw1 := Lib.hid hr1; have Hbw1 := Lib.hid (HbW.out.trans hbt1)
  clear hr1 hbt1
  go_wp2_with fail
  have his := is_no g s 40 (34 :: t) w1 Hrw1.out hs (by decide) (by rw [List.headD_cons]; decide)
  refine his.mono ?_
  clear his
  rintro e w2 ⟨rfl, hr2, hbt2⟩
  have Hrw2 := Lib.hid hr2; have Hbw2 := Lib.hid (Hbw1.out.trans hbt2)
  clear hr2 hbt2
  go_wp2_with fail
  have his := is_yes g s 34 (t) w2 Hrw2.out hs (by decide)
  refine his.mono ?_
  clear his
  rintro e w3 ⟨rfl, hr3, hbt3⟩
  have Hrw3 := Lib.hid hr3; have Hbw3 := Lib.hid (Hbw2.out.trans hbt3)
  clear hr3 hbt3
  have htc := rphrase_ok w0 HT.out g hg s t w3 Hrw3.out hs (Hbw3.out.below Hb0.out hg)
  rw [HR.out] at htc
  have Htc2 := Lib.hid htc
  clear htc
  go_wp2_with fail
  cases hRR : R with
  | err u =>
    have htc := Htc2.out
    rw [hRR] at htc
    refine htc.mono ?_
    clear htc
    rintro e w9 ⟨rfl, hb9, hu⟩
    go_wp2_with fail
    refine ⟨rfl, ?_⟩
    exact ⟨rfl, (Ha0.out.trans Hbw3.out).trans hb9, hu⟩
  | ok q u =>
    have htc := Htc2.out
    rw [hRR] at htc
    refine htc.mono ?_
    clear htc
    rintro e w5 ⟨fq, v, rfl, hq, hr5, hb5⟩
    obtain ⟨va, vb, vc, vd, rfl, _, rfl, rfl, rfl, Ap, cp, rfl⟩ := hq.cellsOf
    have hb05 := Hbw3.out.trans hb5
    have hq5 := hq.sub (M' := fun b => b < W.heap.size) fun b _ (h : b < W.heap.size) => (by have := Hbw3.out.size; omega : b < w3.heap.size)
    have k5 := (hb05).blk Hk.out hgn
    obtain ⟨W9, hW9, y0, y1, y2, y3, hres⟩ := fin4 (w := w) (.int .i64 q.kind) (.string (bs q.text)) (.int .i64 q.num) (.slice Ap q.parts.length cp) k5 (by have := HgR.out; omega) hgn (hr5) (Ha0.out.trans (hb05)) (hq5) (by exact Hk.out.lt) hWs
    obtain ⟨z0, z1, z2, z3, hz⟩ := k5.four
    have f0 := k5.frozen 0; have f1 := k5.frozen 1; have f2 := k5.frozen 2; have f3 := k5.frozen 3
    have HW9 := Lib.hid hW9; have Hres := Lib.hid hres
    have hy := And.intro y0 (And.intro y1 (And.intro y2 y3)); have Hy := Lib.hid hy
    clear k5 hW9 hres y0 y1 y2 y3 hy
    clear hb05 hr5 hq5 hq hb5
    go_wp2_with fail
    rw [HW9.out]
    obtain ⟨y0, y1, y2, y3⟩ := Hy.out
    refine bodyPost_ret (v := .agg #[.int .i64 q.kind, .string (bs q.text), .int .i64 q.num, .slice Ap q.parts.length cp]) (by simp [results, Tryz.results58, go_sem, y0, y1, y2, y3]) rfl ?_
    rw [hRR]
    exact Hres.out
end Go.Proofs.YtihhgmpanfboaaaGreatDoor
namespace Go.Proofs.YtihhgmpanfboaaaGreatDoor
open Go.RowKit
set_option linter.unusedVariables false
theorem QAt.keepBut {f n0 g : Nat} {w w' : World} {v : Value} {q : Q} (h : QAt f (fun b => b < n0) w v q) (hb : But g w w') (hg : g < n0) : QAt f (fun b => b < n0) w' v q := by
  obtain ⟨A, c, e, h1, h2, h3, hv⟩ := h
  exact ⟨A, c, e, h1, h2, h3, hv.keep (fun b hlt hn => hb.block b hlt (by omega)) hb.size⟩
set_option maxRecDepth 100000 in
set_option maxHeartbeats 8000000 in
theorem rterm_paren (w0 : World) (hT : TabsU w0) (g : Nat) (hg : w0.heap.size ≤ g) (s : Str) (hs : s.length ≤ 4000) (n : Nat) (T : Str → Q.Res) (hTs : Q.Short T) (hTc : TermC w0 g s n T) (t : Str) (w : World) (hr : Rd w g s (40 :: t)) (hrn : t.length ≤ n) (hb0 : Below w0.heap.size w0 w) (R : Q.Res) (hR : (match Q.eitherOf T t with | .ok q u => (if u.headD 0 = 41 then Q.Res.ok q u.tail else .err u) | .err u => .err u) = R) :
    Calls Tryz.prog 58 #[.pointer (some ⟨g, 0, none⟩)] w (ResAt g s w R) := by
  obtain ⟨W, gR, hW, hgR, hsR, kr, hal⟩ := boxA w #[.int .i64 0, .string ⟨#[]⟩, .int .i64 0, .slice none 0 0] 24
  have hgw : g < w.heap.size := hr.1.two.2.2.2.2
  have hrW := hr.ext hal
  have HW := Lib.hid hW; have HgR := Lib.hid hgR; have Hk := Lib.hid kr
  have Hb0 := Lib.hid (hb0.trans (hal.mono hb0.size)); have Hal := Lib.hid hal
  have hgB : g < W.heap.size := by omega
  have hgn : gR ≠ g := by omega
  have hWs : w.heap.size ≤ W.heap.size := hal.size
  have HR := Lib.hid hR; have HTc := Lib.hid hTc; have HTs := Lib.hid hTs; have HT := Lib.hid hT; have HrW := Lib.hid hrW; have Ha0 := Lib.hid (But.of_below g hal)
  clear hW hgR hsR kr hal hr hb0 hR hTc hTs hT hrW
  go_enter Tryz.func58, Tryz.ntmps58
  go_wp2_with fail
  rw [HW.out]
  try rw [HgR.out]
  have HbW := Lib.hid (But.refl g W)
  have his := is_no g s 45 (40 :: t) W HrW.out hs (by decide) (by rw [List.headD_cons]; decide)
  refine his.mono ?_
  clear his
  rintro e w1 ⟨rfl, hr1, hbt1⟩
  have Hrw1 := Lib.hid hr1; have Hbw1 := Lib.hid (HbW.out.trans hbt1)
  clear hr1 hbt1
  go_wp2_with fail
  have his := is_yes g s 40 (t) w1 Hrw1.out hs (by decide)
  refine his.mono ?_
  clear his
  rintro e w2 ⟨rfl, hr2, hbt2⟩
  have Hrw2 := Lib.hid hr2; have Hbw2 := Lib.hid (Hbw1.out.trans hbt2)
  clear hr2 hbt2
  have htc := reither_ok w0 HT.out g hg s hs n T HTs.out HTc.out t w2 Hrw2.out hrn (Hbw2.out.below Hb0.out hg)
  have Htc := Lib.hid htc
  clear htc
  cases ht : Q.eitherOf T t with
  | err u =>
    have hR := HR.out
    rw [ht] at hR
    dsimp only at hR
    have htc := Htc.out
    rw [ht] at htc
    have HR2 := Lib.hid hR; have Htc2 := Lib.hid htc
    clear hR htc ht Htc
    go_wp2_with fail
    refine Htc2.out.mono ?_
    rintro e w9 ⟨rfl, hb9, hu⟩
    go_wp2_with fail
    refine ⟨rfl, ?_⟩
    rw [← HR2.out]
    exact ⟨rfl, (Ha0.out.trans Hbw2.out).trans hb9, hu⟩
  | ok q u =>
    have hR := HR.out
    rw [ht] at hR
    dsimp only at hR
    have htc := Htc.out
    rw [ht] at htc
    have HR2 := Lib.hid hR; have Htc2 := Lib.hid htc
    clear hR htc ht Htc
    go_wp2_with fail
    refine Htc2.out.mono ?_
    rintro e w5 ⟨fq, v, rfl, hq, hr5, hb5⟩
    obtain ⟨va, vb, vc, vd, rfl, _, rfl, rfl, rfl, Ap, cp, rfl⟩ := hq.cellsOf
    have hw2W : W.heap.size ≤ w2.heap.size := Hbw2.out.size
    have hb05 := Hbw2.out.trans hb5
    obtain ⟨qk, hqk⟩ : ∃ k, q.kind = k := ⟨_, rfl⟩
    obtain ⟨qt, hqt⟩ : ∃ k, bs q.text = k := ⟨_, rfl⟩
    obtain ⟨qn, hqn⟩ : ∃ k, q.num = k := ⟨_, rfl⟩
    obtain ⟨ql, hql⟩ : ∃ k, q.parts.length = k := ⟨_, rfl⟩
    rw [hqk, hqt, hqn, hql] at hq ⊢
    obtain ⟨V4, g3, hV4, hg3, hs3, k4, hbV4⟩ := boxA w5 #[.int .i64 qk, .string qt, .int .i64 qn, .slice Ap ql cp] 24
    have hq4 := hq.ext hbV4
    have hr4 := hr5.ext hbV4
    have hb04 := hb05.trans (But.of_below g hbV4)
    have hg3n : g3 ≠ g := by have := hr5.1.two.2.2.2.2; omega
    have Hg3 := Lib.hid hg3; have HV4 := Lib.hid hV4; have Hk4 := Lib.hid k4; have Hq4 := Lib.hid hq4; have Hr4 := Lib.hid hr4; have Hb04 := Lib.hid hb04
    have Hqe := Lib.hid (And.intro hqk (And.intro hqt (And.intro hqn hql)))
    clear hg3 hs3 hV4 k4 hbV4 hq4 hr4 hb04 hq hr5 hb5 hb05 Htc2 hqk hqt hqn hql
    go_wp2_with fail
    rw [HV4.out]
    try rw [Hg3.out]
    by_cases h41 : u.headD 0 = 41
    · obtain ⟨t2, rfl⟩ : ∃ t2, u = 41 :: t2 := by
        cases u with
        | nil => exact absurd h41 (by decide)
        | cons c t2 => rw [List.headD_cons] at h41; exact ⟨t2, by rw [h41]⟩
      have hR := HR2.out
      rw [if_pos h41, List.tail_cons] at hR
      have HR3 := Lib.hid hR
      clear hR
      refine (need_yes g s 41 t2 V4 Hr4.out hs (by decide)).mono ?_
      rintro e w6 ⟨rfl, hr6, hb6⟩
      have k6 := hb6.blk Hk4.out hg3n
      obtain ⟨x0, x1, x2, x3, hx⟩ := k6.four
      have hqk6 : QAt fq (fun b => b < W.heap.size) w6 (.agg #[.int .i64 qk, .string qt, .int .i64 qn, .slice Ap ql cp]) q :=
        (Hq4.out.sub (M' := fun b => b < W.heap.size) fun b _ (h : b < W.heap.size) => (by omega : b < w2.heap.size)).keepBut hb6 hgB
      have hb06 := Hb04.out.trans hb6
      have k5 := (hb06).blk Hk.out hgn
      obtain ⟨W9, hW9, y0, y1, y2, y3, hres⟩ := fin4 (w := w) (.int .i64 qk) (.string qt) (.int .i64 qn) (.slice Ap ql cp) k5 (by have := HgR.out; omega) hgn (hr6) (Ha0.out.trans (hb06)) (hqk6) (by exact Hk.out.lt) hWs
      obtain ⟨z0, z1, z2, z3, hz⟩ := k5.four
      have f0 := k5.frozen 0; have f1 := k5.frozen 1; have f2 := k5.frozen 2; have f3 := k5.frozen 3
      rw [HR3.out] at hres
      have HW9 := Lib.hid hW9; have Hres := Lib.hid hres
      have hy := And.intro y0 (And.intro y1 (And.intro y2 y3)); have Hy := Lib.hid hy
      clear k5 hW9 hres y0 y1 y2 y3 hy
      clear hb06 hr6 hqk6 hb6 k6
      go_wp2_with fail
      rw [HW9.out]
      obtain ⟨y0, y1, y2, y3⟩ := Hy.out
      refine bodyPost_ret (v := .agg #[.int .i64 qk, .string qt, .int .i64 qn, .slice Ap ql cp]) (by simp [results, Tryz.results58, go_sem, y0, y1, y2, y3]) rfl ?_
      exact Hres.out
    · have hR := HR2.out
      rw [if_neg h41] at hR
      have HR3 := Lib.hid hR
      clear hR
      refine (need_no g s 41 u V4 Hr4.out hs (by decide) h41).mono ?_
      rintro e w6 ⟨rfl, hr6, hb6⟩
      go_wp2_with fail
      refine ⟨rfl, ?_⟩
      rw [← HR3.out]
      exact ⟨rfl, (Ha0.out.trans Hb04.out).trans hb6, hr6.2⟩
end Go.Proofs.YtihhgmpanfboaaaGreatDoor
namespace Go.Proofs.YtihhgmpanfboaaaGreatDoor
open Go.RowKit
set_option linter.unusedVariables false
namespace Q
def wordT (r xa xb : Str) : Res :=
  if xa = [] then .err r
  else if xb.headD 0 = 42 then .ok (.node 3 (Sm.lower xa) 0 []) xb.tail
  else if xb.headD 0 = 126 then nearS (Sm.lower xa) xb.tail
  else .ok (.node 2 (Sm.lower xa) 0 []) xb
theorem wordTerm_eq (r : Str) : wordTerm r = wordT r (wordS r).1 (wordS r).2 := by
  unfold wordTerm wordT
  split
  · rfl
  · generalize (wordS r).2 = xb
    cases xb with
    | nil => rfl
    | cons c t =>
      by_cases h1 : c = 42
      · subst h1; rfl
      · by_cases h2 : c = 126
        · subst h2; rfl
        · rw [if_neg (by rw [List.headD_cons]; exact h1), if_neg (by rw [List.headD_cons]; exact h2)]
          split
          · rename_i e; injection e with e1 e2; exact absurd e1 h1
          · rename_i e; injection e with e1 e2; exact absurd e1 h2
          · rfl
theorem termS_minus (f : Nat) (t : Str) : termS (f + 1) (45 :: t) = match termS f t with | .ok q u => .ok (.node 8 [] 0 [q]) u | .err u => .err u := rfl
theorem termS_paren (f : Nat) (t : Str) : termS (f + 1) (40 :: t) = match eitherOf (termS f) t with | .ok q u => (if u.headD 0 = 41 then Res.ok q u.tail else .err u) | .err u => .err u := by
  show (match eitherOf (termS f) t with | .ok q (41 :: u) => Res.ok q u | .ok q u => .err u | .err u => .err u) = _
  cases eitherOf (termS f) t with
  | err u => rfl
  | ok q u =>
    cases u with
    | nil => rfl
    | cons c u =>
      by_cases h : c = 41
      · subst h; rfl
      · show _ = if _ then _ else _
        rw [if_neg (by rw [List.headD_cons]; exact h)]
        split
        · rename_i e; injection e with e1 e2; injection e2 with e3 e4; exact absurd e3 h
        · rename_i e; injection e with e1 e2; rw [e2]
        · rename_i e; cases e
theorem termS_wd (f : Nat) {r : Str} (h45 : r.headD 0 ≠ 45) (h40 : r.headD 0 ≠ 40) (h34 : r.headD 0 ≠ 34) (h42 : r.headD 0 ≠ 42) : termS (f + 1) r = wordTerm r := by
  unfold termS
  split
  · exact absurd rfl h45
  · exact absurd rfl h40
  · exact absurd rfl h34
  · exact absurd rfl h42
  · rfl
end Q
theorem headD_cons_of {r : Str} {c : UInt8} (h : r.headD 0 = c) (hc : c ≠ 0) : ∃ t, r = c :: t := by
  cases r with
  | nil => exact absurd h.symm hc
  | cons d t => rw [List.headD_cons] at h; exact ⟨t, by rw [h]⟩
set_option maxRecDepth 100000 in
set_option maxHeartbeats 8000000 in
theorem rterm_word (w0 : World) (hT : TabsU w0) (g : Nat) (hg : w0.heap.size ≤ g) (s : Str) (hs : s.length ≤ 4000) (r : Str) (h45 : r.headD 0 ≠ 45) (h40 : r.headD 0 ≠ 40) (h34 : r.headD 0 ≠ 34) (h42 : r.headD 0 ≠ 42) (w : World) (hr : Rd w g s r) (hb0 : Below w0.heap.size w0 w) :
    Calls Tryz.prog 58 #[.pointer (some ⟨g, 0, none⟩)] w (ResAt g s w (Q.wordTerm r)) := by
  rw [Q.wordTerm_eq]
  obtain ⟨⟨xa, xb⟩, hx⟩ : ∃ x, Q.wordS r = x := ⟨_, rfl⟩
  have hwl := wordS_lens r
  have hws := wordS_split r.length r (Nat.le_refl _)
  have hwd := fun w4 hr4 hb4 => rword_ok w0 hT g hg s r w4 hr4 hs hb4
  rw [hx] at hwl hws hwd ⊢
  dsimp only at hwl hws hwd ⊢
  have hll := Sm.lower_len xa.length xa (Nat.le_refl _)
  have hrl := hr.2.length_le
  obtain ⟨W, gR, hW, hgR, hsR, kr, hal⟩ := boxA w #[.int .i64 0, .string ⟨#[]⟩, .int .i64 0, .slice none 0 0] 24
  have hgw : g < w.heap.size := hr.1.two.2.2.2.2
  have hrW := hr.ext hal
  obtain ⟨R, hR⟩ : ∃ R, Q.wordT r xa xb = R := ⟨_, rfl⟩
  rw [hR]
  have HW := Lib.hid hW; have HgR := Lib.hid hgR; have Hk := Lib.hid kr
  have Hb0 := Lib.hid (hb0.trans (hal.mono hb0.size)); have Hal := Lib.hid hal
  have hgB : g < W.heap.size := by omega
  have hgn : gR ≠ g := by omega
  have hWs : w.heap.size ≤ W.heap.size := hal.size
  have HR := Lib.hid hR; have HT := Lib.hid hT; have HrW := Lib.hid hrW; have Ha0 := Lib.hid (But.of_below g hal); have Hws := Lib.hid hws; have Hwd := Lib.hid hwd
  have H45 := Lib.hid h45; have H40 := Lib.hid h40; have H34 := Lib.hid h34; have H42 := Lib.hid h42
  clear hW hgR hsR kr hal hr hb0 hR hT hrW hx hws hwd h45 h40 h34 h42
  go_enter Tryz.func58, Tryz.ntmps58
  go_wp2_with fail
  rw [HW.out]
  try rw [HgR.out]
  have HbW := Lib.hid (But.refl g W)
  have his := is_no g s 45 (r) W HrW.out hs (by decide) H45.out
  refine his.mono ?_
  clear his
  rintro e w1 ⟨rfl, hr1, hbt1⟩
  have Hrw1 := Lib.hid hr1; have Hbw1 := Lib.hid (HbW.out.trans hbt1)
  clear hr1 hbt1
  go_wp2_with fail
  have his := is_no g s 40 (r) w1 Hrw1.out hs (by decide) H40.out
  refine his.mono ?_
  clear his
  rintro e w2 ⟨rfl, hr2, hbt2⟩
  have Hrw2 := Lib.hid hr2; have Hbw2 := Lib.hid (Hbw1.out.trans hbt2)
  clear hr2 hbt2
  go_wp2_with fail
  have his := is_no g s 34 (r) w2 Hrw2.out hs (by decide) H34.out
  refine his.mono ?_
  clear his
  rintro e w3 ⟨rfl, hr3, hbt3⟩
  have Hrw3 := Lib.hid hr3; have Hbw3 := Lib.hid (Hbw2.out.trans hbt3)
  clear hr3 hbt3
  go_wp2_with fail
  have his := is_no g s 42 (r) w3 Hrw3.out hs (by decide) H42.out
  refine his.mono ?_
  clear his
  rintro e w4 ⟨rfl, hr4, hbt4⟩
  have Hrw4 := Lib.hid hr4; have Hbw4 := Lib.hid (Hbw3.out.trans hbt4)
  clear hr4 hbt4
  go_wp2_with fail
  refine (Hwd.out w4 Hrw4.out (Hbw4.out.below Hb0.out hg)).mono ?_
  clear Hwd
  rintro e w5 ⟨rfl, hr5, hbt5⟩
  have Hrw5 := Lib.hid hr5; have Hbw5 := Lib.hid (Hbw4.out.trans hbt5)
  obtain ⟨r0, r1, r2, r3, _⟩ := hr5.1.two
  clear hr5 hbt5
  by_cases hxe : xa = []
  · subst hxe
    have hw0 : (Sm.lower ([] : Str) == []) = true := rfl
    have hxb : xb = r := by
      have h1 := Hws.out
      simpa using h1.symm
    subst hxb
    have hR : Q.Res.err xb = R := by rw [← HR.out]; unfold Q.wordT; exact (if_pos rfl).symm
    have HR2 := Lib.hid hR
    clear hR
    go_wp2_with fail
    refine (fail_ok _ w5).mono ?_
    rintro e w6 ⟨rfl, rfl⟩
    go_wp2_with fail
    refine ⟨rfl, ?_⟩
    rw [← HR2.out]
    exact ⟨rfl, Ha0.out.trans Hbw5.out, Hrw5.out.2⟩
  · have hle : Sm.lower xa ≠ [] := fun e => hxe (lower_none e)
    have hlx : (Sm.lower xa == []) = false := by simpa using hle
    have hR := HR.out
    unfold Q.wordT at hR
    rw [if_neg hxe] at hR
    obtain ⟨lx, hlx2⟩ : ∃ l, Sm.lower xa = l := ⟨_, rfl⟩
    rw [hlx2] at hR hlx hll ⊢
    have HR1 := Lib.hid hR
    clear hR hle hlx2 r0 r1 r2 r3
    have hlm : lx.length ≤ maxLen := by unfold maxLen; omega
    go_wp2_with fail
    by_cases c42 : xb.headD 0 = 42
    · obtain ⟨t, rfl⟩ := headD_cons_of c42 (by decide)
      have hR := HR1.out
      rw [if_pos c42, List.tail_cons] at hR
      have HR2 := Lib.hid hR
      clear hR
      have his := is_yes g s 42 (t) w5 Hrw5.out hs (by decide)
      refine his.mono ?_
      clear his
      rintro e w6 ⟨rfl, hr6, hbt6⟩
      have Hrw6 := Lib.hid hr6; have Hbw6 := Lib.hid (Hbw5.out.trans hbt6)
      clear hr6 hbt6
      have k5 := (Hbw6.out).blk Hk.out hgn
      obtain ⟨W9, hW9, y0, y1, y2, y3, hres⟩ := fin4 (w := w) (.int .i64 3) (.string (bs lx)) (.int .i64 0) (.slice none 0 0) k5 (by have := HgR.out; omega) hgn (Hrw6.out) (Ha0.out.trans (Hbw6.out)) ((⟨none, 0, rfl, by simp, by simp only [Q.text_node]; exact hlm, by simp, SlR.nil _ _ _⟩ : QAt 0 (fun b => b < W.heap.size) w6 _ (.node 3 lx 0 []))) (by exact Hk.out.lt) hWs
      obtain ⟨z0, z1, z2, z3, hz⟩ := k5.four
      have f0 := k5.frozen 0; have f1 := k5.frozen 1; have f2 := k5.frozen 2; have f3 := k5.frozen 3
      rw [HR2.out] at hres
      have HW9 := Lib.hid hW9; have Hres := Lib.hid hres
      have hy := And.intro y0 (And.intro y1 (And.intro y2 y3)); have Hy := Lib.hid hy
      clear k5 hW9 hres y0 y1 y2 y3 hy
      go_wp2_with fail
      rw [HW9.out]
      obtain ⟨y0, y1, y2, y3⟩ := Hy.out
      refine bodyPost_ret (v := .agg #[.int .i64 3, .string (bs lx), .int .i64 0, .slice none 0 0]) (by simp [results, Tryz.results58, go_sem, y0, y1, y2, y3]) rfl ?_
      exact Hres.out
    · have hR := HR1.out
      rw [if_neg c42] at hR
      have HR2 := Lib.hid hR
      clear hR
      have his := is_no g s 42 (xb) w5 Hrw5.out hs (by decide) c42
      refine his.mono ?_
      clear his
      rintro e w6 ⟨rfl, hr6, hbt6⟩
      have Hrw6 := Lib.hid hr6; have Hbw6 := Lib.hid (Hbw5.out.trans hbt6)
      clear hr6 hbt6
      go_wp2_with fail
      by_cases c126 : xb.headD 0 = 126
      · obtain ⟨t, rfl⟩ := headD_cons_of c126 (by decide)
        have hR := HR2.out
        rw [if_pos c126, List.tail_cons] at hR
        have HR3 := Lib.hid hR
        clear hR
        have his := is_yes g s 126 (t) w6 Hrw6.out hs (by decide)
        refine his.mono ?_
        clear his
        rintro e w7 ⟨rfl, hr7, hbt7⟩
        have Hrw7 := Lib.hid hr7; have Hbw7 := Lib.hid (Hbw6.out.trans hbt7)
        clear hr7 hbt7
        have htc := rnear_ok w0 HT.out g hg s lx t (by omega) w7 Hrw7.out hs (Hbw7.out.below Hb0.out hg)
        rw [HR3.out] at htc
        have Htc2 := Lib.hid htc
        clear htc
        go_wp2_with fail
        cases hRR : R with
        | err u =>
          have htc := Htc2.out
          rw [hRR] at htc
          refine htc.mono ?_
          clear htc
          rintro e w9 ⟨rfl, hb9, hu⟩
          go_wp2_with fail
          refine ⟨rfl, ?_⟩
          exact ⟨rfl, (Ha0.out.trans Hbw7.out).trans hb9, hu⟩
        | ok q u =>
          have htc := Htc2.out
          rw [hRR] at htc
          refine htc.mono ?_
          clear htc
          rintro e w8 ⟨fq, v, rfl, hq, hr8, hb8⟩
          obtain ⟨va, vb, vc, vd, rfl, _, rfl, rfl, rfl, Ap, cp, rfl⟩ := hq.cellsOf
          have hb08 := Hbw7.out.trans hb8
          have hq8 := hq.sub (M' := fun b => b < W.heap.size) fun b _ (h : b < W.heap.size) => (by have := Hbw7.out.size; omega : b < w7.heap.size)
          have k5 := (hb08).blk Hk.out hgn
          obtain ⟨W9, hW9, y0, y1, y2, y3, hres⟩ := fin4 (w := w) (.int .i64 q.kind) (.string (bs q.text)) (.int .i64 q.num) (.slice Ap q.parts.length cp) k5 (by have := HgR.out; omega) hgn (hr8) (Ha0.out.trans (hb08)) (hq8) (by exact Hk.out.lt) hWs
          obtain ⟨z0, z1, z2, z3, hz⟩ := k5.four
          have f0 := k5.frozen 0; have f1 := k5.frozen 1; have f2 := k5.frozen 2; have f3 := k5.frozen 3
          have HW9 := Lib.hid hW9; have Hres := Lib.hid hres
          have hy := And.intro y0 (And.intro y1 (And.intro y2 y3)); have Hy := Lib.hid hy
          clear k5 hW9 hres y0 y1 y2 y3 hy
          clear hb08 hr8 hq8 hq hb8
          go_wp2_with fail
          rw [HW9.out]
          obtain ⟨y0, y1, y2, y3⟩ := Hy.out
          refine bodyPost_ret (v := .agg #[.int .i64 q.kind, .string (bs q.text), .int .i64 q.num, .slice Ap q.parts.length cp]) (by simp [results, Tryz.results58, go_sem, y0, y1, y2, y3]) rfl ?_
          rw [hRR]
          exact Hres.out
      · have hR := HR2.out
        rw [if_neg c126] at hR
        have HR3 := Lib.hid hR
        clear hR
        have his := is_no g s 126 (xb) w6 Hrw6.out hs (by decide) c126
        refine his.mono ?_
        clear his
        rintro e w7 ⟨rfl, hr7, hbt7⟩
        have Hrw7 := Lib.hid hr7; have Hbw7 := Lib.hid (Hbw6.out.trans hbt7)
        clear hr7 hbt7
        have k5 := (Hbw7.out).blk Hk.out hgn
        obtain ⟨W9, hW9, y0, y1, y2, y3, hres⟩ := fin4 (w := w) (.int .i64 2) (.string (bs lx)) (.int .i64 0) (.slice none 0 0) k5 (by have := HgR.out; omega) hgn (Hrw7.out) (Ha0.out.trans (Hbw7.out)) ((⟨none, 0, rfl, by simp, by simp only [Q.text_node]; exact hlm, by simp, SlR.nil _ _ _⟩ : QAt 0 (fun b => b < W.heap.size) w7 _ (.node 2 lx 0 []))) (by exact Hk.out.lt) hWs
        obtain ⟨z0, z1, z2, z3, hz⟩ := k5.four
        have f0 := k5.frozen 0; have f1 := k5.frozen 1; have f2 := k5.frozen 2; have f3 := k5.frozen 3
        rw [HR3.out] at hres
        have HW9 := Lib.hid hW9; have Hres := Lib.hid hres
        have hy := And.intro y0 (And.intro y1 (And.intro y2 y3)); have Hy := Lib.hid hy
        clear k5 hW9 hres y0 y1 y2 y3 hy
        go_wp2_with fail
        rw [HW9.out]
        obtain ⟨y0, y1, y2, y3⟩ := Hy.out
        refine bodyPost_ret (v := .agg #[.int .i64 2, .string (bs lx), .int .i64 0, .slice none 0 0]) (by simp [results, Tryz.results58, go_sem, y0, y1, y2, y3]) rfl ?_
        exact Hres.out
theorem rterm_any (w0 : World) (hT : TabsU w0) (g : Nat) (hg : w0.heap.size ≤ g) (s : Str) (hs : s.length ≤ 4000) (f n : Nat) (hTc : ∀ t : Str, t.length < n → TermC w0 g s t.length (Q.termS f)) (r : Str) (hrn : r.length ≤ n) (w : World) (hr : Rd w g s r) (hb0 : Below w0.heap.size w0 w) :
    Calls Tryz.prog 58 #[.pointer (some ⟨g, 0, none⟩)] w (ResAt g s w (Q.termS (f + 1) r)) := by
  have hSh := Q.termS_short f
  by_cases h45 : r.headD 0 = 45
  · obtain ⟨t, rfl⟩ := headD_cons_of h45 (by decide)
    rw [List.length_cons] at hrn
    exact rterm_minus w0 g hg s hs t.length _ (hTc t (by omega)) t w hr (Nat.le_refl _) hb0 _ (Q.termS_minus f t).symm
  by_cases h40 : r.headD 0 = 40
  · obtain ⟨t, rfl⟩ := headD_cons_of h40 (by decide)
    rw [List.length_cons] at hrn
    exact rterm_paren w0 hT g hg s hs t.length _ hSh (hTc t (by omega)) t w hr (Nat.le_refl _) hb0 _ (Q.termS_paren f t).symm
  by_cases h34 : r.headD 0 = 34
  · obtain ⟨t, rfl⟩ := headD_cons_of h34 (by decide)
    rw [List.length_cons] at hrn
    exact rterm_quote w0 hT g hg s hs t.length _ hSh (hTc t (by omega)) t w hr (Nat.le_refl _) hb0 _ rfl
  by_cases h42 : r.headD 0 = 42
  · obtain ⟨t, rfl⟩ := headD_cons_of h42 (by decide)
    rw [List.length_cons] at hrn
    exact rterm_star w0 hT g hg s hs t.length _ hSh (hTc t (by omega)) t w hr (Nat.le_refl _) hb0 _ rfl
  rw [Q.termS_wd f h45 h40 h34 h42]
  exact rterm_word w0 hT g hg s hs r h45 h40 h34 h42 w hr hb0
theorem rterm_ok (w0 : World) (hT : TabsU w0) (g : Nat) (hg : w0.heap.size ≤ g) (s : Str) (hs : s.length ≤ 4000) : ∀ (f n : Nat), n < f → TermC w0 g s n (Q.termS f)
  | 0, n, h => absurd h (Nat.not_lt_zero _)
  | f + 1, n, h => fun r w hr hn hb => rterm_any w0 hT g hg s hs f n (fun t ht => rterm_ok w0 hT g hg s hs f t.length (by omega)) r hn w hr hb
end Go.Proofs.YtihhgmpanfboaaaGreatDoor

/-
  Contracts and plain facts, one after another: The reader of queries: both, over what term does; The reader of queries: either, over what both does.
-/
import Derived.Test.YtihhgmpanfboaaaGreatDoorK15
namespace Go.Proofs.YtihhgmpanfboaaaGreatDoor
open Go.RowKit
set_option linter.unusedVariables false
theorem Own.qMono {f g : Nat} (hfg : f ≤ g) {M : Nat → Prop} {w : World} {B : Nat} {e : TypeId} {v : Value} {l : List Q} (h : Own (qF f) M w B e v l) : Own (qF g) M w B e v l := by
  obtain ⟨xs, ho, he⟩ := h
  exact ⟨xs, ho, he.weaken (C := qF f) (D := qF g) rfl fun _ _ _ h => qF_mono hfg h⟩
theorem Own.keepG {f n0 : Nat} {w w' : World} {B g : Nat} {e : TypeId} {v : Value} {l : List Q} (h : Own (qF f) (fun b => b < n0) w B e v l) (hb : But g w w') (hg : g < n0) (hB : n0 ≤ B) : Own (qF f) (fun b => b < n0) w' B e v l :=
  h.keep (fun b hlt hor => hb.block b hlt fun e => by
    rcases hor with h1 | h1
    · exact h1 (by omega)
    · have := h.base b h1; omega) hb.size (fun b hb' hm => by have := h.base b hb'; omega)
theorem Own.readG {f n0 : Nat} {w : World} {B : Nat} {e : TypeId} {v : Value} {l : List Q} (h : Own (qF f) (fun b => b < n0) w B e v l) (hB : n0 ≤ B) : SlR (qF f) (fun b => b < n0) w v l := h.readB fun b hb => by omega
/-- the cells of a node's value -/
theorem QAt.cellsOf {f : Nat} {M : Nat → Prop} {w : World} {v : Value} {q : Q} (h : QAt f M w v q) : ∃ a b c d, v = .agg #[a, b, c, d] ∧ (qF (f + 1)).rd M w [a, b, c, d] q ∧ a = .int .i64 q.kind ∧ b = .string (bs q.text) ∧ c = .int .i64 q.num ∧ ∃ A n, d = .slice A q.parts.length n := by
  have hr := h.rd
  obtain ⟨A, c, rfl, _, _, _, _⟩ := h
  exact ⟨_, _, _, _, rfl, hr, rfl, rfl, rfl, A, c, rfl⟩
/-- what term does, for texts up to a length -/
def TermC (w0 : World) (g : Nat) (s : Str) (n : Nat) (T : Str → Q.Res) : Prop := ∀ (r : Str) (w : World), Rd w g s r → r.length ≤ n → Below w0.heap.size w0 w → Calls Tryz.prog 58 #[.pointer (some ⟨g, 0, none⟩)] w (ResAt g s w (T r))
theorem QAt.keepOne {f n0 gR : Nat} {w w' : World} {v : Value} {q : Q} (h : QAt f (fun b => b < n0) w v q) (hk : ∀ b, b ≠ gR → w'.heap[b]? = w.heap[b]?) (hg : gR < n0) (hs : w.heap.size ≤ w'.heap.size) : QAt f (fun b => b < n0) w' v q := by
  obtain ⟨A, c, e, h1, h2, h3, hv⟩ := h
  exact ⟨A, c, e, h1, h2, h3, hv.keep (fun b _ hn => hk b (by omega)) hs⟩
theorem size4 (w : World) (gR : Nat) (x y z u : Value) : ((((w.setCell ⟨gR, 0, none⟩ x).setCell ⟨gR, 1, none⟩ y).setCell ⟨gR, 2, none⟩ z).setCell ⟨gR, 3, none⟩ u).heap.size = w.heap.size := by simp
set_option maxRecDepth 100000 in
set_option maxHeartbeats 8000000 in
theorem rboth_ok (w0 : World) (hT : TabsU w0) (g : Nat) (hg : w0.heap.size ≤ g) (s : Str) (hs : s.length ≤ 4000) (n : Nat) (T : Str → Q.Res) (hTs : Q.Short T) (hTc : TermC w0 g s n T) (r : Str) (w : World) (hr : Rd w g s r) (hrn : r.length ≤ n) (hb0 : Below w0.heap.size w0 w) :
    Calls Tryz.prog 41 #[.pointer (some ⟨g, 0, none⟩)] w (ResAt g s w (Q.bothOf T r)) := by
  obtain ⟨R, hR⟩ : ∃ R, Q.bothOf T r = R := ⟨_, rfl⟩
  rw [hR]
  rw [Q.bothOf_eq hTs] at hR
  have hrl := hr.2.length_le
  obtain ⟨W, gR, hW, hgR, hsR, kr, hal⟩ := boxA w #[.int .i64 0, .string ⟨#[]⟩, .int .i64 0, .slice none 0 0] 24
  have hgw : g < w.heap.size := hr.1.two.2.2.2.2
  have HW := Lib.hid hW; have HgR := Lib.hid hgR; have Hk := Lib.hid kr
  have Hb0 := Lib.hid (hb0.trans (hal.mono hb0.size)); have Hal := Lib.hid hal; have HT := Lib.hid hT
  have hgB : g < W.heap.size := by omega
  have hgn : gR ≠ g := by omega
  have hWs : w.heap.size ≤ W.heap.size := hal.size
  have hsp := spaces_ok g s r W (hr.ext hal) hs
  have hsk := skipS_le r
  obtain ⟨r1, hr1e⟩ : ∃ x, Q.skipS r = x := ⟨_, rfl⟩
  rw [hr1e] at hsp hsk hR
  have HR := Lib.hid hR; have Hsp := Lib.hid hsp; have HTs := Lib.hid hTs; have HTc := Lib.hid hTc
  clear hW hgR hsR kr hal hr hb0 hT hR hsp hTs hTc hr1e
  go_enter Tryz.func41, Tryz.ntmps41
  go_wp2_with fail
  rw [HW.out]
  try rw [HgR.out]
  refine Hsp.out.mono ?_
  rintro e w1 ⟨rfl, hr1, hbt1⟩
  have htc := HTc.out r1 w1 hr1 (by omega) (hbt1.below Hb0.out hg)
  have hall1 : But g w w1 := (But.of_below g Hal.out).trans hbt1
  have Htc := Lib.hid htc; have Hbt1 := Lib.hid hbt1; have Hall1 := Lib.hid hall1; have Hr1 := Lib.hid hr1
  clear htc hbt1 hall1 hr1 Hsp
  cases ht : T r1 with
  | err u =>
    have hR := HR.out
    rw [ht] at hR
    dsimp only at hR
    have htc := Htc.out
    rw [ht] at htc
    have HR2 := Lib.hid hR; have Htc2 := Lib.hid htc
    clear hR htc ht Htc
    go_wp2_with fail
    refine Htc2.out.mono ?_
    rintro e w2 ⟨rfl, hb2, hu⟩
    go_wp2_with fail
    refine ⟨rfl, ?_⟩
    rw [← HR2.out]
    exact ⟨rfl, Hall1.out.trans hb2, hu⟩
  | ok q u =>
    have hR := HR.out
    rw [ht] at hR
    dsimp only at hR
    have htc := Htc.out
    rw [ht] at htc
    have hul := HTs.out _ _ _ ht
    have HR2 := Lib.hid hR; have Htc2 := Lib.hid htc
    clear hR htc ht Htc HR
    go_wp2_with fail
    refine Htc2.out.mono ?_
    rintro e w2 ⟨fq, v, rfl, hq, hr2, hb2⟩
    obtain ⟨va, vb, vc, vd, rfl, hrd, rfl, rfl, rfl, Ap, cp, rfl⟩ := hq.cellsOf
    obtain ⟨qk, hqk⟩ : ∃ k, q.kind = k := ⟨_, rfl⟩
    obtain ⟨qt, hqt⟩ : ∃ k, bs q.text = k := ⟨_, rfl⟩
    obtain ⟨qn, hqn⟩ : ∃ k, q.num = k := ⟨_, rfl⟩
    obtain ⟨ql, hql⟩ : ∃ k, q.parts.length = k := ⟨_, rfl⟩
    rw [hqk, hqt, hqn, hql] at hrd ⊢
    have hw12 : W.heap.size ≤ w1.heap.size := Hbt1.out.size
    have hB2 : W.heap.size ≤ w2.heap.size := Nat.le_trans hw12 hb2.size
    have own0 : Own (qF (fq + 1)) (fun b => b < W.heap.size) (w2.alloc (.cells [.int .i64 qk, .string qt, .int .i64 qn, .slice Ap ql cp].toArray 24)) W.heap.size 24 (.slice (some ⟨w2.heap.size, 0, none⟩) [q].length [q].length) [q] :=
      Own.built (w := w2) (C := qF (fq + 1)) 24 (Els.single (Codec.sub _ hrd fun b _ (h : b < W.heap.size) => (by omega : b < w1.heap.size))) hB2 (by simp [maxLen])
    have hr2' : Rd (w2.alloc (.cells [.int .i64 qk, .string qt, .int .i64 qn, .slice Ap ql cp].toArray 24)) g s u := hr2.ext ((Below.refl _ _).alloc (Nat.le_refl _) _)
    obtain ⟨W2, g2, hW2, hg2, hs2, _, hal2⟩ := boxA w2 #[.int .i64 qk, .string qt, .int .i64 qn, .slice Ap ql cp] 24
    have hsl : (Value.slice (some ⟨w2.heap.size, 0, none⟩) [q].length [q].length) = .slice (some ⟨g2, 0, none⟩) [q].length 1 := by rw [hg2]; rfl
    rw [hsl] at own0
    rw [show (w2.alloc (.cells [.int .i64 qk, .string qt, .int .i64 qn, .slice Ap ql cp].toArray 24)) = W2 from hW2] at own0 hr2'
    have hbtW2 : But g W W2 := Hbt1.out.trans (hb2.trans (But.of_below g hal2))
    have hsp := spaces_ok g s u W2 hr2' hs
    have hsk2 := skipS_le u
    have HW2 := Lib.hid hW2; have Hg2 := Lib.hid hg2; have Hown0 := Lib.hid own0; have HbW2 := Lib.hid hbtW2; have Hsp := Lib.hid hsp
    clear hsl hW2 hg2 hs2 hal2 own0 hr2' hbtW2 hsp hr2 hb2 hrd hq hqk hqt hqn hql Htc2
    go_wp2_with fail
    rw [HW2.out]
    refine Hsp.out.mono ?_
    rintro e w3 ⟨rfl, hr3, hbt3⟩
    have own3 := Hown0.out.keepG hbt3 hgB (Nat.le_refl _)
    have hbt03 := HbW2.out.trans hbt3
    clear Hsp
    go_wp2_with fail
    try rw [Hg2.out]
    go_loopw [3] (fun ov wr => ∃ (fL : Nat) (r' : Str) (A : Option Addr) (c : Nat) (L : List Q), ov = .slice A L.length c ∧ Own (qF fL) (fun b => b < W.heap.size) wr W.heap.size 24 (.slice A L.length c) L ∧ Rd wr g s r' ∧ But g W wr ∧ L ≠ [] ∧ L.length + r'.length ≤ s.length + 1 ∧ r'.length ≤ r1.length ∧ Hid (Q.both1 T L r' = R)) (fun _ wr => s.length - (intOf ((wr.cell? ⟨g, 1, none⟩).getD undef)).toNat)
    case atStart => exact ⟨fq + 1, Q.skipS u, _, 1, [q], rfl, own3, hr3, hbt03, by simp, by simp only [List.length_cons, List.length_nil]; omega, by omega, HR2⟩
    case round =>
      obtain ⟨fL, r', A, c, L, rfl, own, hr', hbt, hLne, hLr, hr'1, hRL⟩ := hrel
      obtain ⟨wo, rfl⟩ : ∃ W, W = wr := ⟨_, rfl⟩
      have hr'l := hr'.2.length_le
      have hbg := begins_ok w0 HT.out g hg s r' wo hr' hs (hbt.below Hb0.out hg)
      have hc0 := hr'.1.two.2.1
      obtain ⟨bg, hbgv⟩ : ∃ b, Q.begins r' = b := ⟨_, rfl⟩
      rw [hbgv] at hbg
      have Hbg := Lib.hid hbg; have Hbv := Lib.hid hbgv; have Hbt := Lib.hid hbt; have Hc0 := Lib.hid hc0
      clear hbg hbgv hbt hc0 hr'
      go_wp2_with fail
      refine Hbg.out.mono ?_
      rintro e w4 ⟨rfl, hr4, hbt4⟩
      have own4 := own.keepG hbt4 hgB (Nat.le_refl _)
      have hbt04 := Hbt.out.trans hbt4
      clear Hbg own
      cases bg with
      | false =>
        have hR : Q.Res.ok (Q.several 6 L) r' = R := by rw [← hRL.out, Q.both1_end Hbv.out]
        have hsv := several_ok fL (fun b => b < W.heap.size) 6 (.slice A L.length c) L w4 (own4.readG (Nat.le_refl _)) hLne (by omega)
        have Hsv := Lib.hid hsv; have HR3 := Lib.hid hR; have Hr4 := Lib.hid hr4; have Hb04 := Lib.hid hbt04
        clear hsv hR hr4 hbt04 own4 hbt4
        go_wp2_with fail
        refine Hsv.out.mono ?_
        rintro e w5 ⟨v', rfl, hq5, hb5⟩
        have hr5 := Hr4.out.ext hb5
        have hb05 := Hb04.out.trans (But.of_below g hb5)
        have k5 := hb05.blk Hk.out hgn
        obtain ⟨va, vb, vc, vd, rfl, _, rfl, rfl, rfl, Ap2, cp2, rfl⟩ := hq5.cellsOf
        obtain ⟨z0, z1, z2, z3, hz⟩ := k5.four
        have f0 := k5.frozen 0; have f1 := k5.frozen 1; have f2 := k5.frozen 2; have f3 := k5.frozen 3
        obtain ⟨sq, hsq⟩ : ∃ x, Q.several 6 L = x := ⟨_, rfl⟩
        have hR := HR3.out
        rw [hsq] at hq5 hR ⊢
        have Hk5 := Lib.hid k5; have Hr5 := Lib.hid hr5; have Hb05 := Lib.hid hb05; have Hq5 := Lib.hid hq5; have HR5 := Lib.hid hR
        clear k5 hr5 hb05 hq5 hb5 Hsv hR hsq
        go_wp2_with fail
        obtain ⟨W9, hW9⟩ : ∃ W9, (((w5.setCell ⟨gR, 0, none⟩ (.int .i64 sq.kind)).setCell ⟨gR, 1, none⟩ (.string (bs sq.text))).setCell ⟨gR, 2, none⟩ (.int .i64 sq.num)).setCell ⟨gR, 3, none⟩ (.slice Ap2 sq.parts.length cp2) = W9 := ⟨_, rfl⟩
        have k9 := put4 Hk5.out (.int .i64 sq.kind) (.string (bs sq.text)) (.int .i64 sq.num) (.slice Ap2 sq.parts.length cp2)
        rw [hW9] at k9 ⊢
        obtain ⟨y0, y1, y2, y3, _⟩ := k9.four
        refine bodyPost_ret (v := .agg #[.int .i64 sq.kind, .string (bs sq.text), .int .i64 sq.num, .slice Ap2 sq.parts.length cp2]) (by simp [results, Tryz.results41, go_sem, y0, y1, y2, y3]) rfl ?_
        rw [← HR5.out]
        have hgw5 : w.heap.size ≤ gR := by rw [HgR.out]; exact Nat.le_refl _
        have hb9 : But g w W9 := by rw [← hW9]; exact ((But.of_below g Hal.out).trans Hb05.out).put4 hgw5 _ _ _ _
        have hr9 : Rd W9 g s r' := ⟨by show W9.heap[g]? = _; rw [← hW9, keep4 _ _ _ _ hgn.symm]; exact Hr5.out.1, Hr5.out.2⟩
        have hgRW : gR < W.heap.size := Hk.out.lt
        have hq9 := Hq5.out.keepOne (gR := gR) (w' := W9) (fun b hb => by rw [← hW9, keep4 _ _ _ _ hb]) hgRW (by rw [← hW9, size4]; exact Nat.le_refl _)
        exact ⟨fL, _, rfl, hq9.sub fun b _ (h : b < w.heap.size) => (by omega : b < W.heap.size), hr9, hb9⟩
      | true =>
        have hrs := hr4.2.length_le
        have htc := HTc.out r' w4 hr4 (by omega) (hbt04.below Hb0.out hg)
        have Htc := Lib.hid htc; have Hown4 := Lib.hid own4; have Hb04 := Lib.hid hbt04
        clear htc own4 hbt04 hbt4 hr4
        cases ht : T r' with
        | err u4 =>
          have hR : Q.Res.err u4 = R := by rw [← hRL.out, Q.both1_err Hbv.out ht]
          have htc := Htc.out
          rw [ht] at htc
          have HR3 := Lib.hid hR; have Htc2 := Lib.hid htc
          clear hR htc ht Htc
          go_wp2_with fail
          refine Htc2.out.mono ?_
          rintro e w5 ⟨rfl, hb5, hu⟩
          go_wp2_with fail
          refine ⟨rfl, ?_⟩
          rw [← HR3.out]
          exact ⟨rfl, ((But.of_below g Hal.out).trans Hb04.out).trans hb5, hu⟩
        | ok q4 u4 =>
          have hR : Q.both1 T (L ++ [q4]) (Q.skipS u4) = R := by rw [← hRL.out, Q.both1_ok HTs.out Hbv.out ht]
          have htc := Htc.out
          rw [ht] at htc
          have hul4 := HTs.out _ _ _ ht
          have HR3 := Lib.hid hR; have Htc2 := Lib.hid htc
          clear hR htc ht Htc
          go_wp2_with fail
          refine Htc2.out.mono ?_
          rintro e w5 ⟨f5, v5, rfl, hq5, hr5, hb5⟩
          obtain ⟨va, vb, vc, vd, rfl, hrd, rfl, rfl, rfl, Ap2, cp2, rfl⟩ := hq5.cellsOf
          obtain ⟨qk2, hqk⟩ : ∃ k, q4.kind = k := ⟨_, rfl⟩
          obtain ⟨qt2, hqt⟩ : ∃ k, bs q4.text = k := ⟨_, rfl⟩
          obtain ⟨qn2, hqn⟩ : ∃ k, q4.num = k := ⟨_, rfl⟩
          obtain ⟨ql2, hql⟩ : ∃ k, q4.parts.length = k := ⟨_, rfl⟩
          rw [hqk, hqt, hqn, hql] at hrd ⊢
          have hmx1 : fL ≤ max fL (f5 + 1) := Nat.le_max_left _ _
          have hmx2 : f5 + 1 ≤ max fL (f5 + 1) := Nat.le_max_right _ _
          generalize max fL (f5 + 1) = fm at hmx1 hmx2
          have own5 := (Hown4.out.keepG hb5 hgB (Nat.le_refl _)).qMono hmx1
          have hlt4 := Hown4.out.lt
          have hw4 : W.heap.size ≤ w4.heap.size := Hb04.out.size
          have hrd5 : (qF fm).rd (fun b => b < W.heap.size ∨ (Value.slice A L.length c).ownBlock = some b) w5 [.int .i64 qk2, .string qt2, .int .i64 qn2, .slice Ap2 ql2 cp2] q4 :=
            Codec.sub _ (qF_mono hmx2 hrd) fun b _ h => by
              rcases h with h | h
              · exact (by omega : b < w4.heap.size)
              · exact hlt4 b h
          have hb05 := Hb04.out.trans hb5
          have hB5 : W.heap.size ≤ w5.heap.size := hb05.size
          have Hr5 := Lib.hid hr5; have Hb05 := Lib.hid hb05; have Hrd5 := Lib.hid hrd5
          clear hr5 hb05 hb5 hrd hq5 hqk hqt hqn hql Htc2 hlt4 hrd5
          go_wp2_with (at_builtin; refine wpList_push_Own (qF fm) (M := fun b => b < W.heap.size) (B := W.heap.size) TQs rfl (.tmp 15) (.tmp 18) rfl rfl own5 rfl (cs := [.int .i64 qk2, .string qt2, .int .i64 qn2, .slice Ap2 ql2 cp2]) (y := q4) Hrd5.out (fun b h => Nat.lt_of_lt_of_le h hB5) ?a1 ?b1 hB5 ?_)
          case a1 => unfold maxLen; omega
          case b1 => omega
          intro A6 c6 L6 w6 hL6 own6 hb6 _ _
          have hr6 := Hr5.out.under hb6 hgB
          have hsp := spaces_ok g s u4 w6 hr6 hs
          have hsk4 := skipS_le u4
          have hb06 := Hb05.out.under2 hb6 (Nat.le_refl _)
          have hl6 : L6.length = L.length + 1 := by rw [hL6.out, List.length_append]; rfl
          have Hsp := Lib.hid hsp; have Hb06 := Lib.hid hb06; have Hl6 := Lib.hid hl6
          clear hsp hr6 hb06 hb6 hl6
          go_wp2_with fail
          refine Hsp.out.mono ?_
          rintro e w7 ⟨rfl, hr7, hb7⟩
          have own7 := own6.keepG hb7 hgB (Nat.le_refl _)
          have hc7 := hr7.1.two.2.1
          have Hc7 := Lib.hid hc7; have Hr7 := Lib.hid hr7
          have hr7l := hr7.2.length_le
          clear hc7 hr7 own6 Hsp
          go_wp2_with fail
          go_roundw
          case rel => exact ⟨fm, Q.skipS u4, A6, c6, L6, rfl, own7, Hr7.out, Hb06.out.trans hb7, by rw [hL6.out]; simp, by have := Hl6.out; omega, by omega, Lib.hid (by rw [hL6.out]; exact HR3.out)⟩
          case measure =>
            rw [Hc0.out, Hc7.out]
            simp only [Option.getD_some, intOf]
            omega
end Go.Proofs.YtihhgmpanfboaaaGreatDoor
namespace Go.Proofs.YtihhgmpanfboaaaGreatDoor
open Go.RowKit
set_option linter.unusedVariables false
set_option maxRecDepth 100000 in
set_option maxHeartbeats 8000000 in
theorem reither_ok (w0 : World) (hT : TabsU w0) (g : Nat) (hg : w0.heap.size ≤ g) (s : Str) (hs : s.length ≤ 4000) (n : Nat) (T : Str → Q.Res) (hTs : Q.Short T) (hTc : TermC w0 g s n T) (r : Str) (w : World) (hr : Rd w g s r) (hrn : r.length ≤ n) (hb0 : Below w0.heap.size w0 w) :
    Calls Tryz.prog 30 #[.pointer (some ⟨g, 0, none⟩)] w (ResAt g s w (Q.eitherOf T r)) := by
  obtain ⟨R, hR⟩ : ∃ R, Q.eitherOf T r = R := ⟨_, rfl⟩
  rw [hR]
  rw [Q.eitherOf_eq hTs] at hR
  have hrl := hr.2.length_le
  obtain ⟨W, gR, hW, hgR, hsR, kr, hal⟩ := boxA w #[.int .i64 0, .string ⟨#[]⟩, .int .i64 0, .slice none 0 0] 24
  have hgw : g < w.heap.size := hr.1.two.2.2.2.2
  have HW := Lib.hid hW; have HgR := Lib.hid hgR; have Hk := Lib.hid kr
  have Hb0 := Lib.hid (hb0.trans (hal.mono hb0.size)); have Hal := Lib.hid hal; have HT := Lib.hid hT
  have hgB : g < W.heap.size := by omega
  have hgn : gR ≠ g := by omega
  have hWs : w.heap.size ≤ W.heap.size := hal.size
  have hrW := hr.ext hal
  have hbo := rboth_ok w0 hT g hg s hs n T hTs hTc
  have HR := Lib.hid hR; have HTs := Lib.hid hTs; have Hbo := Lib.hid hbo; have HrW := Lib.hid hrW
  clear hW hgR hsR kr hal hr hb0 hT hR hTs hTc hrW hbo
  go_enter Tryz.func30, Tryz.ntmps30
  go_wp2_with fail
  rw [HW.out]
  try rw [HgR.out]
  have htc := Hbo.out r W HrW.out hrn Hb0.out
  have Htc := Lib.hid htc
  clear htc
  cases ht : Q.bothOf T r with
  | err u =>
    have hR := HR.out
    rw [ht] at hR
    dsimp only at hR
    have htc := Htc.out
    rw [ht] at htc
    have HR2 := Lib.hid hR; have Htc2 := Lib.hid htc
    clear hR htc ht Htc
    refine Htc2.out.mono ?_
    rintro e w2 ⟨rfl, hb2, hu⟩
    go_wp2_with fail
    refine ⟨rfl, ?_⟩
    rw [← HR2.out]
    exact ⟨rfl, (But.of_below g Hal.out).trans hb2, hu⟩
  | ok q u =>
    have hR := HR.out
    rw [ht] at hR
    dsimp only at hR
    have htc := Htc.out
    rw [ht] at htc
    have hul := Q.bothOf_short HTs.out _ _ _ ht
    have HR2 := Lib.hid hR; have Htc2 := Lib.hid htc
    clear hR htc ht Htc HR
    refine Htc2.out.mono ?_
    rintro e w2 ⟨fq, v, rfl, hq, hr2, hb2⟩
    obtain ⟨va, vb, vc, vd, rfl, hrd, rfl, rfl, rfl, Ap, cp, rfl⟩ := hq.cellsOf
    obtain ⟨qk, hqk⟩ : ∃ k, q.kind = k := ⟨_, rfl⟩
    obtain ⟨qt, hqt⟩ : ∃ k, bs q.text = k := ⟨_, rfl⟩
    obtain ⟨qn, hqn⟩ : ∃ k, q.num = k := ⟨_, rfl⟩
    obtain ⟨ql, hql⟩ : ∃ k, q.parts.length = k := ⟨_, rfl⟩
    rw [hqk, hqt, hqn, hql] at hrd ⊢
    have hB2 : W.heap.size ≤ w2.heap.size := hb2.size
    have own0 : Own (qF (fq + 1)) (fun b => b < W.heap.size) (w2.alloc (.cells [.int .i64 qk, .string qt, .int .i64 qn, .slice Ap ql cp].toArray 24)) W.heap.size 24 (.slice (some ⟨w2.heap.size, 0, none⟩) [q].length [q].length) [q] :=
      Own.built (w := w2) (C := qF (fq + 1)) 24 (Els.single hrd) hB2 (by simp [maxLen])
    have hr2' : Rd (w2.alloc (.cells [.int .i64 qk, .string qt, .int .i64 qn, .slice Ap ql cp].toArray 24)) g s u := hr2.ext ((Below.refl _ _).alloc (Nat.le_refl _) _)
    obtain ⟨W2, g2, hW2, hg2, hs2, _, hal2⟩ := boxA w2 #[.int .i64 qk, .string qt, .int .i64 qn, .slice Ap ql cp] 24
    have hsl : (Value.slice (some ⟨w2.heap.size, 0, none⟩) [q].length [q].length) = .slice (some ⟨g2, 0, none⟩) [q].length 1 := by rw [hg2]; rfl
    rw [hsl] at own0
    rw [show (w2.alloc (.cells [.int .i64 qk, .string qt, .int .i64 qn, .slice Ap ql cp].toArray 24)) = W2 from hW2] at own0 hr2'
    have hbtW2 : But g W W2 := hb2.trans (But.of_below g hal2)
    have HW2 := Lib.hid hW2; have Hg2 := Lib.hid hg2; have Hown0 := Lib.hid own0; have HbW2 := Lib.hid hbtW2; have Hr2 := Lib.hid hr2'
    clear hsl hW2 hg2 hs2 hal2 own0 hr2' hbtW2 hr2 hb2 hrd hq hqk hqt hqn hql Htc2
    go_wp2_with fail
    rw [HW2.out]
    try rw [Hg2.out]
    go_loopw [3] (fun ov wr => ∃ (fL : Nat) (r' : Str) (A : Option Addr) (c : Nat) (L : List Q), ov = .slice A L.length c ∧ Own (qF fL) (fun b => b < W.heap.size) wr W.heap.size 24 (.slice A L.length c) L ∧ Rd wr g s r' ∧ But g W wr ∧ L ≠ [] ∧ L.length + r'.length ≤ s.length + 1 ∧ r'.length ≤ r.length ∧ Hid (Q.either1 T L r' = R)) (fun _ wr => s.length - (intOf ((wr.cell? ⟨g, 1, none⟩).getD undef)).toNat)
    case atStart => exact ⟨fq + 1, u, _, 1, [q], rfl, Hown0.out, Hr2.out, HbW2.out, by simp, by simp only [List.length_cons, List.length_nil]; omega, by omega, HR2⟩
    case round =>
      obtain ⟨fL, r', A, c, L, rfl, own, hr', hbt, hLne, hLr, hr'1, hRL⟩ := hrel
      obtain ⟨wo, rfl⟩ : ∃ W, W = wr := ⟨_, rfl⟩
      have hr'l := hr'.2.length_le
      have hc0 := hr'.1.two.2.1
      have Hbt := Lib.hid hbt; have Hc0 := Lib.hid hc0
      clear hbt hc0
      by_cases h124 : r'.headD 0 = 124
      rotate_left
      · have hi := is_no g s 124 r' wo hr' hs (by decide) h124
        have Hi := Lib.hid hi
        clear hi hr'
        go_wp2_with fail
        refine Hi.out.mono ?_
        rintro e w4 ⟨rfl, hr4, hbt4⟩
        have own4 := own.keepG hbt4 hgB (Nat.le_refl _)
        have hbt04 := Hbt.out.trans hbt4
        clear Hi own
        have hR : Q.Res.ok (Q.several 7 L) r' = R := by rw [← hRL.out, Q.either1_end h124]
        have hsv := several_ok fL (fun b => b < W.heap.size) 7 (.slice A L.length c) L w4 (own4.readG (Nat.le_refl _)) hLne (by omega)
        have Hsv := Lib.hid hsv; have HR3 := Lib.hid hR; have Hr4 := Lib.hid hr4; have Hb04 := Lib.hid hbt04
        clear hsv hR hr4 hbt04 own4 hbt4 h124
        go_wp2_with fail
        refine Hsv.out.mono ?_
        rintro e w5 ⟨v', rfl, hq5, hb5⟩
        have hr5 := Hr4.out.ext hb5
        have hb05 := Hb04.out.trans (But.of_below g hb5)
        have k5 := hb05.blk Hk.out hgn
        obtain ⟨va, vb, vc, vd, rfl, _, rfl, rfl, rfl, Ap2, cp2, rfl⟩ := hq5.cellsOf
        obtain ⟨z0, z1, z2, z3, hz⟩ := k5.four
        have f0 := k5.frozen 0; have f1 := k5.frozen 1; have f2 := k5.frozen 2; have f3 := k5.frozen 3
        obtain ⟨sq, hsq⟩ : ∃ x, Q.several 7 L = x := ⟨_, rfl⟩
        have hR := HR3.out
        rw [hsq] at hq5 hR ⊢
        have Hk5 := Lib.hid k5; have Hr5 := Lib.hid hr5; have Hb05 := Lib.hid hb05; have Hq5 := Lib.hid hq5; have HR5 := Lib.hid hR
        clear k5 hr5 hb05 hq5 hb5 Hsv hR hsq
        go_wp2_with fail
        obtain ⟨W9, hW9⟩ : ∃ W9, (((w5.setCell ⟨gR, 0, none⟩ (.int .i64 sq.kind)).setCell ⟨gR, 1, none⟩ (.string (bs sq.text))).setCell ⟨gR, 2, none⟩ (.int .i64 sq.num)).setCell ⟨gR, 3, none⟩ (.slice Ap2 sq.parts.length cp2) = W9 := ⟨_, rfl⟩
        have k9 := put4 Hk5.out (.int .i64 sq.kind) (.string (bs sq.text)) (.int .i64 sq.num) (.slice Ap2 sq.parts.length cp2)
        rw [hW9] at k9 ⊢
        obtain ⟨y0, y1, y2, y3, _⟩ := k9.four
        refine bodyPost_ret (v := .agg #[.int .i64 sq.kind, .string (bs sq.text), .int .i64 sq.num, .slice Ap2 sq.parts.length cp2]) (by simp [results, Tryz.results30, go_sem, y0, y1, y2, y3]) rfl ?_
        rw [← HR5.out]
        have hgw5 : w.heap.size ≤ gR := by rw [HgR.out]; exact Nat.le_refl _
        have hb9 : But g w W9 := by rw [← hW9]; exact ((But.of_below g Hal.out).trans Hb05.out).put4 hgw5 _ _ _ _
        have hr9 : Rd W9 g s r' := ⟨by show W9.heap[g]? = _; rw [← hW9, keep4 _ _ _ _ hgn.symm]; exact Hr5.out.1, Hr5.out.2⟩
        have hgRW : gR < W.heap.size := Hk.out.lt
        have hq9 := Hq5.out.keepOne (gR := gR) (w' := W9) (fun b hb => by rw [← hW9, keep4 _ _ _ _ hb]) hgRW (by rw [← hW9, size4]; exact Nat.le_refl _)
        exact ⟨fL, _, rfl, hq9.sub fun b _ (h : b < w.heap.size) => (by omega : b < W.heap.size), hr9, hb9⟩
      · obtain ⟨t', rfl⟩ : ∃ t', r' = 124 :: t' := by
          cases r' with
          | nil => cases h124
          | cons c t => rw [List.headD_cons] at h124; rw [h124]; exact ⟨t, rfl⟩
        have hi := is_yes g s 124 t' wo hr' hs (by decide)
        have Hi := Lib.hid hi
        clear hi hr' h124
        go_wp2_with fail
        refine Hi.out.mono ?_
        rintro e w4 ⟨rfl, hr4, hbt4⟩
        have own4 := own.keepG hbt4 hgB (Nat.le_refl _)
        have hbt04 := Hbt.out.trans hbt4
        clear Hi own
        have hrs := hr4.2.length_le
        have htc := Hbo.out t' w4 hr4 (by simp only [List.length_cons] at hr'1; omega) (hbt04.below Hb0.out hg)
        have Htc := Lib.hid htc; have Hown4 := Lib.hid own4; have Hb04 := Lib.hid hbt04
        clear htc own4 hbt04 hbt4 hr4
        cases ht : Q.bothOf T t' with
        | err u4 =>
          have hR : Q.Res.err u4 = R := by rw [← hRL.out, Q.either1_err ht]
          have htc := Htc.out
          rw [ht] at htc
          have HR3 := Lib.hid hR; have Htc2 := Lib.hid htc
          clear hR htc ht Htc
          go_wp2_with fail
          refine Htc2.out.mono ?_
          rintro e w5 ⟨rfl, hb5, hu⟩
          go_wp2_with fail
          refine ⟨rfl, ?_⟩
          rw [← HR3.out]
          exact ⟨rfl, ((But.of_below g Hal.out).trans Hb04.out).trans hb5, hu⟩
        | ok q4 u4 =>
          have hR : Q.either1 T (L ++ [q4]) u4 = R := by rw [← hRL.out, Q.either1_ok HTs.out ht]
          have htc := Htc.out
          rw [ht] at htc
          have hul4 := Q.bothOf_short HTs.out _ _ _ ht
          have HR3 := Lib.hid hR; have Htc2 := Lib.hid htc
          clear hR htc ht Htc
          go_wp2_with fail
          refine Htc2.out.mono ?_
          rintro e w5 ⟨f5, v5, rfl, hq5, hr5, hb5⟩
          obtain ⟨va, vb, vc, vd, rfl, hrd, rfl, rfl, rfl, Ap2, cp2, rfl⟩ := hq5.cellsOf
          obtain ⟨qk2, hqk⟩ : ∃ k, q4.kind = k := ⟨_, rfl⟩
          obtain ⟨qt2, hqt⟩ : ∃ k, bs q4.text = k := ⟨_, rfl⟩
          obtain ⟨qn2, hqn⟩ : ∃ k, q4.num = k := ⟨_, rfl⟩
          obtain ⟨ql2, hql⟩ : ∃ k, q4.parts.length = k := ⟨_, rfl⟩
          rw [hqk, hqt, hqn, hql] at hrd ⊢
          have hmx1 : fL ≤ max fL (f5 + 1) := Nat.le_max_left _ _
          have hmx2 : f5 + 1 ≤ max fL (f5 + 1) := Nat.le_max_right _ _
          generalize max fL (f5 + 1) = fm at hmx1 hmx2
          have own5 := (Hown4.out.keepG hb5 hgB (Nat.le_refl _)).qMono hmx1
          have hlt4 := Hown4.out.lt
          have hw4 : W.heap.size ≤ w4.heap.size := Hb04.out.size
          have hrd5 : (qF fm).rd (fun b => b < W.heap.size ∨ (Value.slice A L.length c).ownBlock = some b) w5 [.int .i64 qk2, .string qt2, .int .i64 qn2, .slice Ap2 ql2 cp2] q4 :=
            Codec.sub _ (qF_mono hmx2 hrd) fun b _ h => by
              rcases h with h | h
              · exact (by omega : b < w4.heap.size)
              · exact hlt4 b h
          have hb05 := Hb04.out.trans hb5
          have hB5 : W.heap.size ≤ w5.heap.size := hb05.size
          have Hr5 := Lib.hid hr5; have Hb05 := Lib.hid hb05; have Hrd5 := Lib.hid hrd5
          clear hr5 hb05 hb5 hrd hq5 hqk hqt hqn hql Htc2 hlt4 hrd5
          go_wp2_with (at_builtin; refine wpList_push_Own (qF fm) (M := fun b => b < W.heap.size) (B := W.heap.size) TQs rfl (.tmp 9) (.tmp 12) rfl rfl own5 rfl (cs := [.int .i64 qk2, .string qt2, .int .i64 qn2, .slice Ap2 ql2 cp2]) (y := q4) Hrd5.out (fun b h => Nat.lt_of_lt_of_le h hB5) ?a1 ?b1 hB5 ?_)
          case a1 => unfold maxLen; omega
          case b1 => omega
          intro A6 c6 L6 w6 hL6 own6 hb6 _ _
          have hr6 := Hr5.out.under hb6 hgB
          have hb06 := Hb05.out.under2 hb6 (Nat.le_refl _)
          have hl6 : L6.length = L.length + 1 := by rw [hL6.out, List.length_append]; rfl
          have hc7 := hr6.1.two.2.1
          have hr7l := hr6.2.length_le
          have Hb06 := Lib.hid hb06; have Hl6 := Lib.hid hl6; have Hc7 := Lib.hid hc7; have Hr7 := Lib.hid hr6
          clear hr6 hb06 hb6 hl6 hc7
          go_wp2_with fail
          go_roundw
          case rel => exact ⟨fm, u4, A6, c6, L6, rfl, own6, Hr7.out, Hb06.out, by rw [hL6.out]; simp, by have := Hl6.out; simp only [List.length_cons] at hLr; omega, by simp only [List.length_cons] at hr'1; omega, Lib.hid (by rw [hL6.out]; exact HR3.out)⟩
          case measure =>
            rw [Hc0.out, Hc7.out]
            simp only [Option.getD_some, intOf]
            simp only [List.length_cons] at hr'l ⊢
            omega
end Go.Proofs.YtihhgmpanfboaaaGreatDoor

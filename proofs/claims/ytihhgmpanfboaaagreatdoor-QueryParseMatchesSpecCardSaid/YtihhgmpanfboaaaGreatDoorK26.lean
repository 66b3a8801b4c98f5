/-
  Contracts and plain facts, one after another: The reference of the reader: conjunction, over what term does; The reference of the reader: disjunction, over what term does; The reference of the reader: quoted.
-/
import Derived.Test.YtihhgmpanfboaaaGreatDoorK25
import Derived.Test.YtihhgmpanfboaaaGreatDoorK17
import Derived.Test.YtihhgmpanfboaaaGreatDoorK8
namespace Go.Proofs.YtihhgmpanfboaaaGreatDoor
open Go.RowKit
set_option linter.unusedVariables false
def okRes (ok : Bool) (q : Q) (u : Str) : Q.Res := match ok with | true => .ok q u | false => .err u
/-- what a part of the reference hands back -/
def FRes (s : Str) (w : World) (res : Q.Res) (e : Ending) (w' : World) : Prop :=
  ∃ (f : Nat) (v : Value) (q : Q) (u : Str) (ok : Bool), e = .returned (.tuple #[v, .int .i64 ((s.length - u.length : Nat) : Int), .bool ok]) ∧ QAt f (fun b => b < w.heap.size) w' v q ∧ u <:+ s ∧ Below w.heap.size w w' ∧ res = okRes ok q u
/-- what the reference's term does, for texts up to a length -/
def TermR (w0 : World) (s : Str) (n : Nat) (T : Str → Q.Res) : Prop := ∀ (r : Str) (w : World), r <:+ s → r.length ≤ n → Below w0.heap.size w0 w → Calls Tryz.prog 61 #[.string (bs s), .int .i64 ((s.length - r.length : Nat) : Int)] w (FRes s w (T r))
/-- a node stored as the result -/
theorem ffin {w w5 : World} {gR f n0 : Nat} {t : TypeId} {s u : Str} {q : Q} {ok : Bool} {res : Q.Res} {a b c d : Value} (a' b' c' d' : Value) (hk : Blk w5 gR t #[a, b, c, d]) (hgR : w.heap.size ≤ gR) (hb : Below w.heap.size w w5) (hq : QAt f (fun b => b < n0) w5 (.agg #[a', b', c', d']) q) (hg0 : gR < n0) (hw : w.heap.size ≤ n0) (hu : u <:+ s)
    (hr : res = okRes ok q u) (i : Nat) (hi : s.length - u.length = i) :
    ∃ W9, ((((w5.setCell ⟨gR, 0, none⟩ a').setCell ⟨gR, 1, none⟩ b').setCell ⟨gR, 2, none⟩ c').setCell ⟨gR, 3, none⟩ d') = W9 ∧ W9.cell? ⟨gR, 0, none⟩ = some a' ∧ W9.cell? ⟨gR, 1, none⟩ = some b' ∧ W9.cell? ⟨gR, 2, none⟩ = some c' ∧ W9.cell? ⟨gR, 3, none⟩ = some d' ∧ FRes s w res (.returned (.tuple #[.agg #[a', b', c', d'], .int .i64 (i : Int), .bool ok])) W9 := by
  obtain ⟨W9, hW9⟩ : ∃ W9, ((((w5.setCell ⟨gR, 0, none⟩ a').setCell ⟨gR, 1, none⟩ b').setCell ⟨gR, 2, none⟩ c').setCell ⟨gR, 3, none⟩ d') = W9 := ⟨_, rfl⟩
  have k9 := put4 hk a' b' c' d'
  rw [hW9] at k9
  obtain ⟨y0, y1, y2, y3, _⟩ := k9.four
  have hb9 : Below w.heap.size w W9 := by rw [← hW9]; exact (((hb.setCell (p := ⟨gR, 0, none⟩) hgR _).setCell (p := ⟨gR, 1, none⟩) hgR _).setCell (p := ⟨gR, 2, none⟩) hgR _).setCell (p := ⟨gR, 3, none⟩) hgR _
  have hq9 := hq.keepOne (gR := gR) (w' := W9) (fun b hb => by rw [← hW9, keep4 _ _ _ _ hb]) hg0 (by rw [← hW9, size4]; exact Nat.le_refl _)
  subst hi
  exact ⟨W9, hW9, y0, y1, y2, y3, f, _, q, u, ok, rfl, hq9.sub fun b _ (h : b < w.heap.size) => (by omega : b < n0), hu, hb9, hr⟩
set_option maxRecDepth 100000 in
set_option maxHeartbeats 8000000 in
theorem fconj_ok (w0 : World) (hT : TabsU w0) (s : Str) (hs : s.length ≤ 4000) (n : Nat) (T : Str → Q.Res) (hTs : Q.Short T) (hTi : Q.Idle T) (hTc : TermR w0 s n T) (r : Str) (w : World) (hr : r <:+ s) (hrn : r.length ≤ n) (hb0 : Below w0.heap.size w0 w) :
    Calls Tryz.prog 44 #[.string (bs s), .int .i64 ((s.length - r.length : Nat) : Int)] w (FRes s w (Q.fin (Q.bothOf T r))) := by
  obtain ⟨R, hR⟩ : ∃ R, Q.fin (Q.bothOf T r) = R := ⟨_, rfl⟩
  rw [hR]
  rw [Q.cj_start hTs] at hR
  have hrl := hr.length_le
  obtain ⟨W, gR, hW, hgR, hsR, kr, hal⟩ := boxA w #[.int .i64 0, .string ⟨#[]⟩, .int .i64 0, .slice none 0 0] 24
  have hsp := fskip_ok s r hr hs W
  have hsk := skipS_le r
  have hsf := (skipS_suf r).trans hr
  obtain ⟨i0, hi0⟩ : ∃ i, s.length - r.length = i := ⟨_, rfl⟩
  rw [hi0] at hsp ⊢
  obtain ⟨r1, hr1e⟩ : ∃ x, Q.skipS r = x := ⟨_, rfl⟩
  rw [hr1e] at hsp hsk hsf hR
  obtain ⟨i1, hi1⟩ : ∃ i, s.length - r1.length = i := ⟨_, rfl⟩
  rw [hi1] at hsp
  have hWs : w.heap.size ≤ W.heap.size := hal.size
  have hgw : w.heap.size ≤ gR := by omega
  have hgB : gR < W.heap.size := by omega
  have HW := Lib.hid hW; have HgR := Lib.hid hgR; have Hk := Lib.hid kr; have HR := Lib.hid hR; have Hsp := Lib.hid hsp; have HTc := Lib.hid hTc; have HTs := Lib.hid hTs; have HTi := Lib.hid hTi; have Hal := Lib.hid hal; have Hsf := Lib.hid hsf; have Hi1 := Lib.hid hi1
  have Hb0 := Lib.hid (hb0.trans (hal.mono hb0.size))
  clear hW hgR hsR kr hal hr hb0 hT hR hsp hTs hTi hTc hr1e hsf hi0 hi1
  go_enter Tryz.func44, Tryz.ntmps44
  go_wp2_with fail
  rw [HW.out]
  try rw [HgR.out]
  refine Hsp.out.mono ?_
  rintro e w1 ⟨rfl, hb1⟩
  have Hb1 := Lib.hid hb1
  clear Hsp hb1
  go_wp2_with fail
  try rw [HgR.out]
  go_loopw [1, 7] (fun av lv wr => ∃ (fL : Nat) (r' : Str) (i : Nat) (A : Option Addr) (c : Nat) (L : List Q), av = .int .i64 (i : Int) ∧ lv = .slice A L.length c ∧ Hid (s.length - r'.length = i) ∧ Hid (Own (qF fL) (fun b => b < W.heap.size) wr W.heap.size 24 (.slice A L.length c) L) ∧ Hid (r' <:+ s) ∧ Hid (Below W.heap.size W wr) ∧ L.length + r'.length ≤ s.length ∧ r'.length ≤ n ∧ Hid (Q.cj T L r' = R)) (fun av _ _ => s.length - (intOf av).toNat)
  case atStart => exact ⟨0, r1, i1, none, 0, [], rfl, rfl, Hi1, Lib.hid (Own.nil _ _ _ _ _), Hsf, Hb1, by rw [List.length_nil]; omega, by omega, HR⟩
  case round =>
    obtain ⟨fL, r', i, A, c, L, rfl, rfl, hi, hown, hsf, hb, hLr, hrn', hRL⟩ := hrel
    obtain ⟨wo, rfl⟩ : ∃ W, W = wr := ⟨_, rfl⟩
    have hsl := hsf.out.length_le
    have hi0 : (0 : Int) ≤ (i : Int) := by omega
    have hbt := suf_byte hsf.out
    rw [hi.out] at hbt
    by_cases hL : L = []
    · have hgo : L = [] ∨ ¬ Q.Halt r' := .inl hL
      have hz : ((L.length : Int) == 0) = true := by rw [hL]; rfl
      clear hL hbt
      have htc := HTc.out r' wo hsf.out hrn' (Hb0.out.trans (hb.out.mono Hb0.out.size))
      rw [hi.out] at htc
      have Htc := Lib.hid htc; have Hgo := Lib.hid hgo
      clear htc hgo
      go_wp2_with fail
      refine Htc.out.mono ?_
      clear Htc
      rintro e w2 ⟨f5, v5, q4, u4, ok4, rfl, hq5, hu4, hb2, hres⟩
      obtain ⟨va, vb, vc, vd, rfl, _, rfl, rfl, rfl, Ap2, cp2, rfl⟩ := hq5.cellsOf
      obtain ⟨qk2, hqk⟩ : ∃ k, q4.kind = k := ⟨_, rfl⟩
      obtain ⟨qt2, hqt⟩ : ∃ k, bs q4.text = k := ⟨_, rfl⟩
      obtain ⟨qn2, hqn⟩ : ∃ k, q4.num = k := ⟨_, rfl⟩
      obtain ⟨ql2, hql⟩ : ∃ k, q4.parts.length = k := ⟨_, rfl⟩
      obtain ⟨j, hj⟩ : ∃ j, s.length - u4.length = j := ⟨_, rfl⟩
      rw [hqk, hqt, hqn, hql] at hq5 ⊢
      rw [hj]
      obtain ⟨W2, g2, hW2, hg2, hs2, k2, hal2⟩ := boxA w2 #[.int .i64 qk2, .string qt2, .int .i64 qn2, .slice Ap2 ql2 cp2] 24
      have own2 := (hown.out.ext hb2).ext hal2
      have hbo : wo.heap.size ≤ W2.heap.size := Nat.le_trans hb2.size hal2.size
      have hWo : W.heap.size ≤ wo.heap.size := hb.out.size
      have hbW2 := hb.out.trans ((hb2.trans (hal2.mono hb2.size)).mono hWo)
      have Hq2o := Lib.hid (hq5.ext hal2)
      have hq2 := (hq5.ext hal2).sub (M' := fun b => b < W.heap.size) fun b _ (h : b < W.heap.size) => (by omega : b < wo.heap.size)
      have hul4 := hu4.length_le
      obtain ⟨x0, x1, x2, x3, _⟩ := k2.four
      have Hj := Lib.hid hj; have Hq2 := Lib.hid hq2; have Hown2 := Lib.hid own2; have HbW2 := Lib.hid hbW2; have Hu4 := Lib.hid hu4
      clear hqk hqt hqn hql hj hq5 own2 hbW2 hq2 hb2 hal2 k2 hs2 hu4
      cases ok4 with
      | false =>
        change _ = Q.Res.err u4 at hres
        have hR : R = okRes false q4 u4 := by rw [← hRL.out]; exact Q.cj_err HTi.out Hgo.out hres
        have kR := Hk.out.ext HbW2.out
        obtain ⟨z0, z1, z2, z3, _⟩ := kR.four
        have z4 := kR.frozen 0; have z5 := kR.frozen 1; have z6 := kR.frozen 2; have z7 := kR.frozen 3
        obtain ⟨W9, hW9, y0, y1, y2, y3, hfin⟩ := ffin (w := w) (ok := false) (.int .i64 qk2) (.string qt2) (.int .i64 qn2) (.slice Ap2 ql2 cp2) kR hgw (Hal.out.trans (HbW2.out.mono hWs)) Hq2.out hgB hWs Hu4.out hR j Hj.out
        have HW9 := Lib.hid hW9; have Hfin := Lib.hid hfin
        clear hW9 hfin kR hres hR
        go_wp2_with fail
        rw [HW9.out]
        exact bodyPost_ret (v := .tuple #[.agg #[.int .i64 qk2, .string qt2, .int .i64 qn2, .slice Ap2 ql2 cp2], .int .i64 (j : Int), .bool false]) (by simp [results, Tryz.results44, go_sem, y0, y1, y2, y3]) rfl Hfin.out
      | true =>
        change _ = Q.Res.ok q4 u4 at hres
        have hR : Q.cj T (L ++ [q4]) (Q.skipS u4) = R := by rw [← hRL.out]; exact (Q.cj_ok HTs.out HTi.out Hgo.out hres).symm
        have hul := HTs.out _ _ _ hres
        have hmx1 : fL ≤ max fL (f5 + 1) := Nat.le_max_left _ _
        have hmx2 : f5 + 1 ≤ max fL (f5 + 1) := Nat.le_max_right _ _
        generalize max fL (f5 + 1) = fm at hmx1 hmx2
        have own5 := Hown2.out.qMono hmx1
        have hlt4 := hown.out.lt
        have hrdM : (qF (f5 + 1)).rd (fun b => b < wo.heap.size) W2 [.int .i64 qk2, .string qt2, .int .i64 qn2, .slice Ap2 ql2 cp2] q4 := by have := Hq2o.out.rd; simpa [Value.cells] using this
        have hrd5 : (qF fm).rd (fun b => b < W.heap.size ∨ (Value.slice A L.length c).ownBlock = some b) W2 [.int .i64 qk2, .string qt2, .int .i64 qn2, .slice Ap2 ql2 cp2] q4 :=
          Codec.sub _ (qF_mono hmx2 hrdM) fun b _ h => by
            rcases h with h | h
            · exact (by omega : b < wo.heap.size)
            · exact hlt4 b h
        have hB5 : W.heap.size ≤ W2.heap.size := Nat.le_trans hWo hbo
        have HR2 := Lib.hid hR; have Hrd5 := Lib.hid hrd5; have Hown5 := Lib.hid own5
        clear hR hrd5 hrdM own5 hlt4 hres hmx1 hmx2
        go_upto_region 7 with (fail)
        have own5 := Hown5.out
        go_wp2_with (at_builtin; refine wpList_push_Own (qF fm) (M := fun b => b < W.heap.size) (B := W.heap.size) TQs rfl (.tmp 46) (.tmp 48) rfl rfl own5 rfl (cs := [.int .i64 qk2, .string qt2, .int .i64 qn2, .slice Ap2 ql2 cp2]) (y := q4) Hrd5.out (fun b h => Nat.lt_of_lt_of_le h hB5) ?a1 ?b1 hB5 ?_)
        case a1 => unfold maxLen; omega
        case b1 => omega
        intro A6 c6 L6 w6 hL6 own6 hb6 _ _
        have hsp := fskip_ok s u4 Hu4.out hs w6
        rw [Hj.out] at hsp
        have hsk4 := skipS_le u4
        have hb06 := HbW2.out.trans hb6
        have hl6 : L6.length = L.length + 1 := by rw [hL6.out, List.length_append]; rfl
        have Hsp := Lib.hid hsp; have Hb06 := Lib.hid hb06; have Hl6 := Lib.hid hl6; have Hown6 := Lib.hid own6
        obtain ⟨i7, hi7⟩ : ∃ i, s.length - (Q.skipS u4).length = i := ⟨_, rfl⟩
        have Hi7 := Lib.hid hi7
        clear hsp hb06 hb6 hl6 own6 own5 hi7 x0 x1 x2 x3
        go_wp2_with fail
        refine Hsp.out.mono ?_
        rintro e w7 ⟨rfl, hb7⟩
        rw [Hi7.out]
        have own7 := Hown6.out.ext hb7
        have Hown7 := Lib.hid own7; have Hb7 := Lib.hid (Hb06.out.trans (hb7.mono Hb06.out.size))
        clear own7 hb7 Hsp
        go_wp2_with fail
        go_roundw
        case rel => exact ⟨fm, Q.skipS u4, i7, A6, c6, L6, rfl, rfl, Hi7, Hown7, Lib.hid ((skipS_suf u4).trans Hu4.out), Hb7, by have := Hl6.out; omega, by omega, Lib.hid (by rw [hL6.out]; exact HR2.out)⟩
        case measure => have h1 := Hi7.out; have h2 := hi.out; simp only [intOf]; omega
    · have hz : ((L.length : Int) == 0) = false := by rw [beq_eq_false_iff_ne]; intro h; exact hL (List.eq_nil_of_length_eq_zero (by omega))
      cases r' with
      | nil =>
        have hge : ¬ (i : Int) < (s.length : Int) := by have := hi.out; simp only [List.length_nil] at this; omega
        have hh : Q.Halt [] := .inl rfl
        clear hbt
        have hR : R = okRes true (Q.several 6 L) [] := by rw [← hRL.out]; exact Q.cj_end hL hh
        have hjn := joined_ok fL (fun b => b < W.heap.size) 6 (.slice A L.length c) L wo (hown.out.readG (Nat.le_refl _)) hL (by omega)
        have HRx := Lib.hid hR; have Hjn := Lib.hid hjn
        clear hR hjn hh hL
        go_wp2_with fail
        refine Hjn.out.mono ?_
        clear Hjn
        rintro e w5 ⟨v', rfl, hq5, hb5⟩
        have hbW := hb.out.trans (hb5.mono hb.out.size)
        obtain ⟨va, vb, vc, vd, rfl, _, rfl, rfl, rfl, Ap2, cp2, rfl⟩ := hq5.cellsOf
        obtain ⟨sq, hsq⟩ : ∃ x, Q.several 6 L = x := ⟨_, rfl⟩
        have hR := HRx.out
        rw [hsq] at hq5 hR ⊢
        obtain ⟨qk2, hqk⟩ : ∃ k, sq.kind = k := ⟨_, rfl⟩
        obtain ⟨qt2, hqt⟩ : ∃ k, bs sq.text = k := ⟨_, rfl⟩
        obtain ⟨qn2, hqn⟩ : ∃ k, sq.num = k := ⟨_, rfl⟩
        obtain ⟨ql2, hql⟩ : ∃ k, sq.parts.length = k := ⟨_, rfl⟩
        rw [hqk, hqt, hqn, hql] at hq5 ⊢
        have kR := Hk.out.ext hbW
        obtain ⟨z0, z1, z2, z3, _⟩ := kR.four
        have z4 := kR.frozen 0; have z5 := kR.frozen 1; have z6 := kR.frozen 2; have z7 := kR.frozen 3
        obtain ⟨W9, hW9, y0, y1, y2, y3, hfin⟩ := ffin (w := w) (ok := true) (.int .i64 qk2) (.string qt2) (.int .i64 qn2) (.slice Ap2 ql2 cp2) kR hgw (Hal.out.trans (hbW.mono hWs)) hq5 hgB hWs hsf.out hR i hi.out
        have HW9 := Lib.hid hW9; have Hfin := Lib.hid hfin
        clear hW9 hfin kR hR hqk hqt hqn hql hq5 hb5 hbW hsq
        go_wp2_with fail
        rw [HW9.out]
        exact bodyPost_ret (v := .tuple #[.agg #[.int .i64 qk2, .string qt2, .int .i64 qn2, .slice Ap2 ql2 cp2], .int .i64 (i : Int), .bool true]) (by simp [results, Tryz.results44, go_sem, y0, y1, y2, y3]) rfl Hfin.out
      | cons x t =>
        have hi' := hi.out
        rw [List.length_cons] at hi' hsl
        have hlt : i < s.length := by omega
        have hxe : byteAt s i = s[i] := by simp [byteAt, List.getD, hlt]
        rw [hxe, List.headD_cons] at hbt
        have hget : (bs s)[i]'(by simpa using hlt) = x := (bs_get s i (by simpa using hlt)).trans hbt
        have hi1 : (i : Int) < (s.length : Int) := by omega
        clear hbt hxe hi'
        by_cases h124 : x = 124
        · subst h124
          have hb1 : (((124 : UInt8).toNat : Int) == 124) = true := rfl
          have hh : Q.Halt (124 :: t) := .inr (.inl rfl)
          have hR : R = okRes true (Q.several 6 L) (124 :: t) := by rw [← hRL.out]; exact Q.cj_end hL hh
          have hjn := joined_ok fL (fun b => b < W.heap.size) 6 (.slice A L.length c) L wo (hown.out.readG (Nat.le_refl _)) hL (by omega)
          have HRx := Lib.hid hR; have Hjn := Lib.hid hjn
          clear hR hjn hh hL
          go_wp2_with fail
          refine Hjn.out.mono ?_
          clear Hjn
          rintro e w5 ⟨v', rfl, hq5, hb5⟩
          have hbW := hb.out.trans (hb5.mono hb.out.size)
          obtain ⟨va, vb, vc, vd, rfl, _, rfl, rfl, rfl, Ap2, cp2, rfl⟩ := hq5.cellsOf
          obtain ⟨sq, hsq⟩ : ∃ x, Q.several 6 L = x := ⟨_, rfl⟩
          have hR := HRx.out
          rw [hsq] at hq5 hR ⊢
          obtain ⟨qk2, hqk⟩ : ∃ k, sq.kind = k := ⟨_, rfl⟩
          obtain ⟨qt2, hqt⟩ : ∃ k, bs sq.text = k := ⟨_, rfl⟩
          obtain ⟨qn2, hqn⟩ : ∃ k, sq.num = k := ⟨_, rfl⟩
          obtain ⟨ql2, hql⟩ : ∃ k, sq.parts.length = k := ⟨_, rfl⟩
          rw [hqk, hqt, hqn, hql] at hq5 ⊢
          have kR := Hk.out.ext hbW
          obtain ⟨z0, z1, z2, z3, _⟩ := kR.four
          have z4 := kR.frozen 0; have z5 := kR.frozen 1; have z6 := kR.frozen 2; have z7 := kR.frozen 3
          obtain ⟨W9, hW9, y0, y1, y2, y3, hfin⟩ := ffin (w := w) (ok := true) (.int .i64 qk2) (.string qt2) (.int .i64 qn2) (.slice Ap2 ql2 cp2) kR hgw (Hal.out.trans (hbW.mono hWs)) hq5 hgB hWs hsf.out hR i hi.out
          have HW9 := Lib.hid hW9; have Hfin := Lib.hid hfin
          clear hW9 hfin kR hR hqk hqt hqn hql hq5 hb5 hbW hsq
          go_wp2_with fail
          rw [HW9.out]
          exact bodyPost_ret (v := .tuple #[.agg #[.int .i64 qk2, .string qt2, .int .i64 qn2, .slice Ap2 ql2 cp2], .int .i64 (i : Int), .bool true]) (by simp [results, Tryz.results44, go_sem, y0, y1, y2, y3]) rfl Hfin.out
        · have hb1 : ((x.toNat : Int) == 124) = false := by
            have : x.toNat ≠ 124 := fun e => h124 (UInt8.toNat_inj.1 e)
            rw [beq_eq_false_iff_ne]; omega
          have hb1n : ((x.toNat : Int) != 124) = true := by rw [bne, hb1]; rfl
          by_cases h41 : x = 41
          · subst h41
            have hb2 : (((41 : UInt8).toNat : Int) == 41) = true := rfl
            have hh : Q.Halt (41 :: t) := .inr (.inr rfl)
            have hR : R = okRes true (Q.several 6 L) (41 :: t) := by rw [← hRL.out]; exact Q.cj_end hL hh
            have hjn := joined_ok fL (fun b => b < W.heap.size) 6 (.slice A L.length c) L wo (hown.out.readG (Nat.le_refl _)) hL (by omega)
            have HRx := Lib.hid hR; have Hjn := Lib.hid hjn
            clear hR hjn hh hL
            go_wp2_with fail
            refine Hjn.out.mono ?_
            clear Hjn
            rintro e w5 ⟨v', rfl, hq5, hb5⟩
            have hbW := hb.out.trans (hb5.mono hb.out.size)
            obtain ⟨va, vb, vc, vd, rfl, _, rfl, rfl, rfl, Ap2, cp2, rfl⟩ := hq5.cellsOf
            obtain ⟨sq, hsq⟩ : ∃ x, Q.several 6 L = x := ⟨_, rfl⟩
            have hR := HRx.out
            rw [hsq] at hq5 hR ⊢
            obtain ⟨qk2, hqk⟩ : ∃ k, sq.kind = k := ⟨_, rfl⟩
            obtain ⟨qt2, hqt⟩ : ∃ k, bs sq.text = k := ⟨_, rfl⟩
            obtain ⟨qn2, hqn⟩ : ∃ k, sq.num = k := ⟨_, rfl⟩
            obtain ⟨ql2, hql⟩ : ∃ k, sq.parts.length = k := ⟨_, rfl⟩
            rw [hqk, hqt, hqn, hql] at hq5 ⊢
            have kR := Hk.out.ext hbW
            obtain ⟨z0, z1, z2, z3, _⟩ := kR.four
            have z4 := kR.frozen 0; have z5 := kR.frozen 1; have z6 := kR.frozen 2; have z7 := kR.frozen 3
            obtain ⟨W9, hW9, y0, y1, y2, y3, hfin⟩ := ffin (w := w) (ok := true) (.int .i64 qk2) (.string qt2) (.int .i64 qn2) (.slice Ap2 ql2 cp2) kR hgw (Hal.out.trans (hbW.mono hWs)) hq5 hgB hWs hsf.out hR i hi.out
            have HW9 := Lib.hid hW9; have Hfin := Lib.hid hfin
            clear hW9 hfin kR hR hqk hqt hqn hql hq5 hb5 hbW hsq
            go_wp2_with fail
            rw [HW9.out]
            exact bodyPost_ret (v := .tuple #[.agg #[.int .i64 qk2, .string qt2, .int .i64 qn2, .slice Ap2 ql2 cp2], .int .i64 (i : Int), .bool true]) (by simp [results, Tryz.results44, go_sem, y0, y1, y2, y3]) rfl Hfin.out
          · have hb2 : ((x.toNat : Int) == 41) = false := by
              have : x.toNat ≠ 41 := fun e => h41 (UInt8.toNat_inj.1 e)
              rw [beq_eq_false_iff_ne]; omega
            have hb2n : ((x.toNat : Int) != 41) = true := by rw [bne, hb2]; rfl
            have hgo : L = [] ∨ ¬ Q.Halt (x :: t) := .inr (by
              rintro (e | e | e)
              · cases e
              · exact h124 e
              · exact h41 e)
            obtain ⟨r', hr'⟩ : ∃ r', r' = x :: t := ⟨_, rfl⟩
            rw [← hr'] at hgo hi hsf hLr hrn' hRL
            have hsl := hsf.out.length_le
            clear hr' hL h124 h41
            have htc := HTc.out r' wo hsf.out hrn' (Hb0.out.trans (hb.out.mono Hb0.out.size))
            rw [hi.out] at htc
            have Htc := Lib.hid htc; have Hgo := Lib.hid hgo
            clear htc hgo
            go_wp2_with fail
            refine Htc.out.mono ?_
            clear Htc
            rintro e w2 ⟨f5, v5, q4, u4, ok4, rfl, hq5, hu4, hb2, hres⟩
            obtain ⟨va, vb, vc, vd, rfl, _, rfl, rfl, rfl, Ap2, cp2, rfl⟩ := hq5.cellsOf
            obtain ⟨qk2, hqk⟩ : ∃ k, q4.kind = k := ⟨_, rfl⟩
            obtain ⟨qt2, hqt⟩ : ∃ k, bs q4.text = k := ⟨_, rfl⟩
            obtain ⟨qn2, hqn⟩ : ∃ k, q4.num = k := ⟨_, rfl⟩
            obtain ⟨ql2, hql⟩ : ∃ k, q4.parts.length = k := ⟨_, rfl⟩
            obtain ⟨j, hj⟩ : ∃ j, s.length - u4.length = j := ⟨_, rfl⟩
            rw [hqk, hqt, hqn, hql] at hq5 ⊢
            rw [hj]
            obtain ⟨W2, g2, hW2, hg2, hs2, k2, hal2⟩ := boxA w2 #[.int .i64 qk2, .string qt2, .int .i64 qn2, .slice Ap2 ql2 cp2] 24
            have own2 := (hown.out.ext hb2).ext hal2
            have hbo : wo.heap.size ≤ W2.heap.size := Nat.le_trans hb2.size hal2.size
            have hWo : W.heap.size ≤ wo.heap.size := hb.out.size
            have hbW2 := hb.out.trans ((hb2.trans (hal2.mono hb2.size)).mono hWo)
            have Hq2o := Lib.hid (hq5.ext hal2)
            have hq2 := (hq5.ext hal2).sub (M' := fun b => b < W.heap.size) fun b _ (h : b < W.heap.size) => (by omega : b < wo.heap.size)
            have hul4 := hu4.length_le
            obtain ⟨x0, x1, x2, x3, _⟩ := k2.four
            have Hj := Lib.hid hj; have Hq2 := Lib.hid hq2; have Hown2 := Lib.hid own2; have HbW2 := Lib.hid hbW2; have Hu4 := Lib.hid hu4
            clear hqk hqt hqn hql hj hq5 own2 hbW2 hq2 hb2 hal2 k2 hs2 hu4
            cases ok4 with
            | false =>
              change _ = Q.Res.err u4 at hres
              have hR : R = okRes false q4 u4 := by rw [← hRL.out]; exact Q.cj_err HTi.out Hgo.out hres
              have kR := Hk.out.ext HbW2.out
              obtain ⟨z0, z1, z2, z3, _⟩ := kR.four
              have z4 := kR.frozen 0; have z5 := kR.frozen 1; have z6 := kR.frozen 2; have z7 := kR.frozen 3
              obtain ⟨W9, hW9, y0, y1, y2, y3, hfin⟩ := ffin (w := w) (ok := false) (.int .i64 qk2) (.string qt2) (.int .i64 qn2) (.slice Ap2 ql2 cp2) kR hgw (Hal.out.trans (HbW2.out.mono hWs)) Hq2.out hgB hWs Hu4.out hR j Hj.out
              have HW9 := Lib.hid hW9; have Hfin := Lib.hid hfin
              clear hW9 hfin kR hres hR
              go_wp2_with fail
              rw [HW9.out]
              exact bodyPost_ret (v := .tuple #[.agg #[.int .i64 qk2, .string qt2, .int .i64 qn2, .slice Ap2 ql2 cp2], .int .i64 (j : Int), .bool false]) (by simp [results, Tryz.results44, go_sem, y0, y1, y2, y3]) rfl Hfin.out
            | true =>
              change _ = Q.Res.ok q4 u4 at hres
              have hR : Q.cj T (L ++ [q4]) (Q.skipS u4) = R := by rw [← hRL.out]; exact (Q.cj_ok HTs.out HTi.out Hgo.out hres).symm
              have hul := HTs.out _ _ _ hres
              have hmx1 : fL ≤ max fL (f5 + 1) := Nat.le_max_left _ _
              have hmx2 : f5 + 1 ≤ max fL (f5 + 1) := Nat.le_max_right _ _
              generalize max fL (f5 + 1) = fm at hmx1 hmx2
              have own5 := Hown2.out.qMono hmx1
              have hlt4 := hown.out.lt
              have hrdM : (qF (f5 + 1)).rd (fun b => b < wo.heap.size) W2 [.int .i64 qk2, .string qt2, .int .i64 qn2, .slice Ap2 ql2 cp2] q4 := by have := Hq2o.out.rd; simpa [Value.cells] using this
              have hrd5 : (qF fm).rd (fun b => b < W.heap.size ∨ (Value.slice A L.length c).ownBlock = some b) W2 [.int .i64 qk2, .string qt2, .int .i64 qn2, .slice Ap2 ql2 cp2] q4 :=
                Codec.sub _ (qF_mono hmx2 hrdM) fun b _ h => by
                  rcases h with h | h
                  · exact (by omega : b < wo.heap.size)
                  · exact hlt4 b h
              have hB5 : W.heap.size ≤ W2.heap.size := Nat.le_trans hWo hbo
              have HR2 := Lib.hid hR; have Hrd5 := Lib.hid hrd5; have Hown5 := Lib.hid own5
              clear hR hrd5 hrdM own5 hlt4 hres hmx1 hmx2
              go_upto_region 7 with (fail)
              have own5 := Hown5.out
              go_wp2_with (at_builtin; refine wpList_push_Own (qF fm) (M := fun b => b < W.heap.size) (B := W.heap.size) TQs rfl (.tmp 46) (.tmp 48) rfl rfl own5 rfl (cs := [.int .i64 qk2, .string qt2, .int .i64 qn2, .slice Ap2 ql2 cp2]) (y := q4) Hrd5.out (fun b h => Nat.lt_of_lt_of_le h hB5) ?a1 ?b1 hB5 ?_)
              case a1 => unfold maxLen; omega
              case b1 => omega
              intro A6 c6 L6 w6 hL6 own6 hb6 _ _
              have hsp := fskip_ok s u4 Hu4.out hs w6
              rw [Hj.out] at hsp
              have hsk4 := skipS_le u4
              have hb06 := HbW2.out.trans hb6
              have hl6 : L6.length = L.length + 1 := by rw [hL6.out, List.length_append]; rfl
              have Hsp := Lib.hid hsp; have Hb06 := Lib.hid hb06; have Hl6 := Lib.hid hl6; have Hown6 := Lib.hid own6
              obtain ⟨i7, hi7⟩ : ∃ i, s.length - (Q.skipS u4).length = i := ⟨_, rfl⟩
              have Hi7 := Lib.hid hi7
              clear hsp hb06 hb6 hl6 own6 own5 hi7 x0 x1 x2 x3
              go_wp2_with fail
              refine Hsp.out.mono ?_
              rintro e w7 ⟨rfl, hb7⟩
              rw [Hi7.out]
              have own7 := Hown6.out.ext hb7
              have Hown7 := Lib.hid own7; have Hb7 := Lib.hid (Hb06.out.trans (hb7.mono Hb06.out.size))
              clear own7 hb7 Hsp
              go_wp2_with fail
              go_roundw
              case rel => exact ⟨fm, Q.skipS u4, i7, A6, c6, L6, rfl, rfl, Hi7, Hown7, Lib.hid ((skipS_suf u4).trans Hu4.out), Hb7, by have := Hl6.out; omega, by omega, Lib.hid (by rw [hL6.out]; exact HR2.out)⟩
              case measure => have h1 := Hi7.out; have h2 := hi.out; simp only [intOf]; omega
end Go.Proofs.YtihhgmpanfboaaaGreatDoor
namespace Go.Proofs.YtihhgmpanfboaaaGreatDoor
open Go.RowKit
set_option linter.unusedVariables false
/-- where a disjunction stands -/
def DjS (T : Str → Q.Res) (L : List Q) (R : Q.Res) (ok : Bool) (u : Str) : Prop := match ok with | true => ¬ Q.Stuck u ∧ Q.dj T L u = R | false => R = .err u
set_option maxRecDepth 100000 in
set_option maxHeartbeats 8000000 in
theorem fdisj_ok (w0 : World) (hT : TabsU w0) (s : Str) (hs : s.length ≤ 4000) (n : Nat) (T : Str → Q.Res) (hTs : Q.Short T) (hTi : Q.Idle T) (hTc : TermR w0 s n T) (r : Str) (w : World) (hr : r <:+ s) (hrn : r.length ≤ n) (hb0 : Below w0.heap.size w0 w) :
    Calls Tryz.prog 32 #[.string (bs s), .int .i64 ((s.length - r.length : Nat) : Int)] w (FRes s w (Q.fin (Q.eitherOf T r))) := by
  obtain ⟨R, hR⟩ : ∃ R, Q.fin (Q.eitherOf T r) = R := ⟨_, rfl⟩
  rw [hR]
  have hrl := hr.length_le
  obtain ⟨W, gR, hW, hgR, hsR, kr, hal⟩ := boxA w #[.int .i64 0, .string ⟨#[]⟩, .int .i64 0, .slice none 0 0] 24
  have hcj := fconj_ok w0 hT s hs n T hTs hTi hTc r W hr hrn (hb0.trans (hal.mono hb0.size))
  obtain ⟨i0, hi0⟩ : ∃ i, s.length - r.length = i := ⟨_, rfl⟩
  rw [hi0] at hcj ⊢
  have hWs : w.heap.size ≤ W.heap.size := hal.size
  have hgw : w.heap.size ≤ gR := by omega
  have hgB : gR < W.heap.size := by omega
  have HW := Lib.hid hW; have HgR := Lib.hid hgR; have Hk := Lib.hid kr; have HR := Lib.hid hR; have Hcj := Lib.hid hcj; have HTc := Lib.hid hTc; have HTs := Lib.hid hTs; have HTi := Lib.hid hTi; have Hal := Lib.hid hal
  have Hb0 := Lib.hid (hb0.trans (hal.mono hb0.size)); have HT := Lib.hid hT
  clear hW hgR hsR kr hal hr hb0 hT hR hcj hTs hTi hTc hi0
  go_enter Tryz.func32, Tryz.ntmps32
  go_wp2_with fail
  rw [HW.out]
  try rw [HgR.out]
  refine Hcj.out.mono ?_
  clear Hcj
  rintro e w2 ⟨f5, v5, q4, u4, ok4, rfl, hq5, hu4, hb2, hres⟩
  have hst : DjS T [q4] R ok4 u4 ∧ (ok4 = true → 1 + u4.length ≤ s.length + 1 ∧ u4.length ≤ n) := by
    cases ok4 with
    | true =>
      change _ = Q.Res.ok q4 u4 at hres
      obtain ⟨h1, h2⟩ := Q.dj_start HTs.out hres
      have h3 := Q.bothOf_short HTs.out _ _ _ (Q.fin_ok hres).1
      exact ⟨⟨h2, by rw [← h1]; exact HR.out⟩, fun _ => by omega⟩
    | false =>
      change _ = Q.Res.err u4 at hres
      exact ⟨(HR.out.symm.trans (Q.dj_bad HTs.out hres) : R = .err u4), fun h => by cases h⟩
  obtain ⟨va, vb, vc, vd, rfl, _, rfl, rfl, rfl, Ap2, cp2, rfl⟩ := hq5.cellsOf
  obtain ⟨qk2, hqk⟩ : ∃ k, q4.kind = k := ⟨_, rfl⟩
  obtain ⟨qt2, hqt⟩ : ∃ k, bs q4.text = k := ⟨_, rfl⟩
  obtain ⟨qn2, hqn⟩ : ∃ k, q4.num = k := ⟨_, rfl⟩
  obtain ⟨ql2, hql⟩ : ∃ k, q4.parts.length = k := ⟨_, rfl⟩
  obtain ⟨j, hj⟩ : ∃ j, s.length - u4.length = j := ⟨_, rfl⟩
  rw [hqk, hqt, hqn, hql] at hq5 ⊢
  rw [hj]
  obtain ⟨W2, g2, hW2, hg2, hs2, k2, hal2⟩ := boxA w2 #[.int .i64 qk2, .string qt2, .int .i64 qn2, .slice Ap2 ql2 cp2] 24
  have hb2W := hb2.trans (hal2.mono hb2.size)
  have hB2 : W.heap.size ≤ W2.heap.size := hb2W.size
  have hrdW : (qF (f5 + 1)).rd (fun b => b < W.heap.size) W2 [.int .i64 qk2, .string qt2, .int .i64 qn2, .slice Ap2 ql2 cp2] q4 := by have := (hq5.ext hal2).rd; simpa [Value.cells] using this
  have own0 : Own (qF (f5 + 1)) (fun b => b < W.heap.size) (W2.alloc (.cells [.int .i64 qk2, .string qt2, .int .i64 qn2, .slice Ap2 ql2 cp2].toArray 24)) W.heap.size 24 (.slice (some ⟨W2.heap.size, 0, none⟩) [q4].length [q4].length) [q4] :=
    Own.built (w := W2) (C := qF (f5 + 1)) 24 (Els.single hrdW) hB2 (by simp [maxLen])
  obtain ⟨W3, g3, hW3, hg3, hs3, _, hal3⟩ := boxA W2 #[.int .i64 qk2, .string qt2, .int .i64 qn2, .slice Ap2 ql2 cp2] 24
  have hsl : (Value.slice (some ⟨W2.heap.size, 0, none⟩) [q4].length [q4].length) = .slice (some ⟨g3, 0, none⟩) [q4].length 1 := by rw [hg3]; rfl
  rw [hsl] at own0
  rw [show (W2.alloc (.cells [.int .i64 qk2, .string qt2, .int .i64 qn2, .slice Ap2 ql2 cp2].toArray 24)) = W3 from hW3] at own0
  have hb3W := hb2W.trans (hal3.mono hb2W.size)
  obtain ⟨x0, x1, x2, x3, _⟩ := k2.four
  have Hown0 := Lib.hid own0; have Hb3 := Lib.hid hb3W; have Hu4 := Lib.hid hu4; have Hst := Lib.hid hst.1; have Hstb := hst.2; have Hj := Lib.hid hj
  clear hqk hqt hqn hql hj hq5 own0 hb2W hb3W hb2 hal2 k2 hs2 hu4 hst hres hs3 hal3 hrdW hsl HR
  go_wp2_with fail
  clear x0 x1 x2 x3 hW2 hW3 hg2 hg3
  go_loopw [1, 8, 9] (fun av okv lv wr => ∃ (fL : Nat) (r' : Str) (i : Nat) (A : Option Addr) (c : Nat) (L : List Q) (ok : Bool), av = .int .i64 (i : Int) ∧ okv = .bool ok ∧ lv = .slice A L.length c ∧ Hid (s.length - r'.length = i) ∧ Hid (Own (qF fL) (fun b => b < W.heap.size) wr W.heap.size 24 (.slice A L.length c) L) ∧ Hid (r' <:+ s) ∧ Hid (Below W.heap.size W wr) ∧ Hid (L ≠ []) ∧ (ok = true → L.length + r'.length ≤ s.length + 1 ∧ r'.length ≤ n) ∧ Hid (DjS T L R ok r')) (fun av okv _ _ => match okv with | .bool true => s.length - (intOf av).toNat + 1 | _ => 0)
  case atStart => exact ⟨f5 + 1, u4, j, _, 1, [q4], ok4, rfl, rfl, rfl, Hj, Hown0, Hu4, Hb3, Lib.hid (by simp), (fun h => by have := Hstb h; simp only [List.length_cons, List.length_nil]; omega), Hst⟩
  case round =>
    obtain ⟨fL, r', i, A, c, L, ok, rfl, rfl, rfl, hi, hown, hsf, hb, hLn, hbd, hRL⟩ := hrel
    obtain ⟨wo, rfl⟩ : ∃ W, W = wr := ⟨_, rfl⟩
    have hsl := hsf.out.length_le
    have hi0 : (0 : Int) ≤ (i : Int) := by omega
    cases ok with
    | false =>
      have hR : R = .err r' := hRL.out
      have hjn := fun V (hv : Below wo.heap.size wo V) => joined_ok fL (fun b => b < W.heap.size) 7 (.slice A L.length c) L V ((hown.out.ext hv).readG (Nat.le_refl _)) hLn.out (by omega)
      have HRx := Lib.hid hR; have Hjn := Lib.hid hjn
      clear hR hjn
      clear hRL
      go_wp2_with fail
      refine (Hjn.out _ (Below.refl _ _)).mono ?_
      clear Hjn
      rintro e w5 ⟨v', rfl, hq5, hb5⟩
      have hbW := hb.out.trans ((hb5).mono hb.out.size)
      obtain ⟨va, vb, vc, vd, rfl, _, rfl, rfl, rfl, Ap2, cp2, rfl⟩ := hq5.cellsOf
      obtain ⟨sq, hsq⟩ : ∃ x, Q.several 7 L = x := ⟨_, rfl⟩
      have hR := HRx.out
      rw [hsq] at hq5 ⊢
      try rw [hsq] at hR
      obtain ⟨qk2, hqk⟩ : ∃ k, sq.kind = k := ⟨_, rfl⟩
      obtain ⟨qt2, hqt⟩ : ∃ k, bs sq.text = k := ⟨_, rfl⟩
      obtain ⟨qn2, hqn⟩ : ∃ k, sq.num = k := ⟨_, rfl⟩
      obtain ⟨ql2, hql⟩ : ∃ k, sq.parts.length = k := ⟨_, rfl⟩
      rw [hqk, hqt, hqn, hql] at hq5 ⊢
      have kR := Hk.out.ext hbW
      obtain ⟨z0, z1, z2, z3, _⟩ := kR.four
      have z4 := kR.frozen 0; have z5 := kR.frozen 1; have z6 := kR.frozen 2; have z7 := kR.frozen 3
      obtain ⟨W9, hW9, y0, y1, y2, y3, hfin⟩ := ffin (w := w) (ok := false) (.int .i64 qk2) (.string qt2) (.int .i64 qn2) (.slice Ap2 ql2 cp2) kR hgw (Hal.out.trans (hbW.mono hWs)) hq5 hgB hWs hsf.out hR i hi.out
      have HW9 := Lib.hid hW9; have Hfin := Lib.hid hfin
      clear hW9 hfin kR hR hqk hqt hqn hql hq5 hb5 hbW hsq
      go_wp2_with fail
      rw [HW9.out]
      exact bodyPost_ret (v := .tuple #[.agg #[.int .i64 qk2, .string qt2, .int .i64 qn2, .slice Ap2 ql2 cp2], .int .i64 (i : Int), .bool false]) (by simp [results, Tryz.results32, go_sem, y0, y1, y2, y3]) rfl Hfin.out
    | true =>
      obtain ⟨hLr, hrn'⟩ := hbd rfl
      obtain ⟨hns, hdj⟩ := hRL.out
      have his := fis_ok s r' hsf.out hs 124 (by decide) wo
      rw [hi.out] at his
      by_cases h124 : r'.headD 0 = 124
      · obtain ⟨t, rfl⟩ := headD_cons_of h124 (by decide)
        rw [h124] at his
        have His := Lib.hid his; have Hdj := Lib.hid hdj
        clear his hns hdj hRL
        obtain ⟨ht1, ht2⟩ := suf_tail hsf.out
        rw [hi.out] at ht2
        rw [List.length_cons] at hLr hrn' hsl
        have hw : IntKind.i64.wrap ((i : Int) + 1) = ((i + 1 : Nat) : Int) := by rw [show (i : Int) + 1 = ((i + 1 : Nat) : Int) by omega]; exact IntWalk.i64_in _ (by have := hi.out; omega)
        have Ht1 := Lib.hid ht1; have Ht2 := Lib.hid ht2
        clear ht1 ht2
        go_wp2_with fail
        refine His.out.mono ?_
        clear His
        rintro e w4 ⟨rfl, hb4⟩
        have hcj := fconj_ok w0 HT.out s hs n T HTs.out HTi.out HTc.out t w4 Ht1.out (by omega) ((Hb0.out.trans (hb.out.mono Hb0.out.size)).trans (hb4.mono (Nat.le_trans Hb0.out.size hb.out.size)))
        rw [Ht2.out] at hcj
        have Hcj := Lib.hid hcj; have Hb4 := Lib.hid hb4
        clear hcj hb4
        go_wp2_with fail
        refine Hcj.out.mono ?_
        clear Hcj
        rintro e w5 ⟨f5, v5, q4, u4, ok4, rfl, hq5, hu4, hb5, hres⟩
        have hst : DjS T (L ++ [q4]) R ok4 u4 ∧ (ok4 = true → u4.length < t.length) := by
          cases ok4 with
          | true =>
            change _ = Q.Res.ok q4 u4 at hres
            obtain ⟨h1, h2⟩ := Q.dj_ok HTs.out (l := L) hres
            have h3 := Q.bothOf_short HTs.out _ _ _ (Q.fin_ok hres).1
            exact ⟨⟨h2, by rw [← h1]; exact Hdj.out⟩, fun _ => h3⟩
          | false =>
            change _ = Q.Res.err u4 at hres
            exact ⟨(Hdj.out.symm.trans (Q.dj_err HTs.out hres) : R = .err u4), fun h => by cases h⟩
        obtain ⟨va, vb, vc, vd, rfl, _, rfl, rfl, rfl, Ap2, cp2, rfl⟩ := hq5.cellsOf
        obtain ⟨qk2, hqk⟩ : ∃ k, q4.kind = k := ⟨_, rfl⟩
        obtain ⟨qt2, hqt⟩ : ∃ k, bs q4.text = k := ⟨_, rfl⟩
        obtain ⟨qn2, hqn⟩ : ∃ k, q4.num = k := ⟨_, rfl⟩
        obtain ⟨ql2, hql⟩ : ∃ k, q4.parts.length = k := ⟨_, rfl⟩
        obtain ⟨j, hj⟩ : ∃ j, s.length - u4.length = j := ⟨_, rfl⟩
        rw [hqk, hqt, hqn, hql] at hq5 ⊢
        rw [hj]
        obtain ⟨W2, g2, hW2, hg2, hs2, k2, hal2⟩ := boxA w5 #[.int .i64 qk2, .string qt2, .int .i64 qn2, .slice Ap2 ql2 cp2] 24
        have hb45 := Hb4.out.trans (hb5.mono Hb4.out.size)
        have hb4W := hb45.trans (hal2.mono hb45.size)
        have own2 := hown.out.ext hb4W
        have hbo : wo.heap.size ≤ W2.heap.size := hb4W.size
        have hWo : W.heap.size ≤ wo.heap.size := hb.out.size
        have hw44 : wo.heap.size ≤ w4.heap.size := Hb4.out.size
        have hbW2 := hb.out.trans (hb4W.mono hWo)
        have hlt4 := hown.out.lt
        have hmx1 : fL ≤ max fL (f5 + 1) := Nat.le_max_left _ _
        have hmx2 : f5 + 1 ≤ max fL (f5 + 1) := Nat.le_max_right _ _
        generalize max fL (f5 + 1) = fm at hmx1 hmx2
        have own5 := own2.qMono hmx1
        have hrdM : (qF (f5 + 1)).rd (fun b => b < w4.heap.size) W2 [.int .i64 qk2, .string qt2, .int .i64 qn2, .slice Ap2 ql2 cp2] q4 := by have := (hq5.ext hal2).rd; simpa [Value.cells] using this
        have hrd5 : (qF fm).rd (fun b => b < W.heap.size ∨ (Value.slice A L.length c).ownBlock = some b) W2 [.int .i64 qk2, .string qt2, .int .i64 qn2, .slice Ap2 ql2 cp2] q4 :=
          Codec.sub _ (qF_mono hmx2 hrdM) fun b _ h => by
            rcases h with h | h
            · exact (by omega : b < w4.heap.size)
            · have := hlt4 b h; exact (by omega : b < w4.heap.size)
        have hB5 : W.heap.size ≤ W2.heap.size := Nat.le_trans hWo hbo
        obtain ⟨x0, x1, x2, x3, _⟩ := k2.four
        have Hj := Lib.hid hj; have Hown5 := Lib.hid own5; have HbW2 := Lib.hid hbW2; have Hu4 := Lib.hid hu4; have Hst := Lib.hid hst.1; have Hstb := hst.2; have Hrd5 := Lib.hid hrd5
        clear hqk hqt hqn hql hj hq5 own2 own5 hbW2 hb5 hal2 k2 hs2 hu4 hst hres hrd5 hrdM hlt4 hmx1 hmx2 hb45 hb4W
        go_upto_region 5 with (fail)
        have own5 := Hown5.out
        go_wp2_with (at_builtin; refine wpList_push_Own (qF fm) (M := fun b => b < W.heap.size) (B := W.heap.size) TQs rfl (.tmp 36) (.tmp 38) rfl rfl own5 rfl (cs := [.int .i64 qk2, .string qt2, .int .i64 qn2, .slice Ap2 ql2 cp2]) (y := q4) Hrd5.out (fun b h => Nat.lt_of_lt_of_le h hB5) ?a1 ?b1 hB5 ?_)
        case a1 => unfold maxLen; omega
        case b1 => omega
        intro A6 c6 L6 w6 hL6 own6 hb6 _ _
        have hb06 := HbW2.out.trans hb6
        have hl6 : L6.length = L.length + 1 := by rw [hL6.out, List.length_append]; rfl
        have Hb06 := Lib.hid hb06; have Hl6 := Lib.hid hl6; have Hown6 := Lib.hid own6
        clear hb06 hb6 hl6 own6 own5 x0 x1 x2 x3 hW2 hg2
        go_wp2_with fail
        go_roundw
        case rel => exact ⟨fm, u4, j, A6, c6, L6, ok4, rfl, rfl, rfl, Hj, Hown6, Hu4, Hb06, Lib.hid (by rw [hL6.out]; simp), (fun h => by have := Hstb h; have := Hl6.out; omega), Lib.hid (by rw [hL6.out]; exact Hst.out)⟩
        case measure =>
          have h1 := Hj.out; have h2 := hi.out
          cases ok4 with
          | true => have h3 := Hstb rfl; simp only [List.length_cons, intOf] at h2 ⊢; omega
          | false => dsimp only; omega
      · rw [show (r'.headD 0 == 124) = false from by simpa using h124] at his
        have hR := (Q.dj_end hns h124).symm.trans hdj
        replace hR := hR.symm
        have His := Lib.hid his
        clear his hns hdj hRL
        have hjn := fun V (hv : Below wo.heap.size wo V) => joined_ok fL (fun b => b < W.heap.size) 7 (.slice A L.length c) L V ((hown.out.ext hv).readG (Nat.le_refl _)) hLn.out (by omega)
        have HRx := Lib.hid hR; have Hjn := Lib.hid hjn
        clear hR hjn
        go_wp2_with fail
        refine His.out.mono ?_
        clear His
        rintro e w4 ⟨rfl, hb4⟩
        go_wp2_with fail
        refine (Hjn.out _ hb4).mono ?_
        clear Hjn
        rintro e w5 ⟨v', rfl, hq5, hb5⟩
        have hbW := hb.out.trans ((hb4.trans (hb5.mono hb4.size)).mono hb.out.size)
        obtain ⟨va, vb, vc, vd, rfl, _, rfl, rfl, rfl, Ap2, cp2, rfl⟩ := hq5.cellsOf
        obtain ⟨sq, hsq⟩ : ∃ x, Q.several 7 L = x := ⟨_, rfl⟩
        have hR := HRx.out
        rw [hsq] at hq5 ⊢
        try rw [hsq] at hR
        obtain ⟨qk2, hqk⟩ : ∃ k, sq.kind = k := ⟨_, rfl⟩
        obtain ⟨qt2, hqt⟩ : ∃ k, bs sq.text = k := ⟨_, rfl⟩
        obtain ⟨qn2, hqn⟩ : ∃ k, sq.num = k := ⟨_, rfl⟩
        obtain ⟨ql2, hql⟩ : ∃ k, sq.parts.length = k := ⟨_, rfl⟩
        rw [hqk, hqt, hqn, hql] at hq5 ⊢
        have kR := Hk.out.ext hbW
        obtain ⟨z0, z1, z2, z3, _⟩ := kR.four
        have z4 := kR.frozen 0; have z5 := kR.frozen 1; have z6 := kR.frozen 2; have z7 := kR.frozen 3
        obtain ⟨W9, hW9, y0, y1, y2, y3, hfin⟩ := ffin (w := w) (ok := true) (.int .i64 qk2) (.string qt2) (.int .i64 qn2) (.slice Ap2 ql2 cp2) kR hgw (Hal.out.trans (hbW.mono hWs)) hq5 hgB hWs hsf.out hR i hi.out
        have HW9 := Lib.hid hW9; have Hfin := Lib.hid hfin
        clear hW9 hfin kR hR hqk hqt hqn hql hq5 hb5 hbW hsq
        go_wp2_with fail
        rw [HW9.out]
        exact bodyPost_ret (v := .tuple #[.agg #[.int .i64 qk2, .string qt2, .int .i64 qn2, .slice Ap2 ql2 cp2], .int .i64 (i : Int), .bool true]) (by simp [results, Tryz.results32, go_sem, y0, y1, y2, y3]) rfl Hfin.out
end Go.Proofs.YtihhgmpanfboaaaGreatDoor
namespace Go.Proofs.YtihhgmpanfboaaaGreatDoor
open Go.RowKit
set_option linter.unusedVariables false
theorem join_snoc (l : List Str) (x : Str) : Q.join [32] (l ++ [x]) = if l = [] then x else Q.join [32] l ++ 32 :: x := by
  cases l with
  | nil => simp [Q.join]
  | cons a l =>
    rw [if_neg (by simp)]
    simp [Q.join, List.flatMap_append]
theorem join_ne {l : List Str} (h : ∀ x ∈ l, x ≠ []) : Q.join [32] l = [] ↔ l = [] := by
  cases l with
  | nil => simp [Q.join]
  | cons a l =>
    have := h a (.head _)
    simp [Q.join, this]
theorem bs_lit (a : Array UInt8) : (⟨a⟩ : ByteArray) = bs a.toList := by simp [bs]
theorem phr_done {r t : Str} (h : Q.skipS r = 34 :: t) : phr r = ([], 34 :: t) := by
  rw [← h]
  refine phr_end ?_
  rw [h, wordS_no (.inr (by rw [Sm.decode_ascii' 34 t (by decide)]; decide +kernel))]
theorem QAt.nil4 (w : World) (M : Nat → Prop) : QAt 0 M w (.agg #[.int .i64 0, .string ⟨#[]⟩, .int .i64 0, .slice none 0 0]) (.node 0 [] 0 []) := ⟨none, 0, rfl, by simp, by simp [maxLen], by simp, SlR.nil _ _ _⟩
theorem QAt.leaf4 (w : World) (M : Nat → Prop) (k n : Int) (t : Str) (hk : 0 ≤ k ∧ k ≤ 10) (hn : 0 ≤ n ∧ n ≤ 100000) (ht : t.length ≤ 100000) : QAt 0 M w (.agg #[.int .i64 k, .string (bs t), .int .i64 n, .slice none 0 0]) (.node k t n []) :=
  ⟨none, 0, rfl, by simp only [Q.kind_node]; omega, by simp only [Q.text_node, maxLen]; omega, by simp only [Q.num_node]; omega, SlR.nil _ _ _⟩
set_option maxRecDepth 100000 in
set_option maxHeartbeats 8000000 in
theorem fquoted_ok (w0 : World) (hT : TabsU w0) (s : Str) (hs : s.length ≤ 4000) (r : Str) (w : World) (hr : r <:+ s) (hb0 : Below w0.heap.size w0 w) :
    Calls Tryz.prog 85 #[.string (bs s), .int .i64 ((s.length - r.length : Nat) : Int)] w (FRes s w (Q.quotedS r)) := by
  rw [quotedS_eq]
  obtain ⟨⟨pa, pb⟩, hp⟩ : ∃ x, phr r = x := ⟨_, rfl⟩
  rw [hp]
  dsimp only
  obtain ⟨R, hR⟩ : ∃ R, (if pb.head? = some 34 ∧ pa ≠ [] then Q.Res.ok (.node 4 (Q.join [32] pa) 0 []) pb.tail else Q.Res.err pb) = R := ⟨_, rfl⟩
  rw [hR]
  have hrl := hr.length_le
  obtain ⟨W, gR, hW, hgR, hsR, kr, hal⟩ := boxA w #[.int .i64 0, .string ⟨#[]⟩, .int .i64 0, .slice none 0 0] 24
  have hsp := fskip_ok s r hr hs W
  have hsk := skipS_le r
  have hsf := (skipS_suf r).trans hr
  obtain ⟨i0, hi0⟩ : ∃ i, s.length - r.length = i := ⟨_, rfl⟩
  rw [hi0] at hsp ⊢
  obtain ⟨r1, hr1e⟩ : ∃ x, Q.skipS r = x := ⟨_, rfl⟩
  rw [hr1e] at hsp hsk hsf
  obtain ⟨i1, hi1⟩ : ∃ i, s.length - r1.length = i := ⟨_, rfl⟩
  rw [hi1] at hsp
  have hWs : w.heap.size ≤ W.heap.size := hal.size
  have hgw : w.heap.size ≤ gR := by omega
  have hgB : gR < W.heap.size := by omega
  have HW := Lib.hid hW; have HgR := Lib.hid hgR; have Hk := Lib.hid kr; have HR := Lib.hid hR; have Hsp := Lib.hid hsp; have Hal := Lib.hid hal; have Hsf := Lib.hid hsf; have Hi1 := Lib.hid hi1; have Hr1 := Lib.hid hr1e; have Hp := Lib.hid hp; have HT := Lib.hid hT
  have Hb0 := Lib.hid (hb0.trans (hal.mono hb0.size))
  clear hW hgR hsR kr hal hr hb0 hT hR hsp hr1e hsf hi0 hi1 hp
  go_enter Tryz.func85, Tryz.ntmps85
  go_wp2_with fail
  rw [HW.out]
  try rw [HgR.out]
  refine Hsp.out.mono ?_
  rintro e w1 ⟨rfl, hb1⟩
  have Hb1 := Lib.hid hb1
  clear Hsp hb1
  go_wp2_with fail
  try rw [HgR.out]
  go_loopw [1, 7] (fun av tv wr => ∃ (r' r0 : Str) (i : Nat) (L : List Str) (tx : Str), av = .int .i64 (i : Int) ∧ tv = .string (bs tx) ∧ Hid (s.length - r'.length = i) ∧ Hid (Q.skipS r0 = r' ∧ pa = L ++ (phr r0).1 ∧ pb = (phr r0).2) ∧ Hid (tx = Q.join [32] L ∧ ∀ x ∈ L, x ≠ []) ∧ tx.length + 5 * r'.length ≤ 5 * r.length ∧ Hid (r' <:+ s) ∧ Hid (Below W.heap.size W wr)) (fun av _ _ => s.length - (intOf av).toNat)
  case atStart => exact ⟨r1, r, i1, [], [], rfl, rfl, Hi1, Lib.hid ⟨Hr1.out, by rw [Hp.out]; rfl, by rw [Hp.out]⟩, Lib.hid ⟨rfl, fun _ h => by cases h⟩, by rw [List.length_nil]; omega, Hsf, Hb1⟩
  case round =>
    obtain ⟨r', r0, i, L, tx, rfl, rfl, hi, hph, htx, htl, hsf, hb⟩ := hrel
    obtain ⟨wo, rfl⟩ : ∃ W, W = wr := ⟨_, rfl⟩
    have hsl := hsf.out.length_le
    have hi0 : (0 : Int) ≤ (i : Int) := by omega
    have his := fis_ok s r' hsf.out hs 34 (by decide) wo
    rw [hi.out] at his
    by_cases h34 : r'.headD 0 = 34
    · obtain ⟨t, rfl⟩ := headD_cons_of h34 (by decide)
      rw [h34] at his
      have hpd := phr_done hph.out.1
      have hpa : pa = L := by rw [hph.out.2.1, hpd, List.append_nil]
      have hpb : pb = 34 :: t := by rw [hph.out.2.2, hpd]
      have His := Lib.hid his
      obtain ⟨ht1, ht2⟩ := suf_tail hsf.out
      rw [hi.out] at ht2
      have hR := HR.out
      rw [hpa, hpb] at hR
      by_cases hL : L = []
      · have hte : tx = [] := by rw [htx.out.1, hL]; rfl
        subst hte
        rw [if_neg (by simp [hL])] at hR
        replace hR := hR.symm
        have HRx := Lib.hid hR
        clear hR hpa hpb hpd his ht1 ht2 h34 hL
        go_wp2_with fail
        refine His.out.mono ?_
        clear His
        rintro e w4 ⟨rfl, hb4⟩
        have hbW := hb.out.trans (hb4.mono hb.out.size)
        have kR := Hk.out.ext hbW
        obtain ⟨z0, z1, z2, z3, _⟩ := kR.four
        have z4 := kR.frozen 0; have z5 := kR.frozen 1; have z6 := kR.frozen 2; have z7 := kR.frozen 3
        obtain ⟨W9, hW9, y0, y1, y2, y3, hfin⟩ := ffin (w := w) (ok := false) (.int .i64 0) (.string ⟨#[]⟩) (.int .i64 0) (.slice none 0 0) kR hgw (Hal.out.trans (hbW.mono hWs)) (QAt.nil4 _ _) hgB hWs hsf.out HRx.out i hi.out
        have HW9 := Lib.hid hW9; have Hfin := Lib.hid hfin
        clear hW9 hfin kR hbW
        go_wp2_with fail
        rw [HW9.out]
        exact bodyPost_ret (v := .tuple #[.agg #[.int .i64 0, .string ⟨#[]⟩, .int .i64 0, .slice none 0 0], .int .i64 (i : Int), .bool false]) (by simp [results, Tryz.results85, go_sem, y0, y1, y2, y3]) rfl Hfin.out
      · have hne : tx ≠ [] := fun e => hL ((join_ne htx.out.2).1 (htx.out.1.symm.trans e))
        have hteq : (tx == ([] : Str)) = false := by simpa using hne
        rw [if_pos ⟨rfl, hL⟩, List.tail_cons, ← htx.out.1] at hR
        replace hR := hR.symm
        have HRx := Lib.hid hR
        have hw : IntKind.i64.wrap ((i : Int) + 1) = ((i + 1 : Nat) : Int) := by rw [show (i : Int) + 1 = ((i + 1 : Nat) : Int) by omega]; exact IntWalk.i64_in _ (by have := hi.out; omega)
        have Ht1 := Lib.hid ht1; have Ht2 := Lib.hid ht2
        have htm : tx.length ≤ 100000 := by omega
        clear hR hpa hpb hpd his ht1 ht2 h34 hL hne
        go_wp2_with fail
        refine His.out.mono ?_
        clear His
        rintro e w4 ⟨rfl, hb4⟩
        have hbW := hb.out.trans (hb4.mono hb.out.size)
        have kR := Hk.out.ext hbW
        obtain ⟨z0, z1, z2, z3, _⟩ := kR.four
        have z4 := kR.frozen 0; have z5 := kR.frozen 1; have z6 := kR.frozen 2; have z7 := kR.frozen 3
        obtain ⟨W9, hW9, y0, y1, y2, y3, hfin⟩ := ffin (w := w) (ok := true) (.int .i64 4) (.string (bs tx)) (.int .i64 0) (.slice none 0 0) kR hgw (Hal.out.trans (hbW.mono hWs)) (QAt.leaf4 _ _ 4 0 tx (by omega) (by omega) htm) hgB hWs Ht1.out HRx.out (i + 1) Ht2.out
        have HW9 := Lib.hid hW9; have Hfin := Lib.hid hfin
        clear hW9 hfin kR hbW
        go_wp2_with fail
        rw [HW9.out]
        exact bodyPost_ret (v := .tuple #[.agg #[.int .i64 4, .string (bs tx), .int .i64 0, .slice none 0 0], .int .i64 ((i + 1 : Nat) : Int), .bool true]) (by simp [results, Tryz.results85, go_sem, y0, y1, y2, y3]) rfl Hfin.out
    · rw [show (r'.headD 0 == 34) = false from by simpa using h34] at his
      have hfw := fun V => fword_ok s r' hsf.out hs V
      rw [hi.out] at hfw
      have hend := @phr_end r0
      have hmore := @phr_more r0
      rw [hph.out.1] at hend hmore
      have hwl := wordS_lens r'
      have hws := wordS_split r'.length r' (Nat.le_refl _)
      have hwsf := wordS_suf r'
      obtain ⟨⟨xa, xb⟩, hx⟩ : ∃ x, Q.wordS r' = x := ⟨_, rfl⟩
      rw [hx] at hfw hend hmore hwl hws hwsf
      dsimp only at hfw hend hmore hwl hws hwsf
      obtain ⟨j, hj⟩ : ∃ j, s.length - xb.length = j := ⟨_, rfl⟩
      rw [hj] at hfw
      have His := Lib.hid his; have Hfw := Lib.hid hfw; have Hend := Lib.hid hend; have Hmore := Lib.hid hmore; have Hws := Lib.hid hws; have Hwsf := Lib.hid hwsf; have Hj := Lib.hid hj; have H34 := Lib.hid h34
      clear his hfw hend hmore hws hwsf hx hj h34
      go_wp2_with fail
      refine His.out.mono ?_
      clear His
      rintro e w4 ⟨rfl, hb4⟩
      have Hb4 := Lib.hid (hb.out.trans (hb4.mono hb.out.size))
      clear hb4
      go_wp2_with fail
      refine (Hfw.out w4 (HT.out.ext (Hb0.out.trans (Hb4.out.mono Hb0.out.size)))).mono ?_
      rintro e w5 ⟨rfl, hb5⟩
      have Hb5 := Lib.hid (Hb4.out.trans (hb5.mono Hb4.out.size))
      clear hb5 Hfw
      by_cases hxe : xa = []
      · subst hxe
        have hxb : xb = r' := by simpa using Hws.out.symm
        subst hxb
        have hji : j = i := Hj.out.symm.trans hi.out
        subst hji
        have hpd := Hend.out rfl
        have hpb : pb = xb := by rw [hph.out.2.2, hpd]
        have hR := HR.out
        rw [hpb, if_neg (by
          rintro ⟨e, _⟩
          refine H34.out ?_
          cases xb with
          | nil => cases e
          | cons c t => rw [List.head?_cons] at e; rw [List.headD_cons]; exact Option.some.inj e)] at hR
        replace hR := hR.symm
        have HRx := Lib.hid hR
        have hbW := Hb5.out
        have kR := Hk.out.ext hbW
        clear hR hpd hpb
        obtain ⟨z0, z1, z2, z3, _⟩ := kR.four
        have z4 := kR.frozen 0; have z5 := kR.frozen 1; have z6 := kR.frozen 2; have z7 := kR.frozen 3
        obtain ⟨W9, hW9, y0, y1, y2, y3, hfin⟩ := ffin (w := w) (ok := false) (.int .i64 0) (.string ⟨#[]⟩) (.int .i64 0) (.slice none 0 0) kR hgw (Hal.out.trans (hbW.mono hWs)) (QAt.nil4 _ _) hgB hWs hsf.out HRx.out j hi.out
        have HW9 := Lib.hid hW9; have Hfin := Lib.hid hfin
        clear hW9 hfin kR hbW
        go_wp2_with fail
        rw [HW9.out]
        exact bodyPost_ret (v := .tuple #[.agg #[.int .i64 0, .string ⟨#[]⟩, .int .i64 0, .slice none 0 0], .int .i64 (j : Int), .bool false]) (by simp [results, Tryz.results85, go_sem, y0, y1, y2, y3]) rfl Hfin.out
      · have hpx := List.length_pos_iff.2 hxe
        have hne : j ≠ i := by have := Hj.out; have := hi.out; omega
        have hnei : ((j : Int) == (i : Int)) = false := by rw [beq_eq_false_iff_ne]; omega
        have hll := Sm.lower_len xa.length xa (Nat.le_refl _)
        have hdi := suf_drop hsf.out
        rw [hi.out] at hdi
        have hjj := Hj.out; have hii := hi.out
        have hd1 := hdi
        have hd2 : r'.take (j - i) = xa := by rw [Hws.out, show j - i = xa.length by omega, List.take_left]
        have hd3 : (i : Int) ≤ (j : Int) := by omega
        have hd4 : (j : Int) ≤ (s.length : Int) := by omega
        have hd6 : ((j : Int) - (i : Int)).toNat = j - i := by omega
        have hlw := fun V (hv : Below w5.heap.size w5 V) => refLower_ok xa (by omega) V (HT.out.ext ((Hb0.out.trans (Hb5.out.mono Hb0.out.size)).trans (hv.mono (Nat.le_trans Hb0.out.size Hb5.out.size))))
        have hpm := Hmore.out hxe
        have hlne : Sm.lower xa ≠ [] := fun e => hxe (lower_none e)
        obtain ⟨lx, hlx⟩ : ∃ l, Sm.lower xa = l := ⟨_, rfl⟩
        rw [hlx] at hlw hll hpm hlne
        have hsp := fun V => fskip_ok s xb (Hwsf.out.trans hsf.out) hs V
        rw [Hj.out] at hsp
        have hskx := skipS_le xb
        obtain ⟨i7, hi7⟩ : ∃ i, s.length - (Q.skipS xb).length = i := ⟨_, rfl⟩
        rw [hi7] at hsp
        have Hlw := Lib.hid hlw; have Hpm := Lib.hid hpm; have Hsp := Lib.hid hsp; have Hi7 := Lib.hid hi7; have Hlne := Lib.hid hlne
        clear hlw hpm hsp hi7 hlx hlne hne hdi hjj hii
        by_cases hL : L = []
        · have hte : tx = [] := by rw [htx.out.1, hL]; rfl
          subst hte
          subst hL
          go_wp2_with fail
          refine (Hlw.out w5 (Below.refl _ _)).mono ?_
          rintro e w6 ⟨rfl, hb6⟩
          have Hb6 := Lib.hid (Hb5.out.trans (hb6.mono Hb5.out.size))
          clear hb6 Hlw
          go_wp2_with fail
          refine (Hsp.out w6).mono ?_
          rintro e w7 ⟨rfl, hb7⟩
          have Hb7 := Lib.hid (Hb6.out.trans (hb7.mono Hb6.out.size))
          clear hb7 Hsp
          go_wp2_with fail
          go_roundw
          case rel => exact ⟨Q.skipS xb, xb, i7, [lx], lx, rfl, rfl, Hi7, Lib.hid ⟨rfl, by rw [hph.out.2.1, Hpm.out]; simp, by rw [hph.out.2.2, Hpm.out]⟩, Lib.hid ⟨by simp [Q.join], fun x hx => by rw [List.mem_singleton] at hx; rw [hx]; exact Hlne.out⟩, by simp only [List.length_nil] at htl; omega, Lib.hid ((skipS_suf xb).trans (Hwsf.out.trans hsf.out)), Hb7⟩
          case measure => have h1 := Hi7.out; have h2 := hi.out; simp only [intOf]; omega
        · have hne : tx ≠ [] := fun e => hL ((join_ne htx.out.2).1 (htx.out.1.symm.trans e))
          have hteq : (tx == ([] : Str)) = false := by simpa using hne
          have hteq2 : (tx != ([] : Str)) = true := by rw [bne, hteq]; rfl
          have HL := Lib.hid hL
          clear hL hne
          go_wp2_with fail
          refine (Hlw.out w5 (Below.refl _ _)).mono ?_
          rintro e w6 ⟨rfl, hb6⟩
          have Hb6 := Lib.hid (Hb5.out.trans (hb6.mono Hb5.out.size))
          clear hb6 Hlw
          go_wp2_with fail
          refine (Hsp.out w6).mono ?_
          rintro e w7 ⟨rfl, hb7⟩
          have Hb7 := Lib.hid (Hb6.out.trans (hb7.mono Hb6.out.size))
          clear hb7 Hsp
          go_wp2_with fail
          go_roundw
          case rel => exact ⟨Q.skipS xb, xb, i7, L ++ [lx], tx ++ 32 :: lx, rfl, by rw [bs_lit, bs_append, bs_append]; simp, Hi7, Lib.hid ⟨rfl, by rw [hph.out.2.1, Hpm.out]; simp, by rw [hph.out.2.2, Hpm.out]⟩, Lib.hid ⟨by rw [join_snoc, if_neg HL.out, htx.out.1], fun x hx => by
              rcases List.mem_append.1 hx with h | h
              · exact htx.out.2 x h
              · rw [List.mem_singleton] at h; rw [h]; exact Hlne.out⟩, by simp only [List.length_append, List.length_cons]; omega, Lib.hid ((skipS_suf xb).trans (Hwsf.out.trans hsf.out)), Hb7⟩
          case measure => have h1 := Hi7.out; have h2 := hi.out; simp only [intOf]; omega
end Go.Proofs.YtihhgmpanfboaaaGreatDoor

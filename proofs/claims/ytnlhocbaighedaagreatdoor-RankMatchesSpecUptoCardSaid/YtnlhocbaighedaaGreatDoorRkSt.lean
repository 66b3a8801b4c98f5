/-
  slices.SortStableFunc on ints, of any length.
-/
import Derived.Test.YtnlhocbaighedaaGreatDoorRkMm
import Derived.Test.YtnlhocbaighedaaGreatDoorR21
namespace Go.Proofs.YtnlhocbaighedaaGreatDoor
open Go.RowKit
set_option linter.unusedVariables false
namespace Rk
/-- places x .. y - 1 of a list stand by rising keys -/
def InUp (k : Int → Int) (L : List Int) (x y : Nat) : Prop := ∀ i j, x ≤ i → i ≤ j → j < y → k (L.getD i 0) ≤ k (L.getD j 0)
theorem cut3 (L : List Int) {x y : Nat} (h1 : x ≤ y) : L = L.take x ++ (L.drop x).take (y - x) ++ L.drop y := by
 have e : L.drop y = (L.drop x).drop (y - x) := by rw [List.drop_drop]; congr 1; omega
 rw [e, List.append_assoc, List.take_append_drop, List.take_append_drop]
theorem inUp_of {k : Int → Int} {P X R : List Int} (h : Up k X) : InUp k (P ++ X ++ R) P.length (P.length + X.length) := fun i j h1 h2 h3 => up_at h h1 h2 h3
theorem up_of {k : Int → Int} {P X R : List Int} (h : InUp k (P ++ X ++ R) P.length (P.length + X.length)) : Up k X := List.pairwise_iff_getElem.2 fun i j hi hj hij => by
 have := h (P.length + i) (P.length + j) (by omega) (by omega) (by omega)
 rwa [getD_of P X R i hi, getD_of P X R j hj] at this
theorem getD_out {P X X' R : List Int} (hl : X.length = X'.length) {i : Nat} (h : i < P.length ∨ P.length + X.length ≤ i) : (P ++ X ++ R).getD i 0 = (P ++ X' ++ R).getD i 0 := by
 rcases h with h | h
 ·rw [List.append_assoc, List.append_assoc, List.getD_eq_getElem?_getD, List.getD_eq_getElem?_getD, List.getElem?_append_left h, List.getElem?_append_left h]
 ·rw [List.getD_eq_getElem?_getD, List.getD_eq_getElem?_getD, List.getElem?_append_right (by rw [List.length_append]; exact h), List.getElem?_append_right (by rw [List.length_append]; omega), List.length_append, List.length_append, hl]
theorem InUp.keep {k : Int → Int} {P X X' R : List Int} {x y : Nat} (h : InUp k (P ++ X ++ R) x y) (hl : X.length = X'.length) (ho : y ≤ P.length ∨ P.length + X.length ≤ x) : InUp k (P ++ X' ++ R) x y := fun i j h1 h2 h3 => by
 rw [← getD_out (P := P) (R := R) hl (i := i) (by omega), ← getD_out (P := P) (R := R) hl (i := j) (by omega)]
 exact h i j h1 h2 h3
theorem insOut_block (cf : Int → Int → Int) (P X R : List Int) : insOut cf P.length (P.length + 1) (X.length - 1) (P ++ X ++ R) = P ++ sinkF cf X ++ R := by
 cases X with
 | nil => simp [insOut, sinkF]
 | cons x X =>
  have := insOut_split cf P X [x] R
  simpa [sinkF, insR] using this
theorem all_up {k : Int → Int} {L : List Int} {n : Nat} (hn : L.length = n) (h : InUp k L 0 n) : Up k L := by
 have : InUp k ([] ++ L ++ []) ([] : List Int).length (([] : List Int).length + L.length) := by simpa [hn] using h
 exact up_of this
end Rk
set_option maxRecDepth 100000 in
set_option maxHeartbeats 8000000 in
theorem insBlock_ok (w0 : World) (g c gx gl : Nat) (cf : Int → Int → Int) (k : Int → Int) (hk : ∀ i j, cf i j < 0 ↔ k i < k j) (hcmp : CmpAt w0 g gx gl cf) (L : List Int) (n a b : Nat) (hn : L.length = n) (hab : a ≤ b) (hbn : b ≤ n) (hln : n ≤ 1000000) (w : World) (hf : w0.grownBy w (some g)) (hr : RowI g L w) :
  Calls Tryz.prog 70 #[.slice (some ⟨g, 0, none⟩) n c, .int .i64 a, .int .i64 b, .func (.func 26) #[] #[.pointer (some ⟨gx, 0, none⟩), .pointer (some ⟨gl, 0, none⟩)]] w fun e w' => e = .returned (.tuple #[]) ∧ w0.grownBy w' (some g) ∧ ∃ P X R M, L = P ++ X ++ R ∧ P.length = a ∧ P.length + X.length = b ∧ Rk.SS k X M ∧ RowI g (P ++ M ++ R) w' := by
 have h := insCmp_ok w0 g c gx gl cf hcmp a b L hab (by omega) (by omega) w hf hr
 rw [hn] at h
 refine h.mono ?_
 rintro e w' ⟨he, hf', hr'⟩
 have e3 := Rk.cut3 L (x := a) (y := b) hab
 have l1 : (L.take a).length = a := by rw [List.length_take]; omega
 have l2 : ((L.drop a).take (b - a)).length = b - a := by rw [List.length_take, List.length_drop]; omega
 refine ⟨he, hf', L.take a, (L.drop a).take (b - a), L.drop b, Rk.sinkF cf ((L.drop a).take (b - a)), e3, l1, by omega, Rk.sinkF_ss cf k hk _, ?_⟩
 have hb := Rk.insOut_block cf (L.take a) ((L.drop a).take (b - a)) (L.drop b)
 rw [← e3, l1, l2] at hb
 rw [← hb, show b - a - 1 = b - (a + 1) by omega]
 exact hr'
set_option maxRecDepth 100000 in
set_option maxHeartbeats 8000000 in
theorem symBlock_ok (w0 : World) (g c gx gl : Nat) (cf : Int → Int → Int) (k : Int → Int) (hk : ∀ i j, cf i j < 0 ↔ k i < k j) (hcmp : CmpAt w0 g gx gl cf) (L : List Int) (n a m b : Nat) (hn : L.length = n) (ham : a < m) (hmb : m < b) (hbn : b ≤ n) (hln : n ≤ 1000000) (h1 : Rk.InUp k L a m) (h2 : Rk.InUp k L m b) (w : World) (hf : w0.grownBy w (some g)) (hr : RowI g L w) :
  Calls Tryz.prog 71 #[.slice (some ⟨g, 0, none⟩) n c, .int .i64 a, .int .i64 m, .int .i64 b, .func (.func 26) #[] #[.pointer (some ⟨gx, 0, none⟩), .pointer (some ⟨gl, 0, none⟩)]] w fun e w' => e = .returned (.tuple #[]) ∧ w0.grownBy w' (some g) ∧ ∃ P X R M, L = P ++ X ++ R ∧ P.length = a ∧ P.length + X.length = b ∧ Rk.SS k X M ∧ RowI g (P ++ M ++ R) w' := by
 have e3 := Rk.cut3 L (x := a) (y := b) (by omega)
 obtain ⟨P, hP⟩ : ∃ P, L.take a = P := ⟨_, rfl⟩
 obtain ⟨X, hX⟩ : ∃ X, (L.drop a).take (b - a) = X := ⟨_, rfl⟩
 obtain ⟨R, hR⟩ : ∃ R, L.drop b = R := ⟨_, rfl⟩
 have l1 : P.length = a := by rw [← hP, List.length_take]; omega
 have l2 : X.length = b - a := by rw [← hX, List.length_take, List.length_drop]; omega
 rw [hP, hX, hR] at e3
 have eX : X.take (m - a) ++ X.drop (m - a) = X := List.take_append_drop _ _
 obtain ⟨U, hU⟩ : ∃ U, X.take (m - a) = U := ⟨_, rfl⟩
 obtain ⟨V, hV⟩ : ∃ V, X.drop (m - a) = V := ⟨_, rfl⟩
 have lU : U.length = m - a := by rw [← hU, List.length_take]; omega
 have lV : V.length = b - m := by rw [← hV, List.length_drop]; omega
 rw [hU, hV] at eX
 have eL : L = P ++ U ++ V ++ R := by rw [e3, ← eX]; simp
 have uU : Rk.Up k U := by
  refine Rk.up_of (P := P) (R := V ++ R) ?_
  rw [l1, lU, ← List.append_assoc, ← eL, show a + (m - a) = m by omega]
  exact h1
 have uV : Rk.Up k V := by
  refine Rk.up_of (P := P ++ U) (R := R) ?_
  rw [List.length_append, l1, lU, lV, ← eL, show a + (m - a) = m by omega, show m + (b - m) = b by omega]
  exact h2
 rw [eL] at hr
 refine (symMerge_ok w0 g c gx gl n cf k hk hcmp hln _ U V (Nat.lt_succ_self _) (by omega) (by omega) uU uV P R a m b w (by rw [← eL]; exact hn) l1 (by omega) (by omega) hf hr).mono ?_
 rintro e w' ⟨he, hf', M, hM, hr'⟩
 rw [eX] at hM
 exact ⟨he, hf', P, X, R, M, e3, l1, by omega, hM, hr'⟩
set_option maxRecDepth 100000 in
set_option maxHeartbeats 8000000 in
theorem stable_ok (w0 : World) (g c gx gl : Nat) (cf : Int → Int → Int) (k : Int → Int) (hk : ∀ i j, cf i j < 0 ↔ k i < k j) (hcmp : CmpAt w0 g gx gl cf) (l : List Int) (n : Nat) (hn : l.length = n) (hln : n ≤ 400000) (w : World) (hf : w0.grownBy w (some g)) (hr : RowI g l w) :
  Calls Tryz.prog 49 #[.slice (some ⟨g, 0, none⟩) n c, .int .i64 n, .func (.func 26) #[] #[.pointer (some ⟨gx, 0, none⟩), .pointer (some ⟨gl, 0, none⟩)]] w fun e w' => e = .returned (.tuple #[]) ∧ w0.grownBy w' (some g) ∧ ∃ M, Rk.SS k l M ∧ RowI g M w' := by
 have Hi := Lib.hid (fun (L : List Int) (a b : Nat) (h1 : L.length = n) (h2 : a ≤ b) (h3 : b ≤ n) w hf hr => insBlock_ok w0 g c gx gl cf k hk hcmp L n a b h1 h2 h3 (by omega) w hf hr)
 have Hs := Lib.hid (fun (L : List Int) (a m b : Nat) (h1 : L.length = n) (h2 : a < m) (h3 : m < b) (h4 : b ≤ n) h5 h6 w hf hr => symBlock_ok w0 g c gx gl cf k hk hcmp L n a m b h1 h2 h3 h4 (by omega) h5 h6 w hf hr)
 have Hf := Lib.hid hf; have Hr := Lib.hid hr; have Hn := Lib.hid hn
 clear hcmp hf hr hn hk
 go_enter Tryz.func49, Tryz.ntmps49
 go_wp2_with fail
 go_loopw [7, 8] (fun av bv wr => ∃ (a b t : Nat) (L : List Int), av = .int .i64 (a : Int) ∧ bv = .int .i64 (b : Int) ∧ Hid (20 * t = a ∧ a + 20 = b ∧ a ≤ n) ∧ L.length = n ∧ Hid (Rk.FE k l L) ∧ Hid (∀ i, i < t → Rk.InUp k L (20 * i) (20 * i + 20)) ∧ w0.grownBy wr (some g) ∧ RowI g L wr) (fun _ bv _ => n + 20 - (intOf bv).toNat)
 case atStart => exact ⟨0, 20, 0, l, rfl, rfl, Lib.hid ⟨rfl, rfl, Nat.zero_le _⟩, Hn.out, Lib.hid (Rk.FE.refl _ _), Lib.hid fun i h => absurd h (Nat.not_lt_zero _), Hf.out, Hr.out⟩
 case round =>
  obtain ⟨a, b, t, L, rfl, rfl, Hab, hL, HFE, HB, hf, hr⟩ := hrel
  obtain ⟨wo, rfl⟩ : ∃ W, W = wr := ⟨_, rfl⟩
  obtain ⟨ha, hb, htn⟩ := Hab.out
  clear Hf Hr
  by_cases hbn : b ≤ n
  ·have hbi : (b : Int) ≤ (n : Int) := by omega
   have hbw : IntKind.i64.wrap ((b : Int) + 20) = ((b + 20 : Nat) : Int) := by rw [show (b : Int) + 20 = ((b + 20 : Nat) : Int) by omega]; exact IntWalk.i64_in _ (by omega)
   have Hst := Lib.hid (Hi.out L a b hL (by omega) hbn wo hf hr)
   have HL := Lib.hid hL; have Ha := Lib.hid ha; have Hb := Lib.hid (show 20 * t + 20 = b by omega)
   clear hf hr hL ha hb
   go_wp2_with fail
   refine Hst.out.mono ?_
   clear Hst
   rintro e w1 ⟨rfl, hf1, P, X, R, M, hX, hPl, hXl, hM, hr1⟩
   have Hf1 := Lib.hid hf1; have Hr1 := Lib.hid hr1; have HX := Lib.hid hX; have HM := Lib.hid hM; have Hl := Lib.hid (And.intro hPl hXl)
   clear hf1 hr1 hX hM hPl hXl
   go_wp2_with fail
   go_roundw
   case rel =>
    have hM := HM.out
    have hXM : X.length = M.length := hM.1.perm.length_eq.symm
    have hX := HX.out
    have hl := Hl.out
    have hab := Ha.out
    have hbb := Hb.out
    refine ⟨b, b + 20, t + 1, P ++ M ++ R, rfl, rfl, Lib.hid ⟨by omega, rfl, hbn⟩, ?_, Lib.hid (HFE.out.trans ?_), Lib.hid fun i hi => ?_, Hf1.out, Hr1.out⟩
    ·have := HL.out
     rw [hX] at this
     simp only [List.length_append] at this ⊢
     omega
    ·rw [hX]
     exact ((Rk.FE.refl k P).append hM.1).append (Rk.FE.refl k R)
    ·by_cases e : i = t
     ·subst e
      have := Rk.inUp_of (P := P) (R := R) hM.2
      rwa [← hXM, hl.2, hl.1, ← hab, ← hbb] at this
     ·have h1 := HB.out i (by omega)
      rw [hX] at h1
      exact h1.keep hXM (.inl (by omega))
   case measure => simp [intOf]; omega
  ·have hbi : ¬ (b : Int) ≤ (n : Int) := by omega
   have Hst := Lib.hid (Hi.out L a n hL (by omega) (Nat.le_refl _) wo hf hr)
   have HL := Lib.hid hL; have Ha := Lib.hid ha; have Hb := Lib.hid (show 20 * t + 20 = b by omega)
   clear hf hr hL ha hb
   go_wp2_with fail
   refine Hst.out.mono ?_
   clear Hst
   rintro e w1 ⟨rfl, hf1, P, X, R, M, hX, hPl, hXl, hM, hr1⟩
   have hXM : X.length = M.length := hM.1.perm.length_eq.symm
   have h1 : Hid (∀ i, Rk.InUp k (P ++ M ++ R) (20 * i) (min (20 * i + 20) n)) := Lib.hid fun i => by
    have hab := Ha.out
    have hbb := Hb.out
    by_cases e : i = t
    ·subst e
     have := Rk.inUp_of (P := P) (R := R) hM.2
     rw [← hXM, hXl, hPl, ← hab] at this
     rwa [show min (20 * i + 20) n = n by omega]
    ·by_cases e2 : i < t
     ·have h1 := HB.out i e2
      rw [hX] at h1
      have h2 := h1.keep hXM (.inl (by omega))
      rwa [show min (20 * i + 20) n = 20 * i + 20 by omega]
     ·intro x y h1 h2 h3
      omega
   have h2 : Hid (Rk.FE k l (P ++ M ++ R)) := Lib.hid (HFE.out.trans (by rw [hX]; exact ((Rk.FE.refl k P).append hM.1).append (Rk.FE.refl k R)))
   have h3 : (P ++ M ++ R).length = n := by
    have := HL.out
    rw [hX] at this
    simp only [List.length_append] at this ⊢
    omega
   obtain ⟨L1, hL1⟩ : ∃ L1, P ++ M ++ R = L1 := ⟨_, rfl⟩
   rw [hL1] at h1 h2 h3 hr1
   have Hf1 := Lib.hid hf1; have Hr1 := Lib.hid hr1; have Hl1 := Lib.hid h3
   clear hf1 hr1 hX hM hPl hXl h3 hL1 hXM HL HB HFE
   go_wp2_with fail
   go_loopw [6] (fun sv wr => ∃ (s : Nat) (L : List Int), sv = .int .i64 (s : Int) ∧ 20 ≤ s ∧ s ≤ 2000000 ∧ L.length = n ∧ Hid (Rk.FE k l L) ∧ Hid (∀ i, Rk.InUp k L (s * i) (min (s * i + s) n)) ∧ w0.grownBy wr (some g) ∧ RowI g L wr) (fun sv _ => 4000000 - (intOf sv).toNat)
   case atStart => exact ⟨20, L1, rfl, by omega, by omega, Hl1.out, h2, h1, Hf1.out, Hr1.out⟩
   case round =>
    clear h1 h2 Hf1 Hr1 Hl1 hbn hbi
    obtain ⟨s, L, rfl, hs20, hs2, hL, HFE, HB, hf, hr⟩ := hrel
    obtain ⟨wo, rfl⟩ : ∃ W, W = wr := ⟨_, rfl⟩
    by_cases hsn : s < n
    ·have hsi : (s : Int) < (n : Int) := by omega
     have hsw : IntKind.i64.wrap (2 * (s : Int)) = ((2 * s : Nat) : Int) := by rw [show 2 * (s : Int) = ((2 * s : Nat) : Int) by omega]; exact IntWalk.i64_in _ (by omega)
     have hsw2 : IntKind.i64.wrap ((s : Int) * 2) = ((2 * s : Nat) : Int) := by rw [show (s : Int) * 2 = ((2 * s : Nat) : Int) by omega]; exact IntWalk.i64_in _ (by omega)
     have Hf2 := Lib.hid hf; have Hr2 := Lib.hid hr; have HL := Lib.hid hL
     clear hf hr hL
     go_wp2_with fail
     go_loopw [7, 8] (fun av bv wr => ∃ (a b t : Nat) (L : List Int), av = .int .i64 (a : Int) ∧ bv = .int .i64 (b : Int) ∧ Hid (a = 2 * s * t ∧ a ≤ n ∧ b = a + 2 * s) ∧ L.length = n ∧ Hid (Rk.FE k l L) ∧ Hid (∀ i, i < t → Rk.InUp k L (2 * s * i) (2 * s * i + 2 * s)) ∧ Hid (∀ i, 2 * t ≤ i → Rk.InUp k L (s * i) (min (s * i + s) n)) ∧ w0.grownBy wr (some g) ∧ RowI g L wr) (fun _ bv _ => 5000000 - (intOf bv).toNat)
     case atStart => exact ⟨0, 2 * s, 0, L, rfl, rfl, Lib.hid ⟨by simp, Nat.zero_le _, by omega⟩, HL.out, HFE, Lib.hid fun i h => absurd h (Nat.not_lt_zero _), Lib.hid fun i _ => HB.out i, Hf2.out, Hr2.out⟩
     case round =>
      clear Hf2 Hr2 HFE HB HL
      obtain ⟨a, b, t, L, rfl, rfl, Hab, hL, HFE, HB1, HB2, hf, hr⟩ := hrel
      obtain ⟨wi, rfl⟩ : ∃ W, W = wr := ⟨_, rfl⟩
      have hab := Hab.out
      have e1 : s * (2 * t) = a := by rw [hab.1, ← Nat.mul_assoc, Nat.mul_comm s 2]
      have hI1 : Rk.InUp k L a (min (a + s) n) := by have := HB2.out (2 * t) (Nat.le_refl _); rwa [e1] at this
      have hI2 : Rk.InUp k L (a + s) (min (a + s + s) n) := by
       have := HB2.out (2 * t + 1) (by omega)
       rwa [show s * (2 * t + 1) = a + s by rw [Nat.mul_add, e1, Nat.mul_one]] at this
      have hasw : IntKind.i64.wrap ((a : Int) + (s : Int)) = ((a + s : Nat) : Int) := by rw [show (a : Int) + (s : Int) = ((a + s : Nat) : Int) by omega]; exact IntWalk.i64_in _ (by omega)
      by_cases hbn : b ≤ n
      ·have hbi : (b : Int) ≤ (n : Int) := by omega
       have hbw : IntKind.i64.wrap ((b : Int) + ((2 * s : Nat) : Int)) = ((b + 2 * s : Nat) : Int) := by rw [show (b : Int) + ((2 * s : Nat) : Int) = ((b + 2 * s : Nat) : Int) by omega]; exact IntWalk.i64_in _ (by omega)
       have Hst := Lib.hid (Hs.out L a (a + s) b hL (by omega) (by omega) hbn (by rw [show a + s = min (a + s) n by omega]; exact hI1) (by rw [show b = min (a + s + s) n by omega]; exact hI2) wi hf hr)
       have HL := Lib.hid hL
       have hbb : b < 5000000 := by omega
       clear hf hr hL hab e1 hI1 hI2
       go_wp2_with fail
       refine Hst.out.mono ?_
       clear Hst
       rintro e w1 ⟨rfl, hf1, P, X, R, M, hX, hPl, hXl, hM, hr1⟩
       have Hf1 := Lib.hid hf1; have Hr1 := Lib.hid hr1; have HX := Lib.hid hX; have HM := Lib.hid hM; have Hl := Lib.hid (And.intro hPl hXl)
       clear hf1 hr1 hX hM hPl hXl
       go_wp2_with fail
       go_roundw
       case rel =>
        have hM := HM.out
        have hXM : X.length = M.length := hM.1.perm.length_eq.symm
        have hX := HX.out
        have hl := Hl.out
        have hab := Hab.out
        have e2 : 2 * s * (t + 1) = b := by rw [Nat.mul_add, ← hab.1, Nat.mul_one]; omega
        refine ⟨b, b + 2 * s, t + 1, P ++ M ++ R, rfl, rfl, Lib.hid ⟨e2.symm, hbn, rfl⟩, ?_, Lib.hid (HFE.out.trans ?_), Lib.hid fun i hi => ?_, Lib.hid fun i hi => ?_, Hf1.out, Hr1.out⟩
        ·have := HL.out
         rw [hX] at this
         simp only [List.length_append] at this ⊢
         omega
        ·rw [hX]
         exact ((Rk.FE.refl k P).append hM.1).append (Rk.FE.refl k R)
        ·by_cases e : i = t
         ·subst e
          have := Rk.inUp_of (P := P) (R := R) hM.2
          rw [← hXM, hl.2, hl.1] at this
          rwa [← hab.1, ← hab.2.2]
         ·have h1 := HB1.out i (by omega)
          rw [hX] at h1
          refine h1.keep hXM (.inl ?_)
          have h2 : 2 * s * (i + 1) ≤ 2 * s * t := Nat.mul_le_mul_left _ (by omega)
          rw [Nat.mul_add, Nat.mul_one, ← hab.1] at h2
          omega
        ·have h1 := HB2.out i (by omega)
         rw [hX] at h1
         refine h1.keep hXM (.inr ?_)
         have h2 : s * (2 * (t + 1)) ≤ s * i := Nat.mul_le_mul_left _ hi
         rw [← Nat.mul_assoc, Nat.mul_comm s 2, e2] at h2
         omega
       case measure => simp [intOf]; omega
      ·have hbi : ¬ (b : Int) ≤ (n : Int) := by omega
       by_cases hmn : a + s < n
       ·have hmi : ((a + s : Nat) : Int) < (n : Int) := by omega
        have Hst := Lib.hid (Hs.out L a (a + s) n hL (by omega) hmn (Nat.le_refl _) (by rw [show min (a + s) n = a + s by omega] at hI1; exact hI1) (by rw [show min (a + s + s) n = n by omega] at hI2; exact hI2) wi hf hr)
        have HL := Lib.hid hL
        clear hf hr hL hab e1 hI1 hI2
        go_wp2_with fail
        refine Hst.out.mono ?_
        clear Hst
        rintro e w1 ⟨rfl, hf1, P, X, R, M, hX, hPl, hXl, hM, hr1⟩
        have Hf1 := Lib.hid hf1; have Hr1 := Lib.hid hr1; have HX := Lib.hid hX; have HM := Lib.hid hM; have Hl := Lib.hid (And.intro hPl hXl)
        clear hf1 hr1 hX hM hPl hXl
        go_wp2_with fail
        go_roundw
        case rel =>
         have hM := HM.out
         have hXM : X.length = M.length := hM.1.perm.length_eq.symm
         have hX := HX.out
         have hl := Hl.out
         have hab := Hab.out
         refine ⟨2 * s, P ++ M ++ R, rfl, by omega, by omega, ?_, Lib.hid (HFE.out.trans ?_), Lib.hid fun i => ?_, Hf1.out, Hr1.out⟩
         ·have := HL.out
          rw [hX] at this
          simp only [List.length_append] at this ⊢
          omega
         ·rw [hX]
          exact ((Rk.FE.refl k P).append hM.1).append (Rk.FE.refl k R)
         ·by_cases e : i = t
          ·subst e
           have := Rk.inUp_of (P := P) (R := R) hM.2
           rw [← hXM, hl.2, hl.1] at this
           rwa [← hab.1, show min (a + 2 * s) n = n by omega]
          ·by_cases e2 : i < t
           ·have h1 := HB1.out i e2
            rw [hX] at h1
            have h2 : 2 * s * (i + 1) ≤ 2 * s * t := Nat.mul_le_mul_left _ (by omega)
            rw [Nat.mul_add, Nat.mul_one, ← hab.1] at h2
            have h3 := h1.keep hXM (.inl (by omega))
            rwa [show min (2 * s * i + 2 * s) n = 2 * s * i + 2 * s by omega]
           ·intro x y h1 h2 h3
            have h4 : 2 * s * (t + 1) ≤ 2 * s * i := Nat.mul_le_mul_left _ (by omega)
            rw [Nat.mul_add, Nat.mul_one, ← hab.1] at h4
            omega
        case measure => simp [intOf]; omega
       ·have hmi : ¬ ((a + s : Nat) : Int) < (n : Int) := by omega
        have HL := Lib.hid hL; have Hf1 := Lib.hid hf; have Hr1 := Lib.hid hr; have HI1 := Lib.hid hI1
        clear hf hr hL hab e1 hI1 hI2
        go_wp2_with fail
        go_roundw
        case rel =>
         have hab := Hab.out
         refine ⟨2 * s, L, rfl, by omega, by omega, HL.out, HFE, Lib.hid fun i => ?_, Hf1.out, Hr1.out⟩
         by_cases e : i = t
         ·subst e
          have := HI1.out
          rw [← hab.1, show min (a + 2 * s) n = min (a + s) n by omega]
          exact this
         ·by_cases e2 : i < t
          ·have h1 := HB1.out i e2
           have h2 : 2 * s * (i + 1) ≤ 2 * s * t := Nat.mul_le_mul_left _ (by omega)
           rw [Nat.mul_add, Nat.mul_one, ← hab.1] at h2
           rwa [show min (2 * s * i + 2 * s) n = 2 * s * i + 2 * s by omega]
          ·intro x y h1 h2 h3
           have h4 : 2 * s * (t + 1) ≤ 2 * s * i := Nat.mul_le_mul_left _ (by omega)
           rw [Nat.mul_add, Nat.mul_one, ← hab.1] at h4
           omega
        case measure => simp [intOf]; omega
    ·have hsi : ¬ (s : Int) < (n : Int) := by omega
     have hup : Rk.Up k L := Rk.all_up hL (by have := HB.out 0; simp only [Nat.mul_zero, Nat.zero_add] at this; rwa [show min s n = n by omega] at this)
     have Hup := Lib.hid hup; have Hf2 := Lib.hid hf; have Hr2 := Lib.hid hr
     clear hup hf hr
     go_wp2_with fail
     exact bodyPost_end (results_none rfl _ _ _) rfl ⟨rfl, Hf2.out, L, ⟨HFE.out, Hup.out⟩, Hr2.out⟩
set_option maxRecDepth 100000 in
set_option maxHeartbeats 8000000 in
theorem sortAny_ok (L : List Int) (v : Value) (w : World) (B gx gl : Nat) (cf : Int → Int → Int) (k : Int → Int) (hk : ∀ i j, cf i j < 0 ↔ k i < k j) (hown : Own intC M0 w B 3 v L) (hln : L.length ≤ 400000) (hcmp : ∀ g, v.ownBlock = some g → CmpAt w g gx gl cf) :
  Calls Tryz.prog 25 #[v, .func (.func 26) #[] #[.pointer (some ⟨gx, 0, none⟩), .pointer (some ⟨gl, 0, none⟩)]] w fun e w' => e = .returned (.tuple #[]) ∧ w.grownBy w' v.ownBlock ∧ SlR intC M0 w' v (Rk.sinkF cf L) := by
 rcases hown.form with ⟨rfl, rfl⟩ | ⟨g, c, rfl, _, _, _, hg⟩
 ·exact sortFew_ok [] _ w B gx gl cf hown (by simp) hcmp
 ·have Hs := Lib.hid (stable_ok w g c gx gl cf k hk (hcmp g rfl) L L.length rfl hln w ⟨rfl, rfl, rfl, Nat.le_refl _, fun _ _ _ => rfl⟩ (RowI.own hown))
  have Hown := Lib.hid hown
  obtain ⟨n, hn⟩ : ∃ n, L.length = n := ⟨_, rfl⟩
  rw [hn] at Hs Hown ⊢
  have Hk := Lib.hid hk
  clear hcmp hown hn hk
  go_enter Tryz.func25, Tryz.ntmps25
  go_wp2_with fail
  refine Hs.out.mono ?_
  rintro e w1 ⟨rfl, hg1, M, hM, hr1⟩
  obtain rfl : M = Rk.sinkF cf L := hM.uniq (Rk.sinkF_ss cf k Hk.out L)
  have Hg1 := Lib.hid hg1; have Hr1 := Lib.hid hr1
  clear hg1 hr1 hM
  go_wp2_with fail
  exact bodyPost_end (results_none rfl _ _ _) rfl ⟨rfl, Hg1.out, RowI.read Hown.out Hr1.out (Rk.sinkF_perm cf L)⟩
theorem sortsAny (cf : Int → Int → Int) (k : Int → Int) (hk : ∀ i j, cf i j < 0 ↔ k i < k j) (L : List Int) (h : L.length ≤ 400000) : SortsL cf L := fun v w B gx gl ho hc => sortAny_ok L v w B gx gl cf k hk ho h hc
end Go.Proofs.YtnlhocbaighedaaGreatDoor

/-
  slices.swapRangeCmpFunc and rotateCmpFunc on ints.
-/
import Derived.Test.YtnlhocbaighedaaGreatDoorS1
import Derived.BigRegion
namespace Go.Proofs.YtnlhocbaighedaaGreatDoor
open Go.RowKit
set_option linter.unusedVariables false
namespace Rk
/-- elements p and q change places -/
def swp (l : List Int) (p q : Nat) : List Int := (l.set p (l.getD q 0)).set q (l.getD p 0)
theorem swp_mid (A : List Int) (x : Int) (C : List Int) (y : Int) (D : List Int) : swp (A ++ x :: C ++ y :: D) A.length (A.length + 1 + C.length) = A ++ y :: C ++ x :: D := by
 have h1 : (A ++ x :: C ++ y :: D).getD A.length 0 = x := by simp [List.getD_eq_getElem?_getD]
 have e : A ++ x :: C ++ y :: D = (A ++ x :: C) ++ y :: D := rfl
 have hl : (A ++ x :: C).length = A.length + 1 + C.length := by simp; omega
 have h2 : (A ++ x :: C ++ y :: D).getD (A.length + 1 + C.length) 0 = y := by
  rw [← hl, getD_mid]
 unfold swp
 rw [h1, h2]
 have s1 : (A ++ x :: C ++ y :: D).set A.length y = (A ++ y :: C) ++ y :: D := by
  rw [List.append_assoc, List.set_append_right _ _ (Nat.le_refl _)]
  simp
 rw [s1]
 have hl2 : (A ++ y :: C).length = A.length + 1 + C.length := by simp; omega
 rw [← hl2, List.set_append_right _ _ (Nat.le_refl _)]
 simp
end Rk
theorem RowI.swp {g : Nat} {l : List Int} {w : World} (h : RowI g l w) (p q : Nat) : RowI g (Rk.swp l p q) ((w.setCell ⟨g, p, none⟩ (.int .i64 (l.getD q 0))).setCell ⟨g, q, none⟩ (.int .i64 (l.getD p 0))) :=
 (h.set_ p _).set_ q _
set_option maxRecDepth 100000 in
set_option maxHeartbeats 8000000 in
theorem swapRange_ok (w0 : World) (g c N : Nat) (f : Value) (P X Q Y R : List Int) (hXY : X.length = Y.length) (hN : (P ++ X ++ Q ++ Y ++ R).length = N) (hln : N ≤ 1000000) (a b n : Nat) (ha : P.length = a) (hb : a + X.length + Q.length = b) (hn : X.length = n) (w : World) (hf : w0.grownBy w (some g)) (hr : RowI g (P ++ X ++ Q ++ Y ++ R) w) :
  Calls Tryz.prog 137 #[.slice (some ⟨g, 0, none⟩) N c, .int .i64 a, .int .i64 b, .int .i64 n, f] w fun e w' => e = .returned (.tuple #[]) ∧ w0.grownBy w' (some g) ∧ RowI g (P ++ Y ++ Q ++ X ++ R) w' := by
 have hbN : b + n ≤ N := by
  rw [← hN, ← hb, ← ha, ← hn]
  simp only [List.length_append]
  omega
 have haN : a + n ≤ b := by omega
 have Hf := Lib.hid hf; have Hr := Lib.hid hr; have HN := Lib.hid hN; have HX := Lib.hid (And.intro hXY (And.intro ha (And.intro hb hn)))
 obtain ⟨F, hF⟩ : ∃ F, P ++ Y ++ Q ++ X ++ R = F := ⟨_, rfl⟩
 rw [hF]
 have HF := Lib.hid hF
 clear hf hr hN hXY ha hb hn hF
 go_enter Tryz.func137, Tryz.ntmps137
 go_wp2_with fail
 go_loopw [10] (fun iv wr => ∃ (i : Nat) (X1 X2 Y1 Y2 : List Int), iv = .int .i64 (i : Int) ∧ i ≤ n ∧ X1.length = i ∧ Y1.length = i ∧ X = X1 ++ X2 ∧ Y = Y1 ++ Y2 ∧ w0.grownBy wr (some g) ∧ RowI g (P ++ Y1 ++ X2 ++ Q ++ X1 ++ Y2 ++ R) wr) (fun iv _ => n - (intOf iv).toNat)
 case atStart => exact ⟨0, [], X, [], Y, rfl, Nat.zero_le _, rfl, rfl, rfl, rfl, Hf.out, by simpa using Hr.out⟩
 case round =>
  obtain ⟨i, X1, X2, Y1, Y2, rfl, hi, hx1, hy1, hX, hY, hf, hr⟩ := hrel
  obtain ⟨wo, rfl⟩ : ∃ W, W = wr := ⟨_, rfl⟩
  obtain ⟨hXY, ha, hb, hn⟩ := HX.out
  by_cases hlt : i < n
  ·have hxl : X2.length = n - i := by rw [hX, List.length_append] at hn; omega
   have hyl : Y2.length = n - i := by rw [hX, hY] at hXY; simp only [List.length_append] at hXY; omega
   cases X2 with
   | nil => simp at hxl; omega
   | cons x X3 =>
   cases Y2 with
   | nil => simp at hyl; omega
   | cons y Y3 =>
   rw [List.length_cons] at hxl hyl
   have e1 : P ++ Y1 ++ (x :: X3) ++ Q ++ X1 ++ (y :: Y3) ++ R = (P ++ Y1) ++ x :: (X3 ++ Q ++ X1) ++ y :: (Y3 ++ R) := by simp
   have hA : (P ++ Y1).length = a + i := by simp [ha, hy1]
   have hB : (P ++ Y1).length + 1 + (X3 ++ Q ++ X1).length = b + i := by
    rw [hA]
    simp only [List.length_append]
    omega
   have hsw := Rk.swp_mid (P ++ Y1) x (X3 ++ Q ++ X1) y (Y3 ++ R)
   have hr2 := hr
   rw [e1] at hr2
   have hL : ((P ++ Y1) ++ x :: (X3 ++ Q ++ X1) ++ y :: (Y3 ++ R)).length = N := by
    rw [← HN.out, hX, hY]
    simp only [List.length_append, List.length_cons]
    omega
   have hg1 : ((P ++ Y1) ++ x :: (X3 ++ Q ++ X1) ++ y :: (Y3 ++ R)).getD (a + i) 0 = x := by rw [← hA]; simp [List.getD_eq_getElem?_getD]
   have hg2 : ((P ++ Y1) ++ x :: (X3 ++ Q ++ X1) ++ y :: (Y3 ++ R)).getD (b + i) 0 = y := by
    have hl : ((P ++ Y1) ++ x :: (X3 ++ Q ++ X1)).length = b + i := by rw [← hB]; simp only [List.length_append, List.length_cons]; omega
    rw [← hl, Rk.getD_mid]
   rw [hA, show a + i + 1 + (X3 ++ Q ++ X1).length = b + i by rw [← hA]; exact hB] at hsw
   obtain ⟨l2, hl2⟩ : ∃ l2, (P ++ Y1) ++ x :: (X3 ++ Q ++ X1) ++ y :: (Y3 ++ R) = l2 := ⟨_, rfl⟩
   rw [hl2] at hr2 hL hg1 hg2 hsw
   obtain ⟨c1, f1⟩ := hr2.at_ (j := a + i) (by omega)
   obtain ⟨c2, f2⟩ := hr2.at_ (j := b + i) (by omega)
   rw [hg1] at c1; rw [hg2] at c2
   have hswr := hr2.swp (a + i) (b + i)
   rw [hsw, hg1, hg2] at hswr
   have hne : a + i ≠ b + i := by omega
   obtain ⟨p, hp⟩ : ∃ p, a + i = p := ⟨_, rfl⟩
   obtain ⟨q, hq⟩ : ∃ q, b + i = q := ⟨_, rfl⟩
   rw [hp] at c1 f1 hswr hne; rw [hq] at c2 f2 hswr hne
   have hii : (i : Int) < (n : Int) := by omega
   have hw1 : IntKind.i64.wrap ((a : Int) + (i : Int)) = (p : Int) := by rw [show (a : Int) + (i : Int) = (p : Int) by omega]; exact IntWalk.i64_in _ (by omega)
   have hw2 : IntKind.i64.wrap ((b : Int) + (i : Int)) = (q : Int) := by rw [show (b : Int) + (i : Int) = (q : Int) by omega]; exact IntWalk.i64_in _ (by omega)
   have hp0 : (0 : Int) ≤ (p : Int) := by omega
   have hp1 : (p : Int) < (N : Int) := by omega
   have hq0 : (0 : Int) ≤ (q : Int) := by omega
   have hq1 : (q : Int) < (N : Int) := by omega
   have Hsw := Lib.hid hswr; have Hf2 := Lib.hid hf; have HXY2 := Lib.hid (And.intro hX (And.intro hY (And.intro hx1 hy1)))
   clear hr hr2 hf hswr hsw hg1 hg2 hL hl2 e1 hA hB hX hY hx1 hy1 hXY ha hb hn hxl hyl hp hq
   go_wp2_with fail
   go_region
   obtain ⟨V, hV⟩ : ∃ V, (wo.setCell ⟨g, p, none⟩ (.int .i64 y)).setCell ⟨g, q, none⟩ (.int .i64 x) = V := ⟨_, rfl⟩
   have hswV := Hsw.out
   rw [hV] at hswV ⊢
   have hfV : w0.grownBy V (some g) := by rw [← hV]; exact grownBy_set (grownBy_set Hf2.out _ _) _ _
   have HswV := Lib.hid hswV; have HfV := Lib.hid hfV
   clear hswV hfV hV Hsw
   go_wp2_with fail
   go_roundw
   case rel =>
    obtain ⟨hX, hY, hx1, hy1⟩ := HXY2.out
    refine ⟨i + 1, X1 ++ [x], X3, Y1 ++ [y], Y3, by go_num, by omega, by simp [hx1], by simp [hy1], by rw [hX]; simp, by rw [hY]; simp, grownBy_below HfV.out (Below.refl _ _).drew, ?_⟩
    have := HswV.out.ext (Below.refl _ _).drew
    simpa using this
   case measure => simp [intOf]; omega
  ·have hii : ¬ (i : Int) < (n : Int) := by omega
   have hYn : Y.length = n := by omega
   have hx2 : X2 = [] := List.eq_nil_of_length_eq_zero (by rw [hX, List.length_append] at hn; omega)
   have hy2 : Y2 = [] := List.eq_nil_of_length_eq_zero (by rw [hY, List.length_append] at hYn; omega)
   have hr2 : RowI g F wo := by
    rw [← HF.out, hX, hY, hx2, hy2]
    rw [hx2, hy2] at hr
    simpa using hr
   have Hf2 := Lib.hid hf; have Hr2 := Lib.hid hr2
   clear hf hr hr2 hXY ha hb hn hX hY hx1 hy1 hx2 hy2
   go_wp2_with fail
   exact bodyPost_end (results_none rfl _ _ _) rfl ⟨rfl, Hf2.out, Hr2.out⟩
end Go.Proofs.YtnlhocbaighedaaGreatDoor

/-
  Contracts and plain facts, one after another: slices.insertionSortCmpFunc on ints: what it leaves of a row; Insertion sort, plain: what sinking does to a list; slices.SortStableFunc on few ints.
-/
import Derived.Test.YtnlhocbaighedaaGreatDoorR6
namespace Go.Proofs.YtnlhocbaighedaaGreatDoor
open Go.RowKit
set_option linter.unusedVariables false
namespace Rk
/-- elements j and j + 1 change places -/
def swapL (l : List Int) (j : Nat) : List Int := (l.set (j + 1) (l.getD j 0)).set j (l.getD (j + 1) 0)
theorem swapL_len (l : List Int) (j : Nat) : (swapL l j).length = l.length := by simp [swapL]
/-- element j sinks down to a, at most -/
def insIn (cf : Int → Int → Int) (a : Nat) : Nat → List Int → List Int
 | 0, l => l
 | j + 1, l => if a < j + 1 ∧ cf (l.getD (j + 1) 0) (l.getD j 0) < 0 then insIn cf a j (swapL l j) else l
/-- elements i, i + 1 .. sink, n of them -/
def insOut (cf : Int → Int → Int) (a : Nat) : Nat → Nat → List Int → List Int
 | _, 0, l => l
 | i, n + 1, l => insOut cf a (i + 1) n (insIn cf a i l)
end Rk
/-- the row of a slice of ints -/
def RowI (g : Nat) (l : List Int) (w : World) : Prop := ∃ cur, Blk w g 3 cur ∧ ∀ (j : Nat) (h : j < l.length), cur[j]? = some (.int .i64 l[j])
theorem RowI.ext {g : Nat} {l : List Int} {w w' : World} (h : RowI g l w) (hb : Below w.heap.size w w') : RowI g l w' := by
 obtain ⟨cur, k, hc⟩ := h
 exact ⟨cur, k.ext hb, hc⟩
theorem RowI.at_ {g : Nat} {l : List Int} {w : World} (h : RowI g l w) {j : Nat} (hj : j < l.length) : w.cell? ⟨g, j, none⟩ = some (.int .i64 (l.getD j 0)) ∧ w.frozen? ⟨g, j, none⟩ = false := by
 obtain ⟨cur, k, hc⟩ := h
 have h1 := hc j hj
 refine ⟨?_, k.frozen j⟩
 have h2 : w.cell? ⟨g, j, none⟩ = cur[j]? := by unfold Blk at k; simp [World.cell?, k]
 rw [h2, h1, List.getD_eq_getElem?_getD, List.getElem?_eq_getElem hj]
 rfl
theorem RowI.lt {g : Nat} {l : List Int} {w : World} (h : RowI g l w) : g < w.heap.size := by
 obtain ⟨cur, k, _⟩ := h
 exact k.lt
theorem RowI.set_ {g : Nat} {l : List Int} {w : World} (h : RowI g l w) (j : Nat) (x : Int) : RowI g (l.set j x) (w.setCell ⟨g, j, none⟩ (.int .i64 x)) := by
 obtain ⟨cur, k, hc⟩ := h
 refine ⟨_, k.set_ j (.int .i64 x), fun i hi => ?_⟩
 rw [List.length_set] at hi
 have h1 := hc i hi
 have hi2 : i < cur.size := by
  rcases Nat.lt_or_ge i cur.size with h | h
  ·exact h
  ·rw [Array.getElem?_eq_none h] at h1; cases h1
 rw [Array.getElem?_setIfInBounds]
 by_cases e : j = i
 ·subst e
  rw [if_pos rfl, if_pos hi2]
  simp
 ·rw [if_neg e, h1, List.getElem_set_ne e]
theorem RowI.swap {g : Nat} {l : List Int} {w : World} (h : RowI g l w) (j : Nat) : RowI g (Rk.swapL l j) ((w.setCell ⟨g, j + 1, none⟩ (.int .i64 (l.getD j 0))).setCell ⟨g, j, none⟩ (.int .i64 (l.getD (j + 1) 0))) :=
 (h.set_ (j + 1) _).set_ j _
theorem grownBy_set {w0 w : World} {g : Nat} (h : w0.grownBy w (some g)) (j : Nat) (v : Value) : w0.grownBy (w.setCell ⟨g, j, none⟩ v) (some g) := by
 refine ⟨h.os, h.tape, h.output, by simpa using h.size, fun k hk hne => ?_⟩
 rw [Below.heap_setCell _ _ _ _ (show k ≠ g from fun e => hne (by rw [e])), h.block k hk hne]
theorem grownBy_below {w0 w w' : World} {g : Nat} (h : w0.grownBy w (some g)) (hb : Below w.heap.size w w') : w0.grownBy w' (some g) :=
 ⟨hb.os.trans h.os, hb.tape.trans h.tape, hb.output.trans h.output, Nat.le_trans h.size hb.size, fun k hk hne => (hb.block k (Nat.lt_of_lt_of_le hk h.size)).trans (h.block k hk hne)⟩
/-- what a comparison by a closure answers, wherever nothing but the row has turned -/
def CmpAt (w0 : World) (g : Nat) (gx gl : Nat) (cf : Int → Int → Int) : Prop :=
 ∀ V x y, w0.grownBy V (some g) → Calls Tryz.prog 26 #[.int .i64 x, .int .i64 y, .pointer (some ⟨gx, 0, none⟩), .pointer (some ⟨gl, 0, none⟩)] V fun e w' => e = .returned (.int .i64 (cf x y)) ∧ Below V.heap.size V w'
set_option maxRecDepth 100000 in
set_option maxHeartbeats 8000000 in
theorem insCmp_ok (w0 : World) (g c gx gl : Nat) (cf : Int → Int → Int) (hcmp : CmpAt w0 g gx gl cf) (a b : Nat) (l : List Int) (hab : a ≤ b) (hbl : b ≤ l.length) (hln : l.length ≤ 1000000) (w : World) (hf : w0.grownBy w (some g)) (hr : RowI g l w) :
  Calls Tryz.prog 70 #[.slice (some ⟨g, 0, none⟩) l.length c, .int .i64 a, .int .i64 b, .func (.func 26) #[] #[.pointer (some ⟨gx, 0, none⟩), .pointer (some ⟨gl, 0, none⟩)]] w fun e w' => e = .returned (.tuple #[]) ∧ w0.grownBy w' (some g) ∧ RowI g (Rk.insOut cf a (a + 1) (b - (a + 1)) l) w' := by
 obtain ⟨n, hn⟩ : ∃ n, l.length = n := ⟨_, rfl⟩
 rw [hn] at hbl hln ⊢
 have hwa : IntKind.i64.wrap ((a : Int) + 1) = ((a + 1 : Nat) : Int) := by rw [show (a : Int) + 1 = ((a + 1 : Nat) : Int) by omega]; exact IntWalk.i64_in _ (by omega)
 obtain ⟨F, hF⟩ : ∃ F, Rk.insOut cf a (a + 1) (b - (a + 1)) l = F := ⟨_, rfl⟩
 rw [hF]
 have eg : ∀ args w, (callFunc 26 args).run Tryz.prog w = .ok (.enter 26 args) w := enters_of Tryz.func26 (by kernel_rfl) rfl
 have Hc := Lib.hid hcmp; have Hf := Lib.hid hf; have Hr := Lib.hid hr; have HF := Lib.hid hF; have Hn := Lib.hid hn
 clear hcmp hf hr hF hn
 go_enter Tryz.func70, Tryz.ntmps70
 go_wp2_with fail
 clear hwa
 go_loopw [8] (fun iv wr => ∃ (i : Nat) (l' : List Int), iv = .int .i64 (i : Int) ∧ a + 1 ≤ i ∧ (i ≤ b ∨ i = a + 1) ∧ l'.length = n ∧ Hid (Rk.insOut cf a i (b - i) l' = F) ∧ w0.grownBy wr (some g) ∧ RowI g l' wr) (fun iv _ => b - (intOf iv).toNat)
 case atStart => exact ⟨a + 1, l, rfl, Nat.le_refl _, .inr rfl, Hn.out, HF, Hf.out, Hr.out⟩
 case round =>
  obtain ⟨i, l', rfl, hi1, hi2, hl', HF', hf', hr'⟩ := hrel
  obtain ⟨wo, rfl⟩ : ∃ W, W = wr := ⟨_, rfl⟩
  by_cases hib : i < b
  ·have hii : (i : Int) < (b : Int) := by omega
   have Hf' := Lib.hid hf'; have Hr' := Lib.hid hr'; have Hl' := Lib.hid hl'
   clear hf' hr' hl'
   go_wp2_with fail
   go_loopw [9] (fun jv wr => ∃ (j : Nat) (l2 : List Int), jv = .int .i64 (j : Int) ∧ a ≤ j ∧ j ≤ i ∧ l2.length = n ∧ Hid (Rk.insOut cf a (i + 1) (b - (i + 1)) (Rk.insIn cf a j l2) = F) ∧ w0.grownBy wr (some g) ∧ RowI g l2 wr) (fun jv _ => (intOf jv).toNat)
   case atStart =>
    refine ⟨i, l', rfl, by omega, Nat.le_refl _, Hl'.out, ?_, Hf'.out, Hr'.out⟩
    have := HF'.out
    rw [show b - i = (b - (i + 1)) + 1 by omega, Rk.insOut] at this
    exact Lib.hid this
   case round =>
    obtain ⟨j, l2, rfl, hj1, hj2, hl2, HF2, hf2, hr2⟩ := hrel
    obtain ⟨wi, rfl⟩ : ∃ W, W = wr := ⟨_, rfl⟩
    have Hf2 := Lib.hid hf2; have Hr2 := Lib.hid hr2; have Hl2 := Lib.hid hl2
    clear hl2
    by_cases hja : a < j
    ·obtain ⟨k, rfl⟩ : ∃ k, j = k + 1 := ⟨j - 1, by omega⟩
     have hg1 : (a : Int) < (k : Int) + 1 := by omega
     have hkw : IntKind.i64.wrap (k : Int) = (k : Int) := IntWalk.i64_in _ (by omega)
     have hk4 : (0 : Int) ≤ (k : Int) + 1 := by omega
     have hk5 : (k : Int) + 1 < (n : Int) := by omega
     have hk6 : (0 : Int) ≤ (k : Int) := by omega
     have hk7 : (k : Int) < (n : Int) := by omega
     have hk8 : ((k : Int) + 1).toNat = k + 1 := by omega
     obtain ⟨u, hu⟩ : ∃ u, l2.getD (k + 1) 0 = u := ⟨_, rfl⟩
     obtain ⟨v, hv⟩ : ∃ v, l2.getD k 0 = v := ⟨_, rfl⟩
     have hSS : ∀ W, Below wi.heap.size wi W → W.cell? ⟨g, k + 1, none⟩ = some (.int .i64 u) ∧ W.cell? ⟨g, k, none⟩ = some (.int .i64 v) := fun W hW => by
      have h1 := (hr2.ext hW).at_ (j := k + 1) (by rw [Hl2.out]; omega)
      have h2 := (hr2.ext hW).at_ (j := k) (by rw [Hl2.out]; omega)
      rw [hu] at h1; rw [hv] at h2
      exact ⟨h1.1, h2.1⟩
     have hcm := fun V (hV : Below wi.heap.size wi V) => Hc.out V u v (grownBy_below hf2 hV)
     have HS := Lib.hid hSS; have Hcm := Lib.hid hcm; have Hu := Lib.hid hu; have Hv := Lib.hid hv
     have hS := HS.out _ (below_drewN' wi.heap.size wi 1)
     clear hSS hcm hu hv hf2 hr2
     go_wp2_with fail
     refine wp_region_D (fun W => W.cell? ⟨g, k + 1, none⟩ = some (.int .i64 u) ∧ W.cell? ⟨g, k, none⟩ = some (.int .i64 v)) (fun _ => false) (by kernel_rfl) ?_
     change anyD _ _ _ _ _ _ _ _ _ (wi.drewN 1)
     have hbV := below_drewN' wi.heap.size wi 1
     generalize wi.drewN 1 = V0 at hS hbV ⊢
     have HBV := Lib.hid hbV
     (refine anyD_l5 (i := 0) (v := ?_) rfl (by kernel_rfl) (fun _ _ _ h => h) (.inl ⟨by kernel_rfl, fun W9 hW9 => ?_⟩) hS ?_; rotate_left; · (obtain ⟨hw0, hw1⟩ := hW9; go_simp; rfl))
     (refine anyD_l5 (i := 1) (v := ?_) rfl (by kernel_rfl) (fun _ _ _ h => h) (.inl ⟨by kernel_rfl, fun W9 hW9 => ?_⟩) hS ?_; rotate_left; · (obtain ⟨hw0, hw1⟩ := hW9; go_simp; rfl))
     (refine anyD_l5 (i := 2) (v := ?_) rfl (by kernel_rfl) (fun _ _ _ h => h) (.inl ⟨by kernel_rfl, fun W9 hW9 => ?_⟩) hS ?_; rotate_left; · (obtain ⟨hw0, hw1⟩ := hW9; go_simp; rfl))
     (refine anyD_l5 (i := 3) (v := ?_) rfl (by kernel_rfl) (fun _ _ _ h => h) (.inl ⟨by kernel_rfl, fun W9 hW9 => ?_⟩) hS ?_; rotate_left; · (obtain ⟨hw0, hw1⟩ := hW9; go_simp; rfl))
     first | (refine anyD_l5 (i := 4) (v := ?_) rfl (by kernel_rfl) (fun _ _ _ h => h) (.inl ⟨by kernel_rfl, fun W9 hW9 => ?_⟩) hS ?_; rotate_left; · (obtain ⟨hw0, hw1⟩ := hW9; go_simp; rfl)) | (refine anyD_l5 (i := 4) (v := undef) rfl (by kernel_rfl) (fun _ _ _ h => h) (.inr ⟨by kernel_rfl, rfl⟩) hS ?_)
     first | (refine anyD_l5 (i := 5) (v := ?_) rfl (by kernel_rfl) (fun _ _ _ h => h) (.inl ⟨by kernel_rfl, fun W9 hW9 => ?_⟩) hS ?_; rotate_left; · (obtain ⟨hw0, hw1⟩ := hW9; go_simp; rfl)) | (refine anyD_l5 (i := 5) (v := undef) rfl (by kernel_rfl) (fun _ _ _ h => h) (.inr ⟨by kernel_rfl, rfl⟩) hS ?_)
     go_simp
     first | (refine anyD_l5 (i := 6) (v := ?_) rfl (by kernel_rfl) (fun _ _ _ h => h) (.inl ⟨by kernel_rfl, fun W9 hW9 => ?_⟩) hS ?_; rotate_left; · (obtain ⟨hw0, hw1⟩ := hW9; go_simp; rfl)) | (refine anyD_l5 (i := 6) (v := undef) rfl (by kernel_rfl) (fun _ _ _ h => h) (.inr ⟨by kernel_rfl, rfl⟩) hS ?_)
     first | (refine anyD_l5 (i := 7) (v := ?_) rfl (by kernel_rfl) (fun _ _ _ h => h) (.inl ⟨by kernel_rfl, fun W9 hW9 => ?_⟩) hS ?_; rotate_left; · (obtain ⟨hw0, hw1⟩ := hW9; go_simp; rfl)) | (refine anyD_l5 (i := 7) (v := undef) rfl (by kernel_rfl) (fun _ _ _ h => h) (.inr ⟨by kernel_rfl, rfl⟩) hS ?_)
     first | (refine anyD_l5 (i := 8) (v := ?_) rfl (by kernel_rfl) (fun _ _ _ h => h) (.inl ⟨by kernel_rfl, fun W9 hW9 => ?_⟩) hS ?_; rotate_left; · (obtain ⟨hw0, hw1⟩ := hW9; go_simp; rfl)) | (refine anyD_l5 (i := 8) (v := undef) rfl (by kernel_rfl) (fun _ _ _ h => h) (.inr ⟨by kernel_rfl, rfl⟩) hS ?_)
     first | (refine anyD_l5 (i := 9) (v := ?_) rfl (by kernel_rfl) (fun _ _ _ h => h) (.inl ⟨by kernel_rfl, fun W9 hW9 => ?_⟩) hS ?_; rotate_left; · (obtain ⟨hw0, hw1⟩ := hW9; go_simp; rfl)) | (refine anyD_l5 (i := 9) (v := undef) rfl (by kernel_rfl) (fun _ _ _ h => h) (.inr ⟨by kernel_rfl, rfl⟩) hS ?_)
     first | (refine anyD_l5 (i := 10) (v := ?_) rfl (by kernel_rfl) (fun _ _ _ h => h) (.inl ⟨by kernel_rfl, fun W9 hW9 => ?_⟩) hS ?_; rotate_left; · (obtain ⟨hw0, hw1⟩ := hW9; go_simp; rfl)) | (refine anyD_l5 (i := 10) (v := undef) rfl (by kernel_rfl) (fun _ _ _ h => h) (.inr ⟨by kernel_rfl, rfl⟩) hS ?_)
     first | (refine anyD_l5 (i := 11) (v := ?_) rfl (by kernel_rfl) (fun _ _ _ h => h) (.inl ⟨by kernel_rfl, fun W9 hW9 => ?_⟩) hS ?_; rotate_left; · (obtain ⟨hw0, hw1⟩ := hW9; go_simp; rfl)) | (refine anyD_l5 (i := 11) (v := undef) rfl (by kernel_rfl) (fun _ _ _ h => h) (.inr ⟨by kernel_rfl, rfl⟩) hS ?_)
     go_simp
     first | (refine anyD_l5 (i := 12) (v := ?_) rfl (by kernel_rfl) (fun _ _ _ h => h) (.inl ⟨by kernel_rfl, fun W9 hW9 => ?_⟩) hS ?_; rotate_left; · (obtain ⟨hw0, hw1⟩ := hW9; go_simp; rfl)) | (refine anyD_l5 (i := 12) (v := undef) rfl (by kernel_rfl) (fun _ _ _ h => h) (.inr ⟨by kernel_rfl, rfl⟩) hS ?_)
     first | (refine anyD_l5 (i := 13) (v := ?_) rfl (by kernel_rfl) (fun _ _ _ h => h) (.inl ⟨by kernel_rfl, fun W9 hW9 => ?_⟩) hS ?_; rotate_left; · (obtain ⟨hw0, hw1⟩ := hW9; go_simp; rfl)) | (refine anyD_l5 (i := 13) (v := undef) rfl (by kernel_rfl) (fun _ _ _ h => h) (.inr ⟨by kernel_rfl, rfl⟩) hS ?_)
     go_simp
     refine anyD_oneG (i := 14) (by kernel_rfl) rfl rfl (fun K hK => ?_)
     have HK := Lib.hid hK
     clear hK
     unfold Oper.wp
     go_simp
     refine (Hcm.out _ (HBV.out)).mono ?_
     rintro e w5 ⟨rfl, hb5⟩
     have hb05 := HBV.out.trans (hb5.mono HBV.out.size)
     have hS := HS.out _ hb05
     refine HK.out _ _ (fun _ => hS) ?_
     clear HK
     first | (refine anyD_l5 (i := 15) (v := ?_) rfl (by kernel_rfl) (fun _ _ _ h => h) (.inl ⟨by kernel_rfl, fun W9 hW9 => ?_⟩) hS ?_; rotate_left; · (obtain ⟨hw0, hw1⟩ := hW9; go_simp; rfl)) | (refine anyD_l5 (i := 15) (v := undef) rfl (by kernel_rfl) (fun _ _ _ h => h) (.inr ⟨by kernel_rfl, rfl⟩) hS ?_)
     (refine anyD_l5 (i := 16) (v := ?_) rfl (by kernel_rfl) (fun _ _ _ h => h) (.inl ⟨by kernel_rfl, fun W9 hW9 => ?_⟩) hS ?_; rotate_left; · (obtain ⟨hw0, hw1⟩ := hW9; go_simp; rfl))
     go_simp
     refine anyD_done (by kernel_rfl) ?_ _
     have hf5 := grownBy_below Hf2.out hb05
     have hr5 := Hr2.out.ext hb05
     by_cases hlt : cf u v < 0
     ·have Hlt := Lib.hid hlt
      have hSS : ∀ W, Below w5.heap.size w5 W → W.cell? ⟨g, k + 1, none⟩ = some (.int .i64 u) ∧ W.cell? ⟨g, k, none⟩ = some (.int .i64 v) ∧ W.frozen? ⟨g, k + 1, none⟩ = false ∧ W.frozen? ⟨g, k, none⟩ = false := fun W hW => by
       have h1 := (hr5.ext hW).at_ (j := k + 1) (by rw [Hl2.out]; omega)
       have h2 := (hr5.ext hW).at_ (j := k) (by rw [Hl2.out]; omega)
       rw [Hu.out] at h1; rw [Hv.out] at h2
       exact ⟨h1.1, h2.1, h1.2, h2.2⟩
      obtain ⟨x0, x1, x2, x3⟩ := hSS w5 (Below.refl _ _)
      have Hf5 := Lib.hid hf5; have Hr5 := Lib.hid hr5
      clear hSS hf5 hr5 hb5 hb05 hbV hS
      go_wp2_with fail
      go_region
      obtain ⟨V, hV⟩ : ∃ V, (w5.setCell ⟨g, k + 1, none⟩ (.int .i64 v)).setCell ⟨g, k, none⟩ (.int .i64 u) = V := ⟨_, rfl⟩
      have hrV : RowI g (Rk.swapL l2 k) V := by rw [← hV, ← Hu.out, ← Hv.out]; exact Hr5.out.swap k
      have hfV : w0.grownBy V (some g) := by rw [← hV]; exact grownBy_set (grownBy_set Hf5.out _ _) _ _
      have hF3 : Rk.insOut cf a (i + 1) (b - (i + 1)) (Rk.insIn cf a k (Rk.swapL l2 k)) = F := by
       have := HF2.out
       rw [Rk.insIn, if_pos ⟨hja, by rw [Hu.out, Hv.out]; exact hlt⟩] at this
       exact this
      rw [hV]
      have HrV := Lib.hid hrV; have HfV := Lib.hid hfV; have HF3 := Lib.hid hF3
      clear hrV hfV hF3 hV x0 x1 x2 x3
      go_wp2_with fail
      go_roundw
      case rel => exact ⟨k, Rk.swapL l2 k, rfl, by omega, by omega, by rw [Rk.swapL_len, Hl2.out], HF3, grownBy_below HfV.out (Below.refl _ _).drew, HrV.out.ext (Below.refl _ _).drew⟩
      case measure => simp [intOf]
     ·have hnl : decide (cf u v < 0) = false := decide_eq_false hlt
      have hF3 : Rk.insOut cf a (i + 1) (b - (i + 1)) l2 = F := by
       have := HF2.out
       rw [Rk.insIn, if_neg (fun h => hlt (by have := h.2; rw [Hu.out, Hv.out] at this; exact this))] at this
       exact this
      have HF3 := Lib.hid hF3; have Hf5 := Lib.hid hf5; have Hr5 := Lib.hid hr5
      clear hF3 hf5 hr5 hb5 hb05 hbV hS
      have hiw : IntKind.i64.wrap ((i : Int) + 1) = (i : Int) + 1 := IntWalk.i64_in _ (by omega)
      go_wp2_with fail
      go_roundw
      case rel => exact ⟨i + 1, l2, by go_num, by omega, .inl (by omega), Hl2.out, HF3, Hf5.out, Hr5.out⟩
      case measure => simp [intOf]; omega
    ·have hg1 : ¬ (a : Int) < (j : Int) := by omega
     have hg2 : decide ((a : Int) < (j : Int)) = false := decide_eq_false hg1
     have hF3 : Rk.insOut cf a (i + 1) (b - (i + 1)) l2 = F := by
      have := HF2.out
      cases j with
      | zero => exact this
      | succ k => rw [Rk.insIn, if_neg (fun h => hja h.1)] at this; exact this
     have HF3 := Lib.hid hF3; have Hf5 := Lib.hid (grownBy_below hf2 (below_drewN' wi.heap.size wi 1)); have Hr5 := Lib.hid (hr2.ext (below_drewN' wi.heap.size wi 1))
     have hS : True := trivial
     clear hF3 hf2 hr2
     go_wp2_with fail
     refine wp_region_D (fun W => True) (fun _ => false) (by kernel_rfl) ?_
     (refine anyD_l5 (i := 0) (v := ?_) rfl (by kernel_rfl) (fun _ _ _ h => h) (.inl ⟨by kernel_rfl, fun W9 hW9 => ?_⟩) hS ?_; rotate_left; · (go_simp; rfl))
     (refine anyD_l5 (i := 1) (v := ?_) rfl (by kernel_rfl) (fun _ _ _ h => h) (.inl ⟨by kernel_rfl, fun W9 hW9 => ?_⟩) hS ?_; rotate_left; · (go_simp; rfl))
     (refine anyD_l5 (i := 2) (v := ?_) rfl (by kernel_rfl) (fun _ _ _ h => h) (.inl ⟨by kernel_rfl, fun W9 hW9 => ?_⟩) hS ?_; rotate_left; · (go_simp; rfl))
     (refine anyD_l5 (i := 3) (v := ?_) rfl (by kernel_rfl) (fun _ _ _ h => h) (.inl ⟨by kernel_rfl, fun W9 hW9 => ?_⟩) hS ?_; rotate_left; · (go_simp; rfl))
     (refine anyD_l5 (i := 4) (v := undef) rfl (by kernel_rfl) (fun _ _ _ h => h) (.inr ⟨by kernel_rfl, rfl⟩) hS ?_)
     (refine anyD_l5 (i := 5) (v := undef) rfl (by kernel_rfl) (fun _ _ _ h => h) (.inr ⟨by kernel_rfl, rfl⟩) hS ?_)
     go_simp
     (refine anyD_l5 (i := 6) (v := undef) rfl (by kernel_rfl) (fun _ _ _ h => h) (.inr ⟨by kernel_rfl, rfl⟩) hS ?_)
     (refine anyD_l5 (i := 7) (v := undef) rfl (by kernel_rfl) (fun _ _ _ h => h) (.inr ⟨by kernel_rfl, rfl⟩) hS ?_)
     (refine anyD_l5 (i := 8) (v := undef) rfl (by kernel_rfl) (fun _ _ _ h => h) (.inr ⟨by kernel_rfl, rfl⟩) hS ?_)
     (refine anyD_l5 (i := 9) (v := undef) rfl (by kernel_rfl) (fun _ _ _ h => h) (.inr ⟨by kernel_rfl, rfl⟩) hS ?_)
     (refine anyD_l5 (i := 10) (v := undef) rfl (by kernel_rfl) (fun _ _ _ h => h) (.inr ⟨by kernel_rfl, rfl⟩) hS ?_)
     (refine anyD_l5 (i := 11) (v := undef) rfl (by kernel_rfl) (fun _ _ _ h => h) (.inr ⟨by kernel_rfl, rfl⟩) hS ?_)
     go_simp
     (refine anyD_l5 (i := 12) (v := undef) rfl (by kernel_rfl) (fun _ _ _ h => h) (.inr ⟨by kernel_rfl, rfl⟩) hS ?_)
     (refine anyD_l5 (i := 13) (v := undef) rfl (by kernel_rfl) (fun _ _ _ h => h) (.inr ⟨by kernel_rfl, rfl⟩) hS ?_)
     (refine anyD_l5 (i := 14) (v := undef) rfl (by kernel_rfl) (fun _ _ _ h => h) (.inr ⟨by kernel_rfl, rfl⟩) hS ?_)
     (refine anyD_l5 (i := 15) (v := undef) rfl (by kernel_rfl) (fun _ _ _ h => h) (.inr ⟨by kernel_rfl, rfl⟩) hS ?_)
     (refine anyD_l5 (i := 16) (v := ?_) rfl (by kernel_rfl) (fun _ _ _ h => h) (.inl ⟨by kernel_rfl, fun W9 hW9 => ?_⟩) hS ?_; rotate_left; · (go_simp; rfl))
     go_simp
     refine anyD_done (by kernel_rfl) ?_ _
     have hiw : IntKind.i64.wrap ((i : Int) + 1) = (i : Int) + 1 := IntWalk.i64_in _ (by omega)
     go_wp2_with fail
     go_roundw
     case rel => exact ⟨i + 1, l2, by go_num, by omega, .inl (by omega), Hl2.out, HF3, Hf5.out, Hr5.out⟩
     case measure => simp [intOf]; omega
  ·have hii : ¬ (i : Int) < (b : Int) := by omega
   have hF4 : l' = F := by
    have := HF'.out
    rw [show b - i = 0 by omega] at this
    exact this
   have HF4 := Lib.hid hF4; have Hf' := Lib.hid hf'; have Hr' := Lib.hid hr'
   clear hF4 hf' hr' hl'
   go_wp2_with fail
   exact bodyPost_end (results_none rfl _ _ _) rfl ⟨rfl, Hf'.out, by rw [← HF4.out]; exact Hr'.out⟩
end Go.Proofs.YtnlhocbaighedaaGreatDoor
namespace Go.Proofs.YtnlhocbaighedaaGreatDoor
set_option linter.unusedVariables false
namespace Rk
/-- x sinks into a list that stands with its last element ahead -/
def insR (cf : Int → Int → Int) (x : Int) : List Int → List Int
 | [] => [x]
 | s :: t => if cf x s < 0 then s :: insR cf x t else x :: s :: t
theorem insR_perm (cf : Int → Int → Int) (x : Int) : ∀ t, (insR cf x t).Perm (x :: t)
 | [] => .refl _
 | s :: t => by
  rw [insR]
  split
  ·exact ((insR_perm cf x t).cons s).trans (.swap _ _ _)
  ·exact .refl _
theorem getD_mid (P : List Int) (s : Int) (R : List Int) : (P ++ s :: R).getD P.length 0 = s := by
 simp [List.getD_eq_getElem?_getD]
theorem getD_mid2 (P : List Int) (s x : Int) (R : List Int) : (P ++ s :: x :: R).getD (P.length + 1) 0 = x := by
 simp [List.getD_eq_getElem?_getD]
theorem swapL_mid (P : List Int) (s x : Int) (R : List Int) : swapL (P ++ s :: x :: R) P.length = P ++ x :: s :: R := by
 unfold swapL
 rw [getD_mid, getD_mid2]
 rw [List.set_append_right _ _ (by omega), List.set_append_right _ _ (by omega)]
 simp
theorem insIn_split (cf : Int → Int → Int) (P : List Int) (x : Int) : ∀ (T R : List Int), insIn cf P.length (P.length + T.length) (P ++ T.reverse ++ x :: R) = P ++ (insR cf x T).reverse ++ R
 | [], R => by
  have h : ∀ l, insIn cf P.length P.length l = l := fun l => by
   cases hk : P.length with
   | zero => rfl
   | succ k => rw [insIn, if_neg (fun h => by omega)]
  rw [List.length_nil, Nat.add_zero, h]
  simp [insR]
 | s :: t, R => by
  have e1 : P ++ (s :: t).reverse ++ x :: R = (P ++ t.reverse) ++ s :: x :: R := by simp
  have e2 : P.length + (s :: t).length = (P ++ t.reverse).length + 1 := by simp; omega
  rw [e1, e2, insIn, getD_mid2, getD_mid, swapL_mid, insR]
  have e3 : P.length < (P ++ t.reverse).length + 1 := by simp; omega
  by_cases h : cf x s < 0
  ·rw [if_pos ⟨e3, h⟩, if_pos h]
   have ih := insIn_split cf P x t (s :: R)
   have e4 : (P ++ t.reverse).length = P.length + t.length := by simp
   rw [e4, ih]
   simp
  ·rw [if_neg (fun h' => h h'.2), if_neg h]
   simp
theorem insOut_split (cf : Int → Int → Int) (P : List Int) : ∀ (X T R : List Int), insOut cf P.length (P.length + T.length) X.length (P ++ T.reverse ++ X ++ R) = P ++ (X.foldl (fun T x => insR cf x T) T).reverse ++ R
 | [], T, R => by simp [insOut]
 | x :: X, T, R => by
  rw [List.length_cons, insOut]
  have e1 : P ++ T.reverse ++ x :: X ++ R = P ++ T.reverse ++ x :: (X ++ R) := by simp
  rw [e1, insIn_split]
  have e2 : P.length + T.length + 1 = P.length + (insR cf x T).length := by
   have := (insR_perm cf x T).length_eq
   rw [List.length_cons] at this
   omega
  rw [e2, ← List.append_assoc, insOut_split cf P X (insR cf x T) R]
  rfl
/-- a list that is sorted by sinking, one after the other -/
def sinkF (cf : Int → Int → Int) (l : List Int) : List Int := (l.foldl (fun T x => insR cf x T) []).reverse
theorem insOut_all (cf : Int → Int → Int) (l : List Int) : insOut cf 0 1 (l.length - 1) l = sinkF cf l := by
 cases l with
 | nil => rfl
 | cons x X =>
  have := insOut_split cf [] X [x] []
  simp only [List.length_nil, List.length_cons, Nat.zero_add, List.nil_append, List.append_nil, List.reverse_cons, List.reverse_nil] at this
  rw [List.length_cons, Nat.add_sub_cancel]
  exact this
theorem foldl_perm (cf : Int → Int → Int) : ∀ (X T : List Int), (X.foldl (fun T x => insR cf x T) T).Perm (X ++ T)
 | [], T => .refl _
 | x :: X, T => by
  rw [List.foldl_cons]
  exact (foldl_perm cf X _).trans (((insR_perm cf x T).append_left X).trans (List.perm_middle))
theorem sinkF_perm (cf : Int → Int → Int) (l : List Int) : (sinkF cf l).Perm l := by
 unfold sinkF
 refine (List.reverse_perm _).trans ?_
 have := foldl_perm cf l []
 rwa [List.append_nil] at this
end Rk
end Go.Proofs.YtnlhocbaighedaaGreatDoor
namespace Go.Proofs.YtnlhocbaighedaaGreatDoor
open Go.RowKit
set_option linter.unusedVariables false
set_option maxRecDepth 100000 in
set_option maxHeartbeats 8000000 in
theorem stableFew_ok (w0 : World) (g c gx gl : Nat) (cf : Int → Int → Int) (hcmp : CmpAt w0 g gx gl cf) (l : List Int) (hln : l.length < 20) (w : World) (hf : w0.grownBy w (some g)) (hr : RowI g l w) :
  Calls Tryz.prog 49 #[.slice (some ⟨g, 0, none⟩) l.length c, .int .i64 (l.length : Int), .func (.func 26) #[] #[.pointer (some ⟨gx, 0, none⟩), .pointer (some ⟨gl, 0, none⟩)]] w fun e w' => e = .returned (.tuple #[]) ∧ w0.grownBy w' (some g) ∧ RowI g (Rk.insOut cf 0 1 (l.length - 1) l) w' := by
 have Hi := Lib.hid (insCmp_ok w0 g c gx gl cf hcmp 0 l.length l (Nat.zero_le _) (Nat.le_refl _) (by omega) w hf hr)
 obtain ⟨n, hn⟩ : ∃ n, l.length = n := ⟨_, rfl⟩
 rw [hn] at hln Hi ⊢
 have h1 : ¬ (20 : Int) ≤ (n : Int) := by omega
 have h2 : ¬ (20 : Int) < (n : Int) := by omega
 clear hcmp hf hr hn
 go_enter Tryz.func49, Tryz.ntmps49
 go_wp2_with fail
 go_loopw [7, 8] (fun av bv wr => av = .int .i64 0 ∧ bv = .int .i64 20 ∧ wr = w) (fun _ _ _ => 0)
 case atStart => exact ⟨rfl, rfl, rfl⟩
 case round =>
  obtain ⟨rfl, rfl, rfl⟩ := hrel
  go_wp2_with fail
  refine Hi.out.mono ?_
  rintro e w1 ⟨rfl, hf1, hr1⟩
  have Hf1 := Lib.hid hf1; have Hr1 := Lib.hid hr1
  clear hf1 hr1
  go_wp2_with fail
  go_loopw [6] (fun sv wr => sv = .int .i64 20 ∧ wr = w1) (fun _ _ => 0)
  case atStart => exact ⟨rfl, rfl⟩
  case round =>
   obtain ⟨rfl, rfl⟩ := hrel
   go_wp2_with fail
   exact bodyPost_end (results_none rfl _ _ _) rfl ⟨rfl, Hf1.out, Hr1.out⟩
set_option maxRecDepth 100000 in
set_option maxHeartbeats 8000000 in
/-- no element: nothing is done -/
theorem insNone_ok (v f : Value) (w : World) : Calls Tryz.prog 70 #[v, .int .i64 0, .int .i64 0, f] w fun e w' => e = .returned (.tuple #[]) ∧ w' = w := by
 go_enter Tryz.func70, Tryz.ntmps70
 go_wp2_with fail
 go_loopw [8] (fun iv wr => iv = .int .i64 1 ∧ wr = w) (fun _ _ => 0)
 case atStart => exact ⟨rfl, rfl⟩
 case round =>
  obtain ⟨rfl, rfl⟩ := hrel
  go_wp2_with fail
  exact bodyPost_end (results_none rfl _ _ _) rfl ⟨rfl, rfl⟩
set_option maxRecDepth 100000 in
set_option maxHeartbeats 8000000 in
theorem stableNone_ok (v f : Value) (w : World) : Calls Tryz.prog 49 #[v, .int .i64 0, f] w fun e w' => e = .returned (.tuple #[]) ∧ w' = w := by
 have Hi := Lib.hid (insNone_ok v f w)
 go_enter Tryz.func49, Tryz.ntmps49
 go_wp2_with fail
 go_loopw [7, 8] (fun av bv wr => av = .int .i64 0 ∧ bv = .int .i64 20 ∧ wr = w) (fun _ _ _ => 0)
 case atStart => exact ⟨rfl, rfl, rfl⟩
 case round =>
  obtain ⟨rfl, rfl, rfl⟩ := hrel
  go_wp2_with fail
  refine Hi.out.mono ?_
  rintro e w1 ⟨rfl, rfl⟩
  go_wp2_with fail
  go_loopw [6] (fun sv wr => sv = .int .i64 20 ∧ wr = w1) (fun _ _ => 0)
  case atStart => exact ⟨rfl, rfl⟩
  case round =>
   obtain ⟨rfl, rfl⟩ := hrel
   go_wp2_with fail
   exact bodyPost_end (results_none rfl _ _ _) rfl ⟨rfl, rfl⟩
theorem RowI.own {B g n c : Nat} {l : List Int} {w : World} (h : Own intC M0 w B 3 (.slice (some ⟨g, 0, none⟩) n c) l) : RowI g l w := by
 obtain ⟨xs, ho, he⟩ := h
 have hxs := he
 rcases ho.2 with ⟨e0, _⟩ | ⟨g', cap, cur, e0, hBg, hblk, hc1, hc2, hsz, htk⟩
 ·cases e0
 ·injection e0 with e1 _ e3
  injection e1 with e1
  injection e1 with e1
  subst e1; subst e3
  refine ⟨cur, hblk, fun j hj => ?_⟩
  have hn1 : intC.n = 1 := rfl
  have h3 := (he.2 j hj).1
  rw [hn1, Nat.mul_one] at h3 htk
  have h4 : ((xs.drop j).take 1)[0]? = some (Value.int .i64 l[j]) := by rw [h3]; rfl
  rw [List.getElem?_take, if_pos (by omega), List.getElem?_drop, ← htk, List.getElem?_take, if_pos (by omega), Array.getElem?_toList] at h4
  simpa using h4
theorem els_intsR (M : Nat → Prop) (w : World) : ∀ (l : List Int), (∀ x ∈ l, -9223372036854775808 ≤ x ∧ x ≤ 9223372036854775807) → Els intC M w (l.map (Value.int .i64)) l
 | [], _ => Els.nil _ _ _
 | x :: l, h => (Els.single (C := intC) (cs := [Value.int .i64 x]) ⟨rfl, h x List.mem_cons_self⟩).append (els_intsR M w l fun y hy => h y (List.mem_cons_of_mem _ hy))
theorem RowI.read {B g n c : Nat} {l l' : List Int} {w w' : World} (h0 : Own intC M0 w B 3 (.slice (some ⟨g, 0, none⟩) n c) l) (h : RowI g l' w') (hp : l'.Perm l) : SlR intC M0 w' (.slice (some ⟨g, 0, none⟩) n c) l' := by
 have hn : n = l.length := by
  obtain ⟨A, c', he, _⟩ := h0.shape
  injection he
 have hc : l.length ≤ c ∧ c ≤ maxLen := by
  obtain ⟨A, c', he, h1, h2⟩ := h0.shape
  injection he with _ _ e
  rw [e]; exact ⟨h1, h2⟩
 have hr : ∀ x ∈ l', -9223372036854775808 ≤ x ∧ x ≤ 9223372036854775807 := fun x hx => by
  obtain ⟨xs, ho, he⟩ := h0
  obtain ⟨i, hi, rfl⟩ := List.mem_iff_getElem.1 (hp.mem_iff.1 hx)
  exact (he.2 i hi).2
 refine ⟨_, n, c, l'.map (Value.int .i64), rfl, by rw [hn, hp.length_eq], by omega, hc.2, els_intsR _ _ _ hr, fun _ => ⟨g, 0, rfl, fun h => h, h.lt, fun j u hu => ?_⟩⟩
 rw [List.getElem?_map] at hu
 have hj : j < l'.length := by
  rcases Nat.lt_or_ge j l'.length with h | h
  ·exact h
  ·rw [List.getElem?_eq_none h] at hu; cases hu
 have h1 := (h.at_ hj).1
 rw [List.getElem?_eq_getElem hj] at hu
 rw [Nat.zero_add, h1, ← hu, List.getD_eq_getElem?_getD, List.getElem?_eq_getElem hj]
 rfl
set_option maxRecDepth 100000 in
set_option maxHeartbeats 8000000 in
theorem sortFew_ok (L : List Int) (v : Value) (w : World) (B gx gl : Nat) (cf : Int → Int → Int) (hown : Own intC M0 w B 3 v L) (hln : L.length < 20) (hcmp : ∀ g, v.ownBlock = some g → CmpAt w g gx gl cf) :
  Calls Tryz.prog 25 #[v, .func (.func 26) #[] #[.pointer (some ⟨gx, 0, none⟩), .pointer (some ⟨gl, 0, none⟩)]] w fun e w' => e = .returned (.tuple #[]) ∧ w.grownBy w' v.ownBlock ∧ SlR intC M0 w' v (Rk.sinkF cf L) := by
 rcases hown.form with ⟨rfl, rfl⟩ | ⟨g, c, rfl, _, _, _, hg⟩
 ·have Hs := Lib.hid (stableNone_ok (.slice none 0 0) (.func (.func 26) #[] #[.pointer (some ⟨gx, 0, none⟩), .pointer (some ⟨gl, 0, none⟩)]) w)
  clear hcmp hown
  go_enter Tryz.func25, Tryz.ntmps25
  go_wp2_with fail
  refine Hs.out.mono ?_
  rintro e w1 ⟨rfl, rfl⟩
  go_wp2_with fail
  exact bodyPost_end (results_none rfl _ _ _) rfl ⟨rfl, ⟨rfl, rfl, rfl, Nat.le_refl _, fun _ _ _ => rfl⟩, (Own.nil intC M0 w1 0 3).read0⟩
 ·have Hs := Lib.hid (stableFew_ok w g c gx gl cf (hcmp g rfl) L hln w ⟨rfl, rfl, rfl, Nat.le_refl _, fun _ _ _ => rfl⟩ (RowI.own hown))
  have Hown := Lib.hid hown
  obtain ⟨n, hn⟩ : ∃ n, L.length = n := ⟨_, rfl⟩
  have Hn := Lib.hid hn
  rw [Rk.insOut_all, hn] at Hs
  rw [hn] at Hown ⊢
  clear hcmp hown hn
  go_enter Tryz.func25, Tryz.ntmps25
  go_wp2_with fail
  refine Hs.out.mono ?_
  rintro e w1 ⟨rfl, hg1, hr1⟩
  have Hg1 := Lib.hid hg1; have Hr1 := Lib.hid hr1
  clear hg1 hr1
  go_wp2_with fail
  exact bodyPost_end (results_none rfl _ _ _) rfl ⟨rfl, Hg1.out, RowI.read Hown.out Hr1.out (Rk.sinkF_perm cf L)⟩
end Go.Proofs.YtnlhocbaighedaaGreatDoor

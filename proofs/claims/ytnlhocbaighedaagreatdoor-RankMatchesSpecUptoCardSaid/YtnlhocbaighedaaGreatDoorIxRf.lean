/-
  The references Has and rising; the law's postings.
-/
import Derived.Test.YtnlhocbaighedaaGreatDoorR6
import Derived.Test.YtnlhocbaighedaaGreatDoorR17
import Derived.Test.YtnlhocbaighedaaGreatDoorR1
import Derived.Test.YtnlhocbaighedaaGreatDoorR2
import Derived.Deep.QuietTactic
import Derived.BigQuiet
namespace Go.Proofs.YtnlhocbaighedaaGreatDoor
open Go.RowKit
set_option linter.unusedVariables false
theorem contains_any (l : List Int) (x : Int) : l.contains x = l.any (· == x) := by
 induction l with
 | nil => rfl
 | cons a l ih => rw [List.contains_cons, List.any_cons, ih, show (x == a) = (a == x) by rw [Bool.eq_iff_iff, beq_iff_eq, beq_iff_eq]; exact eq_comm]
theorem any_true' {α : Type} (l : List α) (p : α → Bool) (i : Nat) (hi : i < l.length) (h : p l[i] = true) : l.any p = true := List.any_eq_true.2 ⟨_, List.getElem_mem hi, h⟩
set_option maxHeartbeats 400000 in
theorem refHas_ok (M : Nat → Prop) (v : Value) (l : List Int) (s : Int) (w : World) (h : SlR intC M w v l) : Calls Tryz.prog 16 #[v, .int .i64 s] w fun e w' => e = .returned (.bool (l.contains s)) ∧ w = w' := by
 obtain ⟨A, c, rfl, _, hcm⟩ := h.form
 have hn := h.len_le
 unfold maxLen at hn
 rw [contains_any]
 go_enter Tryz.func16, Tryz.ntmps16
 go_wp2
 go_loop [5] (fun i => ∃ k : Nat, k ≤ l.length ∧ i = .int .i64 k ∧ Hid (∀ (j : Nat) (hj : j < l.length), j < k → (l[j] == s) = false)) (fun i => l.length - (intOf i).toNat)
 case atStart => exact ⟨0, Nat.zero_le _, rfl, Lib.hid fun j _ h => absurd h (by omega)⟩
 case round =>
  obtain ⟨k, hk, rfl, hpre⟩ := hrel
  by_cases hlt : k < l.length
  ·obtain ⟨b, off, rfl, _, _, hcell, _⟩ := h.intAt hlt
   obtain ⟨x, hx⟩ : ∃ x, x = l[k] := ⟨_, rfl⟩
   rw [← hx] at hcell
   have Hx := Lib.hid hx
   clear hx
   cases ht : (x == s) with
   | true =>
    go_wp2
    go_ret
    exact ⟨ret_bool (by rw [any_true' l (· == s) k hlt (by rw [← Hx.out]; exact ht)]), rfl⟩
   | false =>
    go_wp2
    go_round
    case rel => exact ⟨k + 1, by omega, by go_num, Lib.hid fun j hj hjk => by
     by_cases e : j = k
     ·subst e; rw [← Hx.out]; exact ht
     ·exact hpre.out j hj (by omega)⟩
    case measure => simp [intOf]; omega
  ·go_wp2
   go_ret
   exact ⟨ret_bool (by rw [any_false l (· == s) fun i hi => hpre.out i hi (by omega)]), rfl⟩
set_option maxRecDepth 20000 in
set_option maxHeartbeats 2000000 in
theorem refRising_ok (M : Nat → Prop) (v : Value) (l : List Int) (low : Int) (w : World) (h : SlR intC M w v l) : Calls Tryz.prog 50 #[v, .int .i64 low] w fun e w' => e = .returned (.bool (Ix.rising l low)) ∧ Below w.heap.size w w' := by
 obtain ⟨A, c, rfl, hlc, hcm⟩ := h.form
 unfold maxLen at hcm
 go_enter Tryz.func50, Tryz.ntmps50
 go_wp2
 go_loopw [5] (fun i wr => ∃ k : Nat, k ≤ l.length ∧ i = .int .i64 (k : Int) ∧ Hid (∀ j, j < k → Ix.okAt l low j = true) ∧ Below w.heap.size w wr) (fun i _ => l.length - (intOf i).toNat)
 case atStart => exact ⟨0, Nat.zero_le _, rfl, Lib.hid fun j hj => absurd hj (by omega), Below.refl _ _⟩
 case round =>
  obtain ⟨k, hk, rfl, hok, hb⟩ := hrel
  by_cases hlt : k < l.length
  ·obtain ⟨b, off, rfl, _, _, p0, _, _⟩ := (h.ext hb).intAt hlt
   have hki : Ix.okAt l low k = ((decide (low ≤ l[k]) && decide (l[k] ≤ 1000000)) && (decide (k = 0) || decide (l.getD (k - 1) 0 < l[k]))) := by unfold Ix.okAt; rw [Ix.getD_get hlt]
   have hfalse := fun hf => rising_false (l := l) (low := low) hlt hf
   have hnext : Ix.okAt l low k = true → Hid (∀ j, j < k + 1 → Ix.okAt l low j = true) := fun ht => Lib.hid fun j hj => by
    by_cases e : j = k
    ·rw [e]; exact ht
    ·exact hok.out j (by omega)
   have hil : (k : Int) < (l.length : Int) := by omega
   have hi0 : (0 : Int) ≤ (k : Int) := by omega
   have hiw : IntKind.i64.wrap (k : Int) = (k : Int) := IntWalk.i64_in _ (by omega)
   by_cases h1 : (decide (low ≤ l[k]) && decide (l[k] ≤ 1000000)) = true
   ·by_cases hk0 : k = 0
    ·subst hk0
     rw [decide_eq_true rfl, Bool.true_or, Bool.and_true] at hki
     rw [Nat.add_zero] at p0
     obtain ⟨n, hn⟩ : ∃ n, l[0]'hlt = n := ⟨_, rfl⟩
     rw [hn] at hki p0 h1
     have hcl : ∀ V, Calls Tryz.prog 39 #[.int .i64 n, .int .i64 low, .int .i64 1000000] V fun e w' => e = .returned (.bool true) ∧ V = w' := fun V => by
      have := in_ok n low 1000000 V
      rw [h1] at this
      exact this
     have Hki := Lib.hid hki; have Hf := Lib.hid hfalse; have Hn := Lib.hid hnext; have H1 := Lib.hid h1
     clear hki hfalse hnext hn h1
     have hS := cell_ext (below_drewN' wr.heap.size wr 1) p0
     clear p0
     go_wp2_with fail
     refine wp_region_D (fun W => W.cell? ⟨b, off, none⟩ = some (.int .i64 n)) (fun _ => false) (by kernel_rfl) ?_
     change anyD _ _ _ _ _ _ _ _ _ (wr.drewN 1)
     have hbV := below_drewN' wr.heap.size wr 1
     generalize wr.drewN 1 = V0 at hS hbV ⊢
     (refine anyD_l5 (i := 0) (v := ?_) rfl (by kernel_rfl) (fun _ _ _ h => h) (.inl ⟨by kernel_rfl, fun W9 hW9 => ?_⟩) hS ?_; rotate_left; · (have hw0 := hW9; go_simp; rfl))
     (refine anyD_l5 (i := 1) (v := ?_) rfl (by kernel_rfl) (fun _ _ _ h => h) (.inl ⟨by kernel_rfl, fun W9 hW9 => ?_⟩) hS ?_; rotate_left; · (have hw0 := hW9; go_simp; rfl))
     (refine anyD_l5 (i := 2) (v := ?_) rfl (by kernel_rfl) (fun _ _ _ h => h) (.inl ⟨by kernel_rfl, fun W9 hW9 => ?_⟩) hS ?_; rotate_left; · (have hw0 := hW9; go_simp; rfl))
     (refine anyD_l5 (i := 3) (v := ?_) rfl (by kernel_rfl) (fun _ _ _ h => h) (.inl ⟨by kernel_rfl, fun W9 hW9 => ?_⟩) hS ?_; rotate_left; · (have hw0 := hW9; go_simp; rfl))
     (refine anyD_l5 (i := 4) (v := ?_) rfl (by kernel_rfl) (fun _ _ _ h => h) (.inl ⟨by kernel_rfl, fun W9 hW9 => ?_⟩) hS ?_; rotate_left; · (have hw0 := hW9; go_simp; rfl))
     go_simp
     refine anyD_one (i := 5) (by kernel_rfl) rfl rfl (fun K hK => ?_)
     have HK := Lib.hid hK
     clear hK
     unfold Oper.wp
     go_simp
     refine (hcl V0).mono ?_
     rintro e w2 ⟨rfl, rfl⟩
     have hS := hS
     refine HK.out _ _ (fun _ => hS) ?_
     clear HK
     (refine anyD_l5 (i := 6) (v := ?_) rfl (by kernel_rfl) (fun _ _ _ h => h) (.inl ⟨by kernel_rfl, fun W9 hW9 => ?_⟩) hS ?_; rotate_left; · (have hw0 := hW9; go_simp; rfl))
     (refine anyD_l5 (i := 7) (v := ?_) rfl (by kernel_rfl) (fun _ _ _ h => h) (.inl ⟨by kernel_rfl, fun W9 hW9 => ?_⟩) hS ?_; rotate_left; · (have hw0 := hW9; go_simp; rfl))
     (refine anyD_l5 (i := 8) (v := ?_) rfl (by kernel_rfl) (fun _ _ _ h => h) (.inl ⟨by kernel_rfl, fun W9 hW9 => ?_⟩) hS ?_; rotate_left; · (have hw0 := hW9; go_simp; rfl))
     (refine anyD_l5 (i := 9) (v := ?_) rfl (by kernel_rfl) (fun _ _ _ h => h) (.inl ⟨by kernel_rfl, fun W9 hW9 => ?_⟩) hS ?_; rotate_left; · (have hw0 := hW9; go_simp; rfl))
     (refine anyD_l5 (i := 10) (v := ?_) rfl (by kernel_rfl) (fun _ _ _ h => h) (.inl ⟨by kernel_rfl, fun W9 hW9 => ?_⟩) hS ?_; rotate_left; · (have hw0 := hW9; go_simp; rfl))
     (refine anyD_l5 (i := 11) (v := undef) rfl (by kernel_rfl) (fun _ _ _ h => h) (.inr ⟨by kernel_rfl, rfl⟩) hS ?_)
     go_simp
     (refine anyD_l5 (i := 12) (v := undef) rfl (by kernel_rfl) (fun _ _ _ h => h) (.inr ⟨by kernel_rfl, rfl⟩) hS ?_)
     (refine anyD_l5 (i := 13) (v := undef) rfl (by kernel_rfl) (fun _ _ _ h => h) (.inr ⟨by kernel_rfl, rfl⟩) hS ?_)
     (refine anyD_l5 (i := 14) (v := undef) rfl (by kernel_rfl) (fun _ _ _ h => h) (.inr ⟨by kernel_rfl, rfl⟩) hS ?_)
     (refine anyD_l5 (i := 15) (v := undef) rfl (by kernel_rfl) (fun _ _ _ h => h) (.inr ⟨by kernel_rfl, rfl⟩) hS ?_)
     (refine anyD_l5 (i := 16) (v := undef) rfl (by kernel_rfl) (fun _ _ _ h => h) (.inr ⟨by kernel_rfl, rfl⟩) hS ?_)
     (refine anyD_l5 (i := 17) (v := undef) rfl (by kernel_rfl) (fun _ _ _ h => h) (.inr ⟨by kernel_rfl, rfl⟩) hS ?_)
     go_simp
     (refine anyD_l5 (i := 18) (v := undef) rfl (by kernel_rfl) (fun _ _ _ h => h) (.inr ⟨by kernel_rfl, rfl⟩) hS ?_)
     (refine anyD_l5 (i := 19) (v := undef) rfl (by kernel_rfl) (fun _ _ _ h => h) (.inr ⟨by kernel_rfl, rfl⟩) hS ?_)
     (refine anyD_l5 (i := 20) (v := undef) rfl (by kernel_rfl) (fun _ _ _ h => h) (.inr ⟨by kernel_rfl, rfl⟩) hS ?_)
     (refine anyD_l5 (i := 21) (v := ?_) rfl (by kernel_rfl) (fun _ _ _ h => h) (.inl ⟨by kernel_rfl, fun W9 hW9 => ?_⟩) hS ?_; rotate_left; · (have hw0 := hW9; go_simp; rfl))
     (refine anyD_l5 (i := 22) (v := ?_) rfl (by kernel_rfl) (fun _ _ _ h => h) (.inl ⟨by kernel_rfl, fun W9 hW9 => ?_⟩) hS ?_; rotate_left; · (have hw0 := hW9; go_simp; rfl))
     go_simp
     refine anyD_done (by kernel_rfl) ?_ _
     have hbr := hb.trans (hbV.mono hb.size)
     have hn1 := Hn.out (by rw [Hki.out, H1.out])
     clear hok
     go_wp2
     go_roundw
     case rel => exact ⟨1, by omega, by go_num, hn1, hbr⟩
     case measure => simp [intOf]; omega
    ·obtain ⟨b2, off2, hA, _, _, q0, _, _⟩ := (h.ext hb).intAt (k := k - 1) (by omega)
     injection hA with hA
     injection hA with hA1 hA2
     subst hA1 hA2
     rw [decide_eq_false hk0, Bool.false_or, Ix.getD_get (show k - 1 < l.length by omega)] at hki
     obtain ⟨m, hm⟩ : ∃ m, l[k - 1]'(by omega) = m := ⟨_, rfl⟩
     rw [hm] at hki q0
     obtain ⟨n, hn⟩ : ∃ n, l[k]'hlt = n := ⟨_, rfl⟩
     rw [hn] at hki p0 h1
     have hcl : ∀ V, Calls Tryz.prog 39 #[.int .i64 n, .int .i64 low, .int .i64 1000000] V fun e w' => e = .returned (.bool true) ∧ V = w' := fun V => by
      have := in_ok n low 1000000 V
      rw [h1] at this
      exact this
     have Hki := Lib.hid hki; have Hf := Lib.hid hfalse; have Hn := Lib.hid hnext; have H1 := Lib.hid h1
     clear hki hfalse hnext hn h1
     obtain ⟨k', rfl⟩ : ∃ k', k = k' + 1 := ⟨k - 1, by omega⟩
     rw [Nat.add_sub_cancel] at q0
     have hk1 : (0 : Int) < ((k' + 1 : Nat) : Int) := by omega
     have hw1 : ((k' + 1 : Nat) : Int) - 1 = (k' : Int) := by omega
     have hw2 : IntKind.i64.wrap (k' : Int) = (k' : Int) := IntWalk.i64_in _ (by omega)
     have hj1 : (k' : Int) < (l.length : Int) := by omega
     have hj0 : (0 : Int) ≤ (k' : Int) := by omega
     have hS := And.intro (cell_ext (below_drewN' wr.heap.size wr 1) p0) (cell_ext (below_drewN' wr.heap.size wr 1) q0)
     clear p0 q0 hm
     go_wp2_with fail
     refine wp_region_D (fun W => W.cell? ⟨b, off + (k' + 1), none⟩ = some (.int .i64 n) ∧ W.cell? ⟨b, off + k', none⟩ = some (.int .i64 m)) (fun _ => false) (by kernel_rfl) ?_
     change anyD _ _ _ _ _ _ _ _ _ (wr.drewN 1)
     have hbV := below_drewN' wr.heap.size wr 1
     generalize wr.drewN 1 = V0 at hS hbV ⊢
     (refine anyD_l5 (i := 0) (v := ?_) rfl (by kernel_rfl) (fun _ _ _ h => h) (.inl ⟨by kernel_rfl, fun W9 hW9 => ?_⟩) hS ?_; rotate_left; · (obtain ⟨hw0, hw1⟩ := hW9; go_simp; rfl))
     (refine anyD_l5 (i := 1) (v := ?_) rfl (by kernel_rfl) (fun _ _ _ h => h) (.inl ⟨by kernel_rfl, fun W9 hW9 => ?_⟩) hS ?_; rotate_left; · (obtain ⟨hw0, hw1⟩ := hW9; go_simp; rfl))
     (refine anyD_l5 (i := 2) (v := ?_) rfl (by kernel_rfl) (fun _ _ _ h => h) (.inl ⟨by kernel_rfl, fun W9 hW9 => ?_⟩) hS ?_; rotate_left; · (obtain ⟨hw0, hw1⟩ := hW9; go_simp; rfl))
     (refine anyD_l5 (i := 3) (v := ?_) rfl (by kernel_rfl) (fun _ _ _ h => h) (.inl ⟨by kernel_rfl, fun W9 hW9 => ?_⟩) hS ?_; rotate_left; · (obtain ⟨hw0, hw1⟩ := hW9; go_simp; rfl))
     (refine anyD_l5 (i := 4) (v := ?_) rfl (by kernel_rfl) (fun _ _ _ h => h) (.inl ⟨by kernel_rfl, fun W9 hW9 => ?_⟩) hS ?_; rotate_left; · (obtain ⟨hw0, hw1⟩ := hW9; go_simp; rfl))
     go_simp
     refine anyD_one (i := 5) (by kernel_rfl) rfl rfl (fun K hK => ?_)
     have HK := Lib.hid hK
     clear hK
     unfold Oper.wp
     go_simp
     refine (hcl V0).mono ?_
     rintro e w2 ⟨rfl, rfl⟩
     have hS := hS
     refine HK.out _ _ (fun _ => hS) ?_
     clear HK
     (refine anyD_l5 (i := 6) (v := ?_) rfl (by kernel_rfl) (fun _ _ _ h => h) (.inl ⟨by kernel_rfl, fun W9 hW9 => ?_⟩) hS ?_; rotate_left; · (obtain ⟨hw0, hw1⟩ := hW9; go_simp; rfl))
     (refine anyD_l5 (i := 7) (v := ?_) rfl (by kernel_rfl) (fun _ _ _ h => h) (.inl ⟨by kernel_rfl, fun W9 hW9 => ?_⟩) hS ?_; rotate_left; · (obtain ⟨hw0, hw1⟩ := hW9; go_simp; rfl))
     (refine anyD_l5 (i := 8) (v := ?_) rfl (by kernel_rfl) (fun _ _ _ h => h) (.inl ⟨by kernel_rfl, fun W9 hW9 => ?_⟩) hS ?_; rotate_left; · (obtain ⟨hw0, hw1⟩ := hW9; go_simp; rfl))
     (refine anyD_l5 (i := 9) (v := ?_) rfl (by kernel_rfl) (fun _ _ _ h => h) (.inl ⟨by kernel_rfl, fun W9 hW9 => ?_⟩) hS ?_; rotate_left; · (obtain ⟨hw0, hw1⟩ := hW9; go_simp; rfl))
     (refine anyD_l5 (i := 10) (v := ?_) rfl (by kernel_rfl) (fun _ _ _ h => h) (.inl ⟨by kernel_rfl, fun W9 hW9 => ?_⟩) hS ?_; rotate_left; · (obtain ⟨hw0, hw1⟩ := hW9; go_simp; rfl))
     (refine anyD_l5 (i := 11) (v := ?_) rfl (by kernel_rfl) (fun _ _ _ h => h) (.inl ⟨by kernel_rfl, fun W9 hW9 => ?_⟩) hS ?_; rotate_left; · (obtain ⟨hw0, hw1⟩ := hW9; go_simp; rfl))
     go_simp
     (refine anyD_l5 (i := 12) (v := ?_) rfl (by kernel_rfl) (fun _ _ _ h => h) (.inl ⟨by kernel_rfl, fun W9 hW9 => ?_⟩) hS ?_; rotate_left; · (obtain ⟨hw0, hw1⟩ := hW9; go_simp; rfl))
     (refine anyD_l5 (i := 13) (v := ?_) rfl (by kernel_rfl) (fun _ _ _ h => h) (.inl ⟨by kernel_rfl, fun W9 hW9 => ?_⟩) hS ?_; rotate_left; · (obtain ⟨hw0, hw1⟩ := hW9; go_simp; rfl))
     (refine anyD_l5 (i := 14) (v := ?_) rfl (by kernel_rfl) (fun _ _ _ h => h) (.inl ⟨by kernel_rfl, fun W9 hW9 => ?_⟩) hS ?_; rotate_left; · (obtain ⟨hw0, hw1⟩ := hW9; go_simp; rfl))
     (refine anyD_l5 (i := 15) (v := ?_) rfl (by kernel_rfl) (fun _ _ _ h => h) (.inl ⟨by kernel_rfl, fun W9 hW9 => ?_⟩) hS ?_; rotate_left; · (obtain ⟨hw0, hw1⟩ := hW9; go_simp; rfl))
     (refine anyD_l5 (i := 16) (v := ?_) rfl (by kernel_rfl) (fun _ _ _ h => h) (.inl ⟨by kernel_rfl, fun W9 hW9 => ?_⟩) hS ?_; rotate_left; · (obtain ⟨hw0, hw1⟩ := hW9; go_simp; rfl))
     (refine anyD_l5 (i := 17) (v := ?_) rfl (by kernel_rfl) (fun _ _ _ h => h) (.inl ⟨by kernel_rfl, fun W9 hW9 => ?_⟩) hS ?_; rotate_left; · (obtain ⟨hw0, hw1⟩ := hW9; go_simp; rfl))
     go_simp
     (refine anyD_l5 (i := 18) (v := ?_) rfl (by kernel_rfl) (fun _ _ _ h => h) (.inl ⟨by kernel_rfl, fun W9 hW9 => ?_⟩) hS ?_; rotate_left; · (obtain ⟨hw0, hw1⟩ := hW9; go_simp; rfl))
     (refine anyD_l5 (i := 19) (v := ?_) rfl (by kernel_rfl) (fun _ _ _ h => h) (.inl ⟨by kernel_rfl, fun W9 hW9 => ?_⟩) hS ?_; rotate_left; · (obtain ⟨hw0, hw1⟩ := hW9; go_simp; rfl))
     (refine anyD_l5 (i := 20) (v := ?_) rfl (by kernel_rfl) (fun _ _ _ h => h) (.inl ⟨by kernel_rfl, fun W9 hW9 => ?_⟩) hS ?_; rotate_left; · (obtain ⟨hw0, hw1⟩ := hW9; go_simp; rfl))
     (refine anyD_l5 (i := 21) (v := ?_) rfl (by kernel_rfl) (fun _ _ _ h => h) (.inl ⟨by kernel_rfl, fun W9 hW9 => ?_⟩) hS ?_; rotate_left; · (obtain ⟨hw0, hw1⟩ := hW9; go_simp; rfl))
     (refine anyD_l5 (i := 22) (v := ?_) rfl (by kernel_rfl) (fun _ _ _ h => h) (.inl ⟨by kernel_rfl, fun W9 hW9 => ?_⟩) hS ?_; rotate_left; · (obtain ⟨hw0, hw1⟩ := hW9; go_simp; rfl))
     go_simp
     refine anyD_done (by kernel_rfl) ?_ _
     have hbr := hb.trans (hbV.mono hb.size)
     by_cases h3 : n ≤ m
     ·have hd3 : decide (n ≤ m) = true := decide_eq_true h3
      go_wp2
      go_ret
      exact ⟨ret_bool (Hf.out (by rw [Hki.out, decide_eq_false (show ¬ m < n by omega), Bool.and_false])).symm, hbr⟩
     ·have hd3 : decide (n ≤ m) = false := decide_eq_false h3
      have hn1 := Hn.out (by rw [Hki.out, H1.out, decide_eq_true (by omega)]; rfl)
      clear hok
      go_wp2
      go_roundw
      case rel => exact ⟨k' + 2, by omega, by go_num, hn1, hbr⟩
      case measure => simp [intOf]; omega
   ·replace h1 : (decide (low ≤ l[k]) && decide (l[k] ≤ 1000000)) = false := by simpa using h1
    obtain ⟨n, hn⟩ : ∃ n, l[k]'hlt = n := ⟨_, rfl⟩
    rw [hn] at hki p0 h1
    have hcl : ∀ V, Calls Tryz.prog 39 #[.int .i64 n, .int .i64 low, .int .i64 1000000] V fun e w' => e = .returned (.bool false) ∧ V = w' := fun V => by
     have := in_ok n low 1000000 V
     rw [h1] at this
     exact this
    have Hki := Lib.hid hki; have Hf := Lib.hid hfalse; have Hn := Lib.hid hnext; have H1 := Lib.hid h1
    clear hki hfalse hnext hn h1
    have hS := cell_ext (below_drewN' wr.heap.size wr 1) p0
    clear p0
    go_wp2_with fail
    refine wp_region_D (fun W => W.cell? ⟨b, off + k, none⟩ = some (.int .i64 n)) (fun _ => false) (by kernel_rfl) ?_
    change anyD _ _ _ _ _ _ _ _ _ (wr.drewN 1)
    have hbV := below_drewN' wr.heap.size wr 1
    generalize wr.drewN 1 = V0 at hS hbV ⊢
    (refine anyD_l5 (i := 0) (v := ?_) rfl (by kernel_rfl) (fun _ _ _ h => h) (.inl ⟨by kernel_rfl, fun W9 hW9 => ?_⟩) hS ?_; rotate_left; · (have hw0 := hW9; go_simp; rfl))
    (refine anyD_l5 (i := 1) (v := ?_) rfl (by kernel_rfl) (fun _ _ _ h => h) (.inl ⟨by kernel_rfl, fun W9 hW9 => ?_⟩) hS ?_; rotate_left; · (have hw0 := hW9; go_simp; rfl))
    (refine anyD_l5 (i := 2) (v := ?_) rfl (by kernel_rfl) (fun _ _ _ h => h) (.inl ⟨by kernel_rfl, fun W9 hW9 => ?_⟩) hS ?_; rotate_left; · (have hw0 := hW9; go_simp; rfl))
    (refine anyD_l5 (i := 3) (v := ?_) rfl (by kernel_rfl) (fun _ _ _ h => h) (.inl ⟨by kernel_rfl, fun W9 hW9 => ?_⟩) hS ?_; rotate_left; · (have hw0 := hW9; go_simp; rfl))
    (refine anyD_l5 (i := 4) (v := ?_) rfl (by kernel_rfl) (fun _ _ _ h => h) (.inl ⟨by kernel_rfl, fun W9 hW9 => ?_⟩) hS ?_; rotate_left; · (have hw0 := hW9; go_simp; rfl))
    go_simp
    refine anyD_one (i := 5) (by kernel_rfl) rfl rfl (fun K hK => ?_)
    have HK := Lib.hid hK
    clear hK
    unfold Oper.wp
    go_simp
    refine (hcl V0).mono ?_
    rintro e w2 ⟨rfl, rfl⟩
    have hS := hS
    refine HK.out _ _ (fun _ => hS) ?_
    clear HK
    (refine anyD_l5 (i := 6) (v := ?_) rfl (by kernel_rfl) (fun _ _ _ h => h) (.inl ⟨by kernel_rfl, fun W9 hW9 => ?_⟩) hS ?_; rotate_left; · (have hw0 := hW9; go_simp; rfl))
    (refine anyD_l5 (i := 7) (v := ?_) rfl (by kernel_rfl) (fun _ _ _ h => h) (.inl ⟨by kernel_rfl, fun W9 hW9 => ?_⟩) hS ?_; rotate_left; · (have hw0 := hW9; go_simp; rfl))
    (refine anyD_l5 (i := 8) (v := undef) rfl (by kernel_rfl) (fun _ _ _ h => h) (.inr ⟨by kernel_rfl, rfl⟩) hS ?_)
    (refine anyD_l5 (i := 9) (v := undef) rfl (by kernel_rfl) (fun _ _ _ h => h) (.inr ⟨by kernel_rfl, rfl⟩) hS ?_)
    (refine anyD_l5 (i := 10) (v := undef) rfl (by kernel_rfl) (fun _ _ _ h => h) (.inr ⟨by kernel_rfl, rfl⟩) hS ?_)
    (refine anyD_l5 (i := 11) (v := undef) rfl (by kernel_rfl) (fun _ _ _ h => h) (.inr ⟨by kernel_rfl, rfl⟩) hS ?_)
    go_simp
    (refine anyD_l5 (i := 12) (v := undef) rfl (by kernel_rfl) (fun _ _ _ h => h) (.inr ⟨by kernel_rfl, rfl⟩) hS ?_)
    (refine anyD_l5 (i := 13) (v := undef) rfl (by kernel_rfl) (fun _ _ _ h => h) (.inr ⟨by kernel_rfl, rfl⟩) hS ?_)
    (refine anyD_l5 (i := 14) (v := undef) rfl (by kernel_rfl) (fun _ _ _ h => h) (.inr ⟨by kernel_rfl, rfl⟩) hS ?_)
    (refine anyD_l5 (i := 15) (v := undef) rfl (by kernel_rfl) (fun _ _ _ h => h) (.inr ⟨by kernel_rfl, rfl⟩) hS ?_)
    (refine anyD_l5 (i := 16) (v := undef) rfl (by kernel_rfl) (fun _ _ _ h => h) (.inr ⟨by kernel_rfl, rfl⟩) hS ?_)
    (refine anyD_l5 (i := 17) (v := undef) rfl (by kernel_rfl) (fun _ _ _ h => h) (.inr ⟨by kernel_rfl, rfl⟩) hS ?_)
    go_simp
    (refine anyD_l5 (i := 18) (v := undef) rfl (by kernel_rfl) (fun _ _ _ h => h) (.inr ⟨by kernel_rfl, rfl⟩) hS ?_)
    (refine anyD_l5 (i := 19) (v := undef) rfl (by kernel_rfl) (fun _ _ _ h => h) (.inr ⟨by kernel_rfl, rfl⟩) hS ?_)
    (refine anyD_l5 (i := 20) (v := undef) rfl (by kernel_rfl) (fun _ _ _ h => h) (.inr ⟨by kernel_rfl, rfl⟩) hS ?_)
    (refine anyD_l5 (i := 21) (v := undef) rfl (by kernel_rfl) (fun _ _ _ h => h) (.inr ⟨by kernel_rfl, rfl⟩) hS ?_)
    (refine anyD_l5 (i := 22) (v := ?_) rfl (by kernel_rfl) (fun _ _ _ h => h) (.inl ⟨by kernel_rfl, fun W9 hW9 => ?_⟩) hS ?_; rotate_left; · (have hw0 := hW9; go_simp; rfl))
    go_simp
    refine anyD_done (by kernel_rfl) ?_ _
    have hbr := hb.trans (hbV.mono hb.size)
    go_wp2
    go_ret
    exact ⟨ret_bool (Hf.out (by rw [Hki.out, H1.out, Bool.false_and])).symm, hbr⟩
  ·obtain rfl : k = l.length := by omega
   have ht := rising_true (l := l) (low := low) hok.out
   have Ht := Lib.hid ht
   clear ht hok
   go_wp2
   go_ret
   exact ⟨ret_bool Ht.out.symm, hb⟩
end Go.Proofs.YtnlhocbaighedaaGreatDoor

/-
  Contracts and plain facts, one after another: The references Has and rising; the law's postings; SearchObeysLogic: the law's walk; The walk of SearchObeysLogic, as its row takes it; The card of the law SearchObeysLogic, from its walk.
-/
import Derived.Test.YtfjpedgddgbelaaGreatDoorMSo6
import Derived.Test.YtfjpedgddgbelaaGreatDoorMSo21
import Derived.Test.YtfjpedgddgbelaaGreatDoorMSo7
import Derived.Test.YtfjpedgddgbelaaGreatDoorCards
import Derived.Test.YtfjpedgddgbelaaGreatDoorTie
import Derived.Test.YtfjpedgddgbelaaGreatDoorMSo3
import Derived.Deep.QuietTactic
import Derived.BigQuiet
import Derived.ProofKit
import Derived.OpenShut
import Derived.ShutString
import Derived.ChangeOld
import Derived.Below
import Derived.Deep.DeepHandedRow
import Derived.Lib.LaidTab
import Derived.Lay
import Derived.SevenTiedAt
import Derived.SizedLaws
import Derived.ChangeMaps5
/-
  The references Has and rising; the law's postings.
-/
namespace Go.Proofs.YtfjpedgddgbelaaGreatDoor
open Go.RowKit
set_option linter.unusedVariables false
theorem contains_any (l : List Int) (x : Int) : l.contains x = l.any (· == x) := by
  induction l with
  | nil => rfl
  | cons a l ih => rw [List.contains_cons, List.any_cons, ih, show (x == a) = (a == x) by rw [Bool.eq_iff_iff, beq_iff_eq, beq_iff_eq]; exact eq_comm]
theorem any_true' {α : Type} (l : List α) (p : α → Bool) (i : Nat) (hi : i < l.length) (h : p l[i] = true) : l.any p = true := List.any_eq_true.2 ⟨_, List.getElem_mem hi, h⟩
set_option maxHeartbeats 400000 in
theorem refHas_ok (M : Nat → Prop) (v : Value) (l : List Int) (s : Int) (w : World) (h : SlR intC M w v l) : Calls Tryz.prog 23 #[v, .int .i64 s] w fun e w' => e = .returned (.bool (l.contains s)) ∧ w = w' := by
  obtain ⟨A, c, rfl, _, hcm⟩ := h.form
  have hn := h.len_le
  unfold maxLen at hn
  rw [contains_any]
  go_enter Tryz.func23, Tryz.ntmps23
  go_wp2
  go_loop [5] (fun i => ∃ k : Nat, k ≤ l.length ∧ i = .int .i64 k ∧ Hid (∀ (j : Nat) (hj : j < l.length), j < k → (l[j] == s) = false)) (fun i => l.length - (intOf i).toNat)
  case atStart => exact ⟨0, Nat.zero_le _, rfl, Lib.hid fun j _ h => absurd h (by omega)⟩
  case round =>
    obtain ⟨k, hk, rfl, hpre⟩ := hrel
    by_cases hlt : k < l.length
    · obtain ⟨b, off, rfl, _, _, hcell, _⟩ := h.intAt hlt
      obtain ⟨x, hx⟩ : ∃ x, x = l[k] := ⟨_, rfl⟩
      rw [← hx] at hcell
      have Hx := Lib.hid hx
      clear hx
      cases ht : (x == s) with
      | true =>
        go_wp2
        go_ret
        exact ⟨ret_bool (by rw [any_true' l (· == s) k hlt (by rw [← Hx.out]; exact ht)]), rfl⟩
      | false =>
        go_wp2
        go_round
        case rel => exact ⟨k + 1, by omega, by go_num, Lib.hid fun j hj hjk => by
          by_cases e : j = k
          · subst e; rw [← Hx.out]; exact ht
          · exact hpre.out j hj (by omega)⟩
        case measure => simp [intOf]; omega
    · go_wp2
      go_ret
      exact ⟨ret_bool (by rw [any_false l (· == s) fun i hi => hpre.out i hi (by omega)]), rfl⟩
set_option maxRecDepth 20000 in
set_option maxHeartbeats 2000000 in
theorem refRising_ok (M : Nat → Prop) (v : Value) (l : List Int) (low : Int) (w : World) (h : SlR intC M w v l) : Calls Tryz.prog 68 #[v, .int .i64 low] w fun e w' => e = .returned (.bool (Ix.rising l low)) ∧ Below w.heap.size w w' := by
  obtain ⟨A, c, rfl, hlc, hcm⟩ := h.form
  unfold maxLen at hcm
  go_enter Tryz.func68, Tryz.ntmps68
  go_wp2
  go_loopw [5] (fun i wr => ∃ k : Nat, k ≤ l.length ∧ i = .int .i64 (k : Int) ∧ Hid (∀ j, j < k → Ix.okAt l low j = true) ∧ Below w.heap.size w wr) (fun i _ => l.length - (intOf i).toNat)
  case atStart => exact ⟨0, Nat.zero_le _, rfl, Lib.hid fun j hj => absurd hj (by omega), Below.refl _ _⟩
  case round =>
    obtain ⟨k, hk, rfl, hok, hb⟩ := hrel
    by_cases hlt : k < l.length
    · obtain ⟨b, off, rfl, _, _, p0, _, _⟩ := (h.ext hb).intAt hlt
      have hki : Ix.okAt l low k = ((decide (low ≤ l[k]) && decide (l[k] ≤ 1000000)) && (decide (k = 0) || decide (l.getD (k - 1) 0 < l[k]))) := by unfold Ix.okAt; rw [Ix.getD_get hlt]
      have hfalse := fun hf => rising_false (l := l) (low := low) hlt hf
      have hnext : Ix.okAt l low k = true → Hid (∀ j, j < k + 1 → Ix.okAt l low j = true) := fun ht => Lib.hid fun j hj => by
        by_cases e : j = k
        · rw [e]; exact ht
        · exact hok.out j (by omega)
      have hil : (k : Int) < (l.length : Int) := by omega
      have hi0 : (0 : Int) ≤ (k : Int) := by omega
      have hiw : IntKind.i64.wrap (k : Int) = (k : Int) := IntWalk.i64_in _ (by omega)
      by_cases h1 : (decide (low ≤ l[k]) && decide (l[k] ≤ 1000000)) = true
      · by_cases hk0 : k = 0
        · subst hk0
          rw [decide_eq_true rfl, Bool.true_or, Bool.and_true] at hki
          rw [Nat.add_zero] at p0
          obtain ⟨n, hn⟩ : ∃ n, l[0]'hlt = n := ⟨_, rfl⟩
          rw [hn] at hki p0 h1
          have hcl : ∀ V, Calls Tryz.prog 22 #[.int .i64 n, .int .i64 low, .int .i64 1000000] V fun e w' => e = .returned (.bool true) ∧ V = w' := fun V => by
            have := in_ok n low 1000000 V
            rw [h1] at this
            exact this
          have Hki := Lib.hid hki; have Hf := Lib.hid hfalse; have Hn := Lib.hid hnext; have H1 := Lib.hid h1
          clear hki hfalse hnext hn h1
          have hS := cell_ext (below_drewN' wr.heap.size wr 1) p0
          clear p0
          go_wp2_with fail
          refine wp_region_D (fun W => W.cell? ⟨b, off, none⟩ = some (.int .i64 n)) (fun _ => false) (by kernel_rfl) ?_
          change anyD _ _ _ _ _ _ _ _ _ (wr.drewN 1)
          have hbV := below_drewN' wr.heap.size wr 1
          generalize wr.drewN 1 = V0 at hS hbV ⊢
          (refine anyD_light (i := 0) (v := ?_) rfl (by kernel_rfl) (by kernel_rfl) (by kernel_rfl) (by kernel_rfl) (by kernel_rfl) (fun _ _ _ h => h) (.inl ⟨by kernel_rfl, fun W9 hW9 => ?_⟩) hS ?_; rotate_left; · (have hw0 := hW9; go_simp; rfl))
          (refine anyD_light (i := 1) (v := ?_) rfl (by kernel_rfl) (by kernel_rfl) (by kernel_rfl) (by kernel_rfl) (by kernel_rfl) (fun _ _ _ h => h) (.inl ⟨by kernel_rfl, fun W9 hW9 => ?_⟩) hS ?_; rotate_left; · (have hw0 := hW9; go_simp; rfl))
          (refine anyD_light (i := 2) (v := ?_) rfl (by kernel_rfl) (by kernel_rfl) (by kernel_rfl) (by kernel_rfl) (by kernel_rfl) (fun _ _ _ h => h) (.inl ⟨by kernel_rfl, fun W9 hW9 => ?_⟩) hS ?_; rotate_left; · (have hw0 := hW9; go_simp; rfl))
          (refine anyD_light (i := 3) (v := ?_) rfl (by kernel_rfl) (by kernel_rfl) (by kernel_rfl) (by kernel_rfl) (by kernel_rfl) (fun _ _ _ h => h) (.inl ⟨by kernel_rfl, fun W9 hW9 => ?_⟩) hS ?_; rotate_left; · (have hw0 := hW9; go_simp; rfl))
          (refine anyD_light (i := 4) (v := ?_) rfl (by kernel_rfl) (by kernel_rfl) (by kernel_rfl) (by kernel_rfl) (by kernel_rfl) (fun _ _ _ h => h) (.inl ⟨by kernel_rfl, fun W9 hW9 => ?_⟩) hS ?_; rotate_left; · (have hw0 := hW9; go_simp; rfl))
          go_simp
          refine anyD_one (i := 5) (by kernel_rfl) rfl rfl (fun K hK => ?_)
          have HK := Lib.hid hK
          clear hK
          unfold Oper.wp
          go_simp
          refine (hcl V0).mono ?_
          rintro e w2 ⟨rfl, rfl⟩
          have hS := hS
          refine HK.out _ _ (fun _ => hS) ?_
          clear HK
          (refine anyD_light (i := 6) (v := ?_) rfl (by kernel_rfl) (by kernel_rfl) (by kernel_rfl) (by kernel_rfl) (by kernel_rfl) (fun _ _ _ h => h) (.inl ⟨by kernel_rfl, fun W9 hW9 => ?_⟩) hS ?_; rotate_left; · (have hw0 := hW9; go_simp; rfl))
          (refine anyD_light (i := 7) (v := ?_) rfl (by kernel_rfl) (by kernel_rfl) (by kernel_rfl) (by kernel_rfl) (by kernel_rfl) (fun _ _ _ h => h) (.inl ⟨by kernel_rfl, fun W9 hW9 => ?_⟩) hS ?_; rotate_left; · (have hw0 := hW9; go_simp; rfl))
          (refine anyD_light (i := 8) (v := ?_) rfl (by kernel_rfl) (by kernel_rfl) (by kernel_rfl) (by kernel_rfl) (by kernel_rfl) (fun _ _ _ h => h) (.inl ⟨by kernel_rfl, fun W9 hW9 => ?_⟩) hS ?_; rotate_left; · (have hw0 := hW9; go_simp; rfl))
          (refine anyD_light (i := 9) (v := ?_) rfl (by kernel_rfl) (by kernel_rfl) (by kernel_rfl) (by kernel_rfl) (by kernel_rfl) (fun _ _ _ h => h) (.inl ⟨by kernel_rfl, fun W9 hW9 => ?_⟩) hS ?_; rotate_left; · (have hw0 := hW9; go_simp; rfl))
          (refine anyD_light (i := 10) (v := ?_) rfl (by kernel_rfl) (by kernel_rfl) (by kernel_rfl) (by kernel_rfl) (by kernel_rfl) (fun _ _ _ h => h) (.inl ⟨by kernel_rfl, fun W9 hW9 => ?_⟩) hS ?_; rotate_left; · (have hw0 := hW9; go_simp; rfl))
          (refine anyD_light (i := 11) (v := undef) rfl (by kernel_rfl) (by kernel_rfl) (by kernel_rfl) (by kernel_rfl) (by kernel_rfl) (fun _ _ _ h => h) (.inr ⟨by kernel_rfl, rfl⟩) hS ?_)
          go_simp
          (refine anyD_light (i := 12) (v := undef) rfl (by kernel_rfl) (by kernel_rfl) (by kernel_rfl) (by kernel_rfl) (by kernel_rfl) (fun _ _ _ h => h) (.inr ⟨by kernel_rfl, rfl⟩) hS ?_)
          (refine anyD_light (i := 13) (v := undef) rfl (by kernel_rfl) (by kernel_rfl) (by kernel_rfl) (by kernel_rfl) (by kernel_rfl) (fun _ _ _ h => h) (.inr ⟨by kernel_rfl, rfl⟩) hS ?_)
          (refine anyD_light (i := 14) (v := undef) rfl (by kernel_rfl) (by kernel_rfl) (by kernel_rfl) (by kernel_rfl) (by kernel_rfl) (fun _ _ _ h => h) (.inr ⟨by kernel_rfl, rfl⟩) hS ?_)
          (refine anyD_light (i := 15) (v := undef) rfl (by kernel_rfl) (by kernel_rfl) (by kernel_rfl) (by kernel_rfl) (by kernel_rfl) (fun _ _ _ h => h) (.inr ⟨by kernel_rfl, rfl⟩) hS ?_)
          (refine anyD_light (i := 16) (v := undef) rfl (by kernel_rfl) (by kernel_rfl) (by kernel_rfl) (by kernel_rfl) (by kernel_rfl) (fun _ _ _ h => h) (.inr ⟨by kernel_rfl, rfl⟩) hS ?_)
          (refine anyD_light (i := 17) (v := undef) rfl (by kernel_rfl) (by kernel_rfl) (by kernel_rfl) (by kernel_rfl) (by kernel_rfl) (fun _ _ _ h => h) (.inr ⟨by kernel_rfl, rfl⟩) hS ?_)
          go_simp
          (refine anyD_light (i := 18) (v := undef) rfl (by kernel_rfl) (by kernel_rfl) (by kernel_rfl) (by kernel_rfl) (by kernel_rfl) (fun _ _ _ h => h) (.inr ⟨by kernel_rfl, rfl⟩) hS ?_)
          (refine anyD_light (i := 19) (v := undef) rfl (by kernel_rfl) (by kernel_rfl) (by kernel_rfl) (by kernel_rfl) (by kernel_rfl) (fun _ _ _ h => h) (.inr ⟨by kernel_rfl, rfl⟩) hS ?_)
          (refine anyD_light (i := 20) (v := undef) rfl (by kernel_rfl) (by kernel_rfl) (by kernel_rfl) (by kernel_rfl) (by kernel_rfl) (fun _ _ _ h => h) (.inr ⟨by kernel_rfl, rfl⟩) hS ?_)
          (refine anyD_light (i := 21) (v := ?_) rfl (by kernel_rfl) (by kernel_rfl) (by kernel_rfl) (by kernel_rfl) (by kernel_rfl) (fun _ _ _ h => h) (.inl ⟨by kernel_rfl, fun W9 hW9 => ?_⟩) hS ?_; rotate_left; · (have hw0 := hW9; go_simp; rfl))
          (refine anyD_light (i := 22) (v := ?_) rfl (by kernel_rfl) (by kernel_rfl) (by kernel_rfl) (by kernel_rfl) (by kernel_rfl) (fun _ _ _ h => h) (.inl ⟨by kernel_rfl, fun W9 hW9 => ?_⟩) hS ?_; rotate_left; · (have hw0 := hW9; go_simp; rfl))
          go_simp
          refine anyD_done (by kernel_rfl) ?_ _
          have hbr := hb.trans (hbV.mono hb.size)
          have hn1 := Hn.out (by rw [Hki.out, H1.out])
          clear hok
          go_wp2
          go_roundw
          case rel => exact ⟨1, by omega, by go_num, hn1, hbr⟩
          case measure => simp [intOf]; omega
        · obtain ⟨b2, off2, hA, _, _, q0, _, _⟩ := (h.ext hb).intAt (k := k - 1) (by omega)
          injection hA with hA
          injection hA with hA1 hA2
          subst hA1 hA2
          rw [decide_eq_false hk0, Bool.false_or, Ix.getD_get (show k - 1 < l.length by omega)] at hki
          obtain ⟨m, hm⟩ : ∃ m, l[k - 1]'(by omega) = m := ⟨_, rfl⟩
          rw [hm] at hki q0
          obtain ⟨n, hn⟩ : ∃ n, l[k]'hlt = n := ⟨_, rfl⟩
          rw [hn] at hki p0 h1
          have hcl : ∀ V, Calls Tryz.prog 22 #[.int .i64 n, .int .i64 low, .int .i64 1000000] V fun e w' => e = .returned (.bool true) ∧ V = w' := fun V => by
            have := in_ok n low 1000000 V
            rw [h1] at this
            exact this
          have Hki := Lib.hid hki; have Hf := Lib.hid hfalse; have Hn := Lib.hid hnext; have H1 := Lib.hid h1
          clear hki hfalse hnext hn h1
          obtain ⟨k', rfl⟩ : ∃ k', k = k' + 1 := ⟨k - 1, by omega⟩
          rw [Nat.add_sub_cancel] at q0
          have hk1 : (0 : Int) < ((k' + 1 : Nat) : Int) := by omega
          have hw1 : ((k' + 1 : Nat) : Int) - 1 = (k' : Int) := by omega
          have hw2 : IntKind.i64.wrap (k' : Int) = (k' : Int) := IntWalk.i64_in _ (by omega)
          have hj1 : (k' : Int) < (l.length : Int) := by omega
          have hj0 : (0 : Int) ≤ (k' : Int) := by omega
          have hS := And.intro (cell_ext (below_drewN' wr.heap.size wr 1) p0) (cell_ext (below_drewN' wr.heap.size wr 1) q0)
          clear p0 q0 hm
          go_wp2_with fail
          refine wp_region_D (fun W => W.cell? ⟨b, off + (k' + 1), none⟩ = some (.int .i64 n) ∧ W.cell? ⟨b, off + k', none⟩ = some (.int .i64 m)) (fun _ => false) (by kernel_rfl) ?_
          change anyD _ _ _ _ _ _ _ _ _ (wr.drewN 1)
          have hbV := below_drewN' wr.heap.size wr 1
          generalize wr.drewN 1 = V0 at hS hbV ⊢
          (refine anyD_light (i := 0) (v := ?_) rfl (by kernel_rfl) (by kernel_rfl) (by kernel_rfl) (by kernel_rfl) (by kernel_rfl) (fun _ _ _ h => h) (.inl ⟨by kernel_rfl, fun W9 hW9 => ?_⟩) hS ?_; rotate_left; · (obtain ⟨hw0, hw1⟩ := hW9; go_simp; rfl))
          (refine anyD_light (i := 1) (v := ?_) rfl (by kernel_rfl) (by kernel_rfl) (by kernel_rfl) (by kernel_rfl) (by kernel_rfl) (fun _ _ _ h => h) (.inl ⟨by kernel_rfl, fun W9 hW9 => ?_⟩) hS ?_; rotate_left; · (obtain ⟨hw0, hw1⟩ := hW9; go_simp; rfl))
          (refine anyD_light (i := 2) (v := ?_) rfl (by kernel_rfl) (by kernel_rfl) (by kernel_rfl) (by kernel_rfl) (by kernel_rfl) (fun _ _ _ h => h) (.inl ⟨by kernel_rfl, fun W9 hW9 => ?_⟩) hS ?_; rotate_left; · (obtain ⟨hw0, hw1⟩ := hW9; go_simp; rfl))
          (refine anyD_light (i := 3) (v := ?_) rfl (by kernel_rfl) (by kernel_rfl) (by kernel_rfl) (by kernel_rfl) (by kernel_rfl) (fun _ _ _ h => h) (.inl ⟨by kernel_rfl, fun W9 hW9 => ?_⟩) hS ?_; rotate_left; · (obtain ⟨hw0, hw1⟩ := hW9; go_simp; rfl))
          (refine anyD_light (i := 4) (v := ?_) rfl (by kernel_rfl) (by kernel_rfl) (by kernel_rfl) (by kernel_rfl) (by kernel_rfl) (fun _ _ _ h => h) (.inl ⟨by kernel_rfl, fun W9 hW9 => ?_⟩) hS ?_; rotate_left; · (obtain ⟨hw0, hw1⟩ := hW9; go_simp; rfl))
          go_simp
          refine anyD_one (i := 5) (by kernel_rfl) rfl rfl (fun K hK => ?_)
          have HK := Lib.hid hK
          clear hK
          unfold Oper.wp
          go_simp
          refine (hcl V0).mono ?_
          rintro e w2 ⟨rfl, rfl⟩
          have hS := hS
          refine HK.out _ _ (fun _ => hS) ?_
          clear HK
          (refine anyD_light (i := 6) (v := ?_) rfl (by kernel_rfl) (by kernel_rfl) (by kernel_rfl) (by kernel_rfl) (by kernel_rfl) (fun _ _ _ h => h) (.inl ⟨by kernel_rfl, fun W9 hW9 => ?_⟩) hS ?_; rotate_left; · (obtain ⟨hw0, hw1⟩ := hW9; go_simp; rfl))
          (refine anyD_light (i := 7) (v := ?_) rfl (by kernel_rfl) (by kernel_rfl) (by kernel_rfl) (by kernel_rfl) (by kernel_rfl) (fun _ _ _ h => h) (.inl ⟨by kernel_rfl, fun W9 hW9 => ?_⟩) hS ?_; rotate_left; · (obtain ⟨hw0, hw1⟩ := hW9; go_simp; rfl))
          (refine anyD_light (i := 8) (v := ?_) rfl (by kernel_rfl) (by kernel_rfl) (by kernel_rfl) (by kernel_rfl) (by kernel_rfl) (fun _ _ _ h => h) (.inl ⟨by kernel_rfl, fun W9 hW9 => ?_⟩) hS ?_; rotate_left; · (obtain ⟨hw0, hw1⟩ := hW9; go_simp; rfl))
          (refine anyD_light (i := 9) (v := ?_) rfl (by kernel_rfl) (by kernel_rfl) (by kernel_rfl) (by kernel_rfl) (by kernel_rfl) (fun _ _ _ h => h) (.inl ⟨by kernel_rfl, fun W9 hW9 => ?_⟩) hS ?_; rotate_left; · (obtain ⟨hw0, hw1⟩ := hW9; go_simp; rfl))
          (refine anyD_light (i := 10) (v := ?_) rfl (by kernel_rfl) (by kernel_rfl) (by kernel_rfl) (by kernel_rfl) (by kernel_rfl) (fun _ _ _ h => h) (.inl ⟨by kernel_rfl, fun W9 hW9 => ?_⟩) hS ?_; rotate_left; · (obtain ⟨hw0, hw1⟩ := hW9; go_simp; rfl))
          (refine anyD_light (i := 11) (v := ?_) rfl (by kernel_rfl) (by kernel_rfl) (by kernel_rfl) (by kernel_rfl) (by kernel_rfl) (fun _ _ _ h => h) (.inl ⟨by kernel_rfl, fun W9 hW9 => ?_⟩) hS ?_; rotate_left; · (obtain ⟨hw0, hw1⟩ := hW9; go_simp; rfl))
          go_simp
          (refine anyD_light (i := 12) (v := ?_) rfl (by kernel_rfl) (by kernel_rfl) (by kernel_rfl) (by kernel_rfl) (by kernel_rfl) (fun _ _ _ h => h) (.inl ⟨by kernel_rfl, fun W9 hW9 => ?_⟩) hS ?_; rotate_left; · (obtain ⟨hw0, hw1⟩ := hW9; go_simp; rfl))
          (refine anyD_light (i := 13) (v := ?_) rfl (by kernel_rfl) (by kernel_rfl) (by kernel_rfl) (by kernel_rfl) (by kernel_rfl) (fun _ _ _ h => h) (.inl ⟨by kernel_rfl, fun W9 hW9 => ?_⟩) hS ?_; rotate_left; · (obtain ⟨hw0, hw1⟩ := hW9; go_simp; rfl))
          (refine anyD_light (i := 14) (v := ?_) rfl (by kernel_rfl) (by kernel_rfl) (by kernel_rfl) (by kernel_rfl) (by kernel_rfl) (fun _ _ _ h => h) (.inl ⟨by kernel_rfl, fun W9 hW9 => ?_⟩) hS ?_; rotate_left; · (obtain ⟨hw0, hw1⟩ := hW9; go_simp; rfl))
          (refine anyD_light (i := 15) (v := ?_) rfl (by kernel_rfl) (by kernel_rfl) (by kernel_rfl) (by kernel_rfl) (by kernel_rfl) (fun _ _ _ h => h) (.inl ⟨by kernel_rfl, fun W9 hW9 => ?_⟩) hS ?_; rotate_left; · (obtain ⟨hw0, hw1⟩ := hW9; go_simp; rfl))
          (refine anyD_light (i := 16) (v := ?_) rfl (by kernel_rfl) (by kernel_rfl) (by kernel_rfl) (by kernel_rfl) (by kernel_rfl) (fun _ _ _ h => h) (.inl ⟨by kernel_rfl, fun W9 hW9 => ?_⟩) hS ?_; rotate_left; · (obtain ⟨hw0, hw1⟩ := hW9; go_simp; rfl))
          (refine anyD_light (i := 17) (v := ?_) rfl (by kernel_rfl) (by kernel_rfl) (by kernel_rfl) (by kernel_rfl) (by kernel_rfl) (fun _ _ _ h => h) (.inl ⟨by kernel_rfl, fun W9 hW9 => ?_⟩) hS ?_; rotate_left; · (obtain ⟨hw0, hw1⟩ := hW9; go_simp; rfl))
          go_simp
          (refine anyD_light (i := 18) (v := ?_) rfl (by kernel_rfl) (by kernel_rfl) (by kernel_rfl) (by kernel_rfl) (by kernel_rfl) (fun _ _ _ h => h) (.inl ⟨by kernel_rfl, fun W9 hW9 => ?_⟩) hS ?_; rotate_left; · (obtain ⟨hw0, hw1⟩ := hW9; go_simp; rfl))
          (refine anyD_light (i := 19) (v := ?_) rfl (by kernel_rfl) (by kernel_rfl) (by kernel_rfl) (by kernel_rfl) (by kernel_rfl) (fun _ _ _ h => h) (.inl ⟨by kernel_rfl, fun W9 hW9 => ?_⟩) hS ?_; rotate_left; · (obtain ⟨hw0, hw1⟩ := hW9; go_simp; rfl))
          (refine anyD_light (i := 20) (v := ?_) rfl (by kernel_rfl) (by kernel_rfl) (by kernel_rfl) (by kernel_rfl) (by kernel_rfl) (fun _ _ _ h => h) (.inl ⟨by kernel_rfl, fun W9 hW9 => ?_⟩) hS ?_; rotate_left; · (obtain ⟨hw0, hw1⟩ := hW9; go_simp; rfl))
          (refine anyD_light (i := 21) (v := ?_) rfl (by kernel_rfl) (by kernel_rfl) (by kernel_rfl) (by kernel_rfl) (by kernel_rfl) (fun _ _ _ h => h) (.inl ⟨by kernel_rfl, fun W9 hW9 => ?_⟩) hS ?_; rotate_left; · (obtain ⟨hw0, hw1⟩ := hW9; go_simp; rfl))
          (refine anyD_light (i := 22) (v := ?_) rfl (by kernel_rfl) (by kernel_rfl) (by kernel_rfl) (by kernel_rfl) (by kernel_rfl) (fun _ _ _ h => h) (.inl ⟨by kernel_rfl, fun W9 hW9 => ?_⟩) hS ?_; rotate_left; · (obtain ⟨hw0, hw1⟩ := hW9; go_simp; rfl))
          go_simp
          refine anyD_done (by kernel_rfl) ?_ _
          have hbr := hb.trans (hbV.mono hb.size)
          by_cases h3 : n ≤ m
          · have hd3 : decide (n ≤ m) = true := decide_eq_true h3
            go_wp2
            go_ret
            exact ⟨ret_bool (Hf.out (by rw [Hki.out, decide_eq_false (show ¬ m < n by omega), Bool.and_false])).symm, hbr⟩
          · have hd3 : decide (n ≤ m) = false := decide_eq_false h3
            have hn1 := Hn.out (by rw [Hki.out, H1.out, decide_eq_true (by omega)]; rfl)
            clear hok
            go_wp2
            go_roundw
            case rel => exact ⟨k' + 2, by omega, by go_num, hn1, hbr⟩
            case measure => simp [intOf]; omega
      · replace h1 : (decide (low ≤ l[k]) && decide (l[k] ≤ 1000000)) = false := by simpa using h1
        obtain ⟨n, hn⟩ : ∃ n, l[k]'hlt = n := ⟨_, rfl⟩
        rw [hn] at hki p0 h1
        have hcl : ∀ V, Calls Tryz.prog 22 #[.int .i64 n, .int .i64 low, .int .i64 1000000] V fun e w' => e = .returned (.bool false) ∧ V = w' := fun V => by
          have := in_ok n low 1000000 V
          rw [h1] at this
          exact this
        have Hki := Lib.hid hki; have Hf := Lib.hid hfalse; have Hn := Lib.hid hnext; have H1 := Lib.hid h1
        clear hki hfalse hnext hn h1
        have hS := cell_ext (below_drewN' wr.heap.size wr 1) p0
        clear p0
        go_wp2_with fail
        refine wp_region_D (fun W => W.cell? ⟨b, off + k, none⟩ = some (.int .i64 n)) (fun _ => false) (by kernel_rfl) ?_
        change anyD _ _ _ _ _ _ _ _ _ (wr.drewN 1)
        have hbV := below_drewN' wr.heap.size wr 1
        generalize wr.drewN 1 = V0 at hS hbV ⊢
        (refine anyD_light (i := 0) (v := ?_) rfl (by kernel_rfl) (by kernel_rfl) (by kernel_rfl) (by kernel_rfl) (by kernel_rfl) (fun _ _ _ h => h) (.inl ⟨by kernel_rfl, fun W9 hW9 => ?_⟩) hS ?_; rotate_left; · (have hw0 := hW9; go_simp; rfl))
        (refine anyD_light (i := 1) (v := ?_) rfl (by kernel_rfl) (by kernel_rfl) (by kernel_rfl) (by kernel_rfl) (by kernel_rfl) (fun _ _ _ h => h) (.inl ⟨by kernel_rfl, fun W9 hW9 => ?_⟩) hS ?_; rotate_left; · (have hw0 := hW9; go_simp; rfl))
        (refine anyD_light (i := 2) (v := ?_) rfl (by kernel_rfl) (by kernel_rfl) (by kernel_rfl) (by kernel_rfl) (by kernel_rfl) (fun _ _ _ h => h) (.inl ⟨by kernel_rfl, fun W9 hW9 => ?_⟩) hS ?_; rotate_left; · (have hw0 := hW9; go_simp; rfl))
        (refine anyD_light (i := 3) (v := ?_) rfl (by kernel_rfl) (by kernel_rfl) (by kernel_rfl) (by kernel_rfl) (by kernel_rfl) (fun _ _ _ h => h) (.inl ⟨by kernel_rfl, fun W9 hW9 => ?_⟩) hS ?_; rotate_left; · (have hw0 := hW9; go_simp; rfl))
        (refine anyD_light (i := 4) (v := ?_) rfl (by kernel_rfl) (by kernel_rfl) (by kernel_rfl) (by kernel_rfl) (by kernel_rfl) (fun _ _ _ h => h) (.inl ⟨by kernel_rfl, fun W9 hW9 => ?_⟩) hS ?_; rotate_left; · (have hw0 := hW9; go_simp; rfl))
        go_simp
        refine anyD_one (i := 5) (by kernel_rfl) rfl rfl (fun K hK => ?_)
        have HK := Lib.hid hK
        clear hK
        unfold Oper.wp
        go_simp
        refine (hcl V0).mono ?_
        rintro e w2 ⟨rfl, rfl⟩
        have hS := hS
        refine HK.out _ _ (fun _ => hS) ?_
        clear HK
        (refine anyD_light (i := 6) (v := ?_) rfl (by kernel_rfl) (by kernel_rfl) (by kernel_rfl) (by kernel_rfl) (by kernel_rfl) (fun _ _ _ h => h) (.inl ⟨by kernel_rfl, fun W9 hW9 => ?_⟩) hS ?_; rotate_left; · (have hw0 := hW9; go_simp; rfl))
        (refine anyD_light (i := 7) (v := ?_) rfl (by kernel_rfl) (by kernel_rfl) (by kernel_rfl) (by kernel_rfl) (by kernel_rfl) (fun _ _ _ h => h) (.inl ⟨by kernel_rfl, fun W9 hW9 => ?_⟩) hS ?_; rotate_left; · (have hw0 := hW9; go_simp; rfl))
        (refine anyD_light (i := 8) (v := undef) rfl (by kernel_rfl) (by kernel_rfl) (by kernel_rfl) (by kernel_rfl) (by kernel_rfl) (fun _ _ _ h => h) (.inr ⟨by kernel_rfl, rfl⟩) hS ?_)
        (refine anyD_light (i := 9) (v := undef) rfl (by kernel_rfl) (by kernel_rfl) (by kernel_rfl) (by kernel_rfl) (by kernel_rfl) (fun _ _ _ h => h) (.inr ⟨by kernel_rfl, rfl⟩) hS ?_)
        (refine anyD_light (i := 10) (v := undef) rfl (by kernel_rfl) (by kernel_rfl) (by kernel_rfl) (by kernel_rfl) (by kernel_rfl) (fun _ _ _ h => h) (.inr ⟨by kernel_rfl, rfl⟩) hS ?_)
        (refine anyD_light (i := 11) (v := undef) rfl (by kernel_rfl) (by kernel_rfl) (by kernel_rfl) (by kernel_rfl) (by kernel_rfl) (fun _ _ _ h => h) (.inr ⟨by kernel_rfl, rfl⟩) hS ?_)
        go_simp
        (refine anyD_light (i := 12) (v := undef) rfl (by kernel_rfl) (by kernel_rfl) (by kernel_rfl) (by kernel_rfl) (by kernel_rfl) (fun _ _ _ h => h) (.inr ⟨by kernel_rfl, rfl⟩) hS ?_)
        (refine anyD_light (i := 13) (v := undef) rfl (by kernel_rfl) (by kernel_rfl) (by kernel_rfl) (by kernel_rfl) (by kernel_rfl) (fun _ _ _ h => h) (.inr ⟨by kernel_rfl, rfl⟩) hS ?_)
        (refine anyD_light (i := 14) (v := undef) rfl (by kernel_rfl) (by kernel_rfl) (by kernel_rfl) (by kernel_rfl) (by kernel_rfl) (fun _ _ _ h => h) (.inr ⟨by kernel_rfl, rfl⟩) hS ?_)
        (refine anyD_light (i := 15) (v := undef) rfl (by kernel_rfl) (by kernel_rfl) (by kernel_rfl) (by kernel_rfl) (by kernel_rfl) (fun _ _ _ h => h) (.inr ⟨by kernel_rfl, rfl⟩) hS ?_)
        (refine anyD_light (i := 16) (v := undef) rfl (by kernel_rfl) (by kernel_rfl) (by kernel_rfl) (by kernel_rfl) (by kernel_rfl) (fun _ _ _ h => h) (.inr ⟨by kernel_rfl, rfl⟩) hS ?_)
        (refine anyD_light (i := 17) (v := undef) rfl (by kernel_rfl) (by kernel_rfl) (by kernel_rfl) (by kernel_rfl) (by kernel_rfl) (fun _ _ _ h => h) (.inr ⟨by kernel_rfl, rfl⟩) hS ?_)
        go_simp
        (refine anyD_light (i := 18) (v := undef) rfl (by kernel_rfl) (by kernel_rfl) (by kernel_rfl) (by kernel_rfl) (by kernel_rfl) (fun _ _ _ h => h) (.inr ⟨by kernel_rfl, rfl⟩) hS ?_)
        (refine anyD_light (i := 19) (v := undef) rfl (by kernel_rfl) (by kernel_rfl) (by kernel_rfl) (by kernel_rfl) (by kernel_rfl) (fun _ _ _ h => h) (.inr ⟨by kernel_rfl, rfl⟩) hS ?_)
        (refine anyD_light (i := 20) (v := undef) rfl (by kernel_rfl) (by kernel_rfl) (by kernel_rfl) (by kernel_rfl) (by kernel_rfl) (fun _ _ _ h => h) (.inr ⟨by kernel_rfl, rfl⟩) hS ?_)
        (refine anyD_light (i := 21) (v := undef) rfl (by kernel_rfl) (by kernel_rfl) (by kernel_rfl) (by kernel_rfl) (by kernel_rfl) (fun _ _ _ h => h) (.inr ⟨by kernel_rfl, rfl⟩) hS ?_)
        (refine anyD_light (i := 22) (v := ?_) rfl (by kernel_rfl) (by kernel_rfl) (by kernel_rfl) (by kernel_rfl) (by kernel_rfl) (fun _ _ _ h => h) (.inl ⟨by kernel_rfl, fun W9 hW9 => ?_⟩) hS ?_; rotate_left; · (have hw0 := hW9; go_simp; rfl))
        go_simp
        refine anyD_done (by kernel_rfl) ?_ _
        have hbr := hb.trans (hbV.mono hb.size)
        go_wp2
        go_ret
        exact ⟨ret_bool (Hf.out (by rw [Hki.out, H1.out, Bool.false_and])).symm, hbr⟩
    · obtain rfl : k = l.length := by omega
      have ht := rising_true (l := l) (low := low) hok.out
      have Ht := Lib.hid ht
      clear ht hok
      go_wp2
      go_ret
      exact ⟨ret_bool Ht.out.symm, hb⟩
theorem look_step {ts : List Ix.Term} {x : Str} {k : Nat} (h : ∀ (j : Nat) (hj : j < ts.length), j < k → ¬ ts[j].1 = x) : (∀ (hk : k < ts.length), ts[k].1 = x → Al.look ts x = some ts[k].2) ∧ (k = ts.length → Al.look ts x = none) := by
  induction ts generalizing k with
  | nil => exact ⟨fun hk => absurd hk (by simp), fun _ => rfl⟩
  | cons t ts ih =>
    cases k with
    | zero =>
      refine ⟨fun _ e => ?_, fun e => by simp at e⟩
      rw [List.getElem_cons_zero] at e ⊢
      rw [Al.look, if_pos e]
    | succ k =>
      have h0 := h 0 (by simp) (by omega)
      rw [List.getElem_cons_zero] at h0
      have ih := ih (k := k) fun j hj hjk => by have := h (j + 1) (by simpa using hj) (by omega); simpa using this
      rw [Al.look, if_neg h0]
      exact ⟨fun hk e => by rw [List.getElem_cons_succ] at e ⊢; exact ih.1 (by simpa using hk) e, fun e => ih.2 (by simpa using e)⟩
set_option maxRecDepth 20000 in
set_option maxHeartbeats 2000000 in
theorem lawPostings_ok (M : Nat → Prop) (a b : Value) (ids : List Int) (ts : List Ix.Term) (x : Str) (w : World) (h1 : SlR termC M w b ts) : Calls Tryz.prog 72 #[.agg #[a, b], .string (bs x)] w fun e w' => ∃ v, e = .returned v ∧ SlR postC M w' v (Ix.postingsF (ids, ts) x) ∧ Below w.heap.size w w' := by
  obtain ⟨A1, c1, rfl, hlc, hcm⟩ := h1.form
  unfold maxLen at hcm
  have hal := (Below.refl w.heap.size w).alloc (Nat.le_refl _) (.cells #[a, .slice A1 ts.length c1] 25)
  obtain ⟨W, hW⟩ : ∃ W, w.alloc (.cells #[a, .slice A1 ts.length c1] 25) = W := ⟨_, rfl⟩
  obtain ⟨g0, hg0⟩ : ∃ g, w.heap.size = g := ⟨_, rfl⟩
  have kb := Blk.new w 25 #[a, .slice A1 ts.length c1]
  obtain ⟨q0, q1, _, _, _⟩ := kb.two
  rw [hW] at hal kb
  rw [hg0] at kb
  have h1 := h1.ext hal
  have hj : ∀ wr, Below W.heap.size W wr → wr.cell? ⟨g0, 1, none⟩ = some (.slice A1 ts.length c1) := fun wr hb => (kb.ext hb).two.2.1
  have Hj := Lib.hid hj; have HW := Lib.hid (And.intro hW hg0)
  clear q0 q1 hj kb hW hg0
  have q1 := Hj.out W (Below.refl _ _)
  unfold Ix.postingsF
  dsimp only
  go_enter Tryz.func72, Tryz.ntmps72
  go_wp2
  rw [HW.out.1, HW.out.2]
  go_loopw [5] (fun i wr => ∃ k : Nat, k ≤ ts.length ∧ i = .int .i64 k ∧ Hid (∀ (j : Nat) (hj : j < ts.length), j < k → ¬ ts[j].1 = x) ∧ wr = W) (fun i _ => ts.length - (intOf i).toNat)
  case atStart => exact ⟨0, Nat.zero_le _, rfl, Lib.hid fun j _ h => absurd h (by omega), rfl⟩
  case round =>
    obtain ⟨k, hk, rfl, hpre, rfl⟩ := hrel
    by_cases hlt : k < ts.length
    · obtain ⟨b2, off, A2, c2, rfl, _, _, p0, p1, _, hq⟩ := h1.termAt hlt
      have hst := (look_step hpre.out).1 hlt
      obtain ⟨⟨y, l⟩, hx⟩ : ∃ x, x = ts[k] := ⟨_, rfl⟩
      rw [← hx] at p0 p1 hq hst
      have Hx := Lib.hid hx; have Hst := Lib.hid hst
      clear hx hst
      have hk0 : (0 : Int) ≤ (k : Int) := by omega
      have hk1 : (k : Int) < (ts.length : Int) := by omega
      have hkw : IntKind.i64.wrap (k : Int) = (k : Int) := IntWalk.i64_in _ (by omega)
      dsimp only at p0 p1 hq
      by_cases e : y = x
      · subst e
        have hee : (y == y) = true := beq_self_eq_true y
        have Hst2 := Lib.hid (Hst.out rfl)
        clear Hst
        go_wp2
        go_ret
        refine ⟨_, rfl, ?_, hal⟩
        rw [Hst2.out]
        exact hq
      · have hee : (y == x) = false := by rw [beq_eq_false_iff_ne]; exact e
        clear hq
        go_wp2
        go_roundw
        case rel => exact ⟨k + 1, by omega, by go_num, Lib.hid fun j hj hjk => by
          by_cases e2 : j = k
          · subst e2; rw [← Hx.out]; exact e
          · exact hpre.out j hj (by omega), trivial⟩
        case measure => simp [intOf]; omega
    · have hn := (look_step hpre.out).2 (by omega)
      have Hn := Lib.hid hn
      clear hn hpre
      go_wp2
      go_ret
      refine ⟨_, rfl, ?_, hal⟩
      rw [Hn.out]
      exact SlR.nil _ _ _
end Go.Proofs.YtfjpedgddgbelaaGreatDoor
/-
  SearchObeysLogic: the law's walk.
-/
namespace Go.Proofs.YtfjpedgddgbelaaGreatDoor
open Go.RowKit
set_option linter.unusedVariables false
def orQ (p q : Q) : Q := .node 7 [] 0 [p, q]
def andQ (p q : Q) : Q := .node 6 [] 0 [p, q]
def notQ (p : Q) : Q := .node 8 [] 0 [p]
/-- where all five are found without a fault -/
theorem obeys_all {x : Ix.Idx} {p q : Q} (h1 : (Sr.findR x p).2.1 = 0) (h2 : (Sr.findR x q).2.1 = 0) (h3 : (Sr.findR x (notQ p)).2.1 = 0) (h4 : (Sr.findR x (andQ p q)).2.1 = 0) (h5 : (Sr.findR x (orQ p q)).2.1 = 0) {id : Int} (hid : id ∈ x.1) :
    (Sr.findR x (notQ p)).1.contains id = !(Sr.findR x p).1.contains id ∧ (Sr.findR x (andQ p q)).1.contains id = ((Sr.findR x p).1.contains id && (Sr.findR x q).1.contains id) ∧ (Sr.findR x (orQ p q)).1.contains id = ((Sr.findR x p).1.contains id || (Sr.findR x q).1.contains id) := by
  have key : ∀ r : Q, (Sr.findR x r).2.1 = 0 → (Q.fault r).1 = 0 ∧ (Sr.findR x r).1 = Sr.foundF x r := fun r h => by
    unfold Sr.findR at h ⊢
    by_cases hi : (Ix.indexF x).1 ≠ 0
    · rw [if_pos hi] at h; exact absurd h hi
    · rw [if_neg hi] at h ⊢
      by_cases hq : (Q.fault r).1 ≠ 0
      · rw [if_pos hq] at h; exact absurd h hq
      · rw [if_neg hq]; exact ⟨by simpa using hq, rfl⟩
  obtain ⟨f1, e1⟩ := key _ h1
  obtain ⟨f2, e2⟩ := key _ h2
  obtain ⟨f3, e3⟩ := key _ h3
  obtain ⟨f4, e4⟩ := key _ h4
  obtain ⟨f5, e5⟩ := key _ h5
  rw [e1, e2, e3, e4, e5, Sr.found_mem hid, Sr.found_mem hid, Sr.found_mem hid, Sr.found_mem hid, Sr.found_mem hid]
  exact Sr.obeys f1 f2 f3 f4 f5 id
set_option maxRecDepth 100000 in
set_option maxHeartbeats 8000000 in
theorem sobeys_ok (a b pv qv : Value) (x : Ix.Idx) (p q : Q) (f : Nat) (w : World) (hx0 : SlR intC M0 w a x.1) (hx1 : SlR termC M0 w b x.2) (hp : QAt f M0 w pv p) (hq : QAt f M0 w qv q) (hsz : SzIx x.2) (hbp : p.bulk ≤ 1048576) (hbq : q.bulk ≤ 1048576) (hT : TabsU w) :
    Calls Tryz.prog 5 #[.agg #[a, b], pv, qv] w fun e w' => e = .returned (.bool true) ∧ Below w.heap.size w w' := by
  have hbw := Below.refl w.heap.size w
  obtain ⟨A0, c0, rfl, hlc0, hcm0⟩ := hx0.form
  obtain ⟨A1, c1, rfl, _, _⟩ := hx1.form
  unfold maxLen at hcm0
  have qp := hp; have qq := hq
  obtain ⟨Ap, cp, rfl, _, _, _, _⟩ := hp
  obtain ⟨Aq, cq, rfl, _, _, _, _⟩ := hq
  have hall := @obeys_all x p q
  have hbn : (notQ p).bulk ≤ 4000000 := by simp [notQ, Q.bulk, Q.bulks]; omega
  have hba : (andQ p q).bulk ≤ 4000000 := by simp [andQ, Q.bulk, Q.bulks]; omega
  have hbo : (orQ p q).bulk ≤ 4000000 := by simp [orQ, Q.bulk, Q.bulks]; omega
  obtain ⟨⟨L1, z1, y1⟩, hr1⟩ : ∃ r, Sr.findR x p = r := ⟨_, rfl⟩
  obtain ⟨⟨L2, z2, y2⟩, hr2⟩ : ∃ r, Sr.findR x q = r := ⟨_, rfl⟩
  obtain ⟨⟨L3, z3, y3⟩, hr3⟩ : ∃ r, Sr.findR x (notQ p) = r := ⟨_, rfl⟩
  obtain ⟨⟨L4, z4, y4⟩, hr4⟩ : ∃ r, Sr.findR x (andQ p q) = r := ⟨_, rfl⟩
  obtain ⟨⟨L5, z5, y5⟩, hr5⟩ : ∃ r, Sr.findR x (orQ p q) = r := ⟨_, rfl⟩
  rw [hr1, hr2, hr3, hr4, hr5] at hall
  dsimp only at hall
  have Hall := Lib.hid hall
  have Hr1 := Lib.hid hr1; have Hr2 := Lib.hid hr2; have Hr3 := Lib.hid hr3; have Hr4 := Lib.hid hr4; have Hr5 := Lib.hid hr5
  clear hall hr1 hr2 hr3 hr4 hr5
  obtain ⟨pl, hpl⟩ : ∃ n, p.parts.length = n := ⟨_, rfl⟩
  obtain ⟨ql, hql⟩ : ∃ n, q.parts.length = n := ⟨_, rfl⟩
  rw [hpl] at qp ⊢
  rw [hql] at qq ⊢
  obtain ⟨W0, g, hW, hg, hs, kx, kp, kq, hal⟩ := box3 w #[.slice A0 x.1.length c0, .slice A1 x.2.length c1] #[.int .i64 p.kind, .string (bs p.text), .int .i64 p.num, .slice Ap pl cp] #[.int .i64 q.kind, .string (bs q.text), .int .i64 q.num, .slice Aq ql cq] 25 50 50
  have HW := Lib.hid hW
  clear hW hs hpl hql
  replace hx0 := hx0.ext hal
  replace hx1 := hx1.ext hal
  replace hT := hT.ext hal
  replace qp := qp.ext hal
  replace qq := qq.ext hal
  replace hbw := hbw.trans (hal.mono hbw.size)
  clear hal
  go_enter Tryz.func5, Tryz.ntmps5
  go_wp2_with fail
  rw [HW.out]
  refine (srchExample_ok W0 hT).mono ?_
  rintro e w1 ⟨rfl, hb1⟩
  replace hx0 := hx0.ext hb1
  replace hx1 := hx1.ext hb1
  replace hT := hT.ext hb1
  replace qp := qp.ext hb1
  replace qq := qq.ext hb1
  replace kx := kx.ext hb1
  replace kp := kp.ext hb1
  replace kq := kq.ext hb1
  replace hbw := hbw.trans (hb1.mono hbw.size)
  clear hb1
  have hc := sfind_ok (.slice A0 x.1.length c0) (.slice A1 x.2.length c1) (.agg #[.int .i64 p.kind, .string (bs p.text), .int .i64 p.num, .slice Ap pl cp]) x (p) (f) w1 hx0 hx1 qp hsz (by omega) hT
  unfold SFindAt at hc
  rw [Hr1.out] at hc
  dsimp only at hc
  have Hc := Lib.hid hc
  clear hc
  obtain ⟨x0, x1, _, _, _⟩ := (kx).two
  obtain ⟨p0, p1, p2, p3, _⟩ := (kp).four
  obtain ⟨q0, q1, q2, q3, _⟩ := (kq).four
  go_wp2_with fail
  clear x0 x1 p0 p1 p2 p3 q0 q1 q2 q3
  refine Hc.out.mono ?_
  rintro e w2 ⟨B1, d1, M1, rfl, hM1, hown, hb2⟩
  have r1 := hown.read0
  clear hown
  obtain rfl : M1 = L1 := hM1.out
  clear hM1
  replace hx0 := hx0.ext hb2
  replace hx1 := hx1.ext hb2
  replace hT := hT.ext hb2
  replace qp := qp.ext hb2
  replace qq := qq.ext hb2
  replace kx := kx.ext hb2
  replace kp := kp.ext hb2
  replace kq := kq.ext hb2
  replace hbw := hbw.trans (hb2.mono hbw.size)
  clear hb2
  obtain ⟨W2, g1, hW1, hg1, hs1, k1, hal⟩ := boxA w2 #[.int .i64 z1, .int .i64 y1] 27
  obtain ⟨x0, x1, _, _, _⟩ := (kx.alloc (.cells #[.int .i64 z1, .int .i64 y1] 27)).two
  obtain ⟨p0, p1, p2, p3, _⟩ := (kp.alloc (.cells #[.int .i64 z1, .int .i64 y1] 27)).four
  obtain ⟨q0, q1, q2, q3, _⟩ := (kq.alloc (.cells #[.int .i64 z1, .int .i64 y1] 27)).four
  have HW1 := Lib.hid hW1
  clear hW1 hs1
  replace hx0 := hx0.ext hal
  replace hx1 := hx1.ext hal
  replace hT := hT.ext hal
  replace qp := qp.ext hal
  replace qq := qq.ext hal
  replace kx := kx.ext hal
  replace kp := kp.ext hal
  replace kq := kq.ext hal
  replace r1 := r1.ext hal
  replace hbw := hbw.trans (hal.mono hbw.size)
  clear hal
  have hc := sfind_ok (.slice A0 x.1.length c0) (.slice A1 x.2.length c1) (.agg #[.int .i64 q.kind, .string (bs q.text), .int .i64 q.num, .slice Aq ql cq]) x (q) (f) W2 hx0 hx1 qq hsz (by omega) hT
  unfold SFindAt at hc
  rw [Hr2.out] at hc
  dsimp only at hc
  have Hc := Lib.hid hc
  clear hc
  go_wp2_with fail
  rw [HW1.out]
  clear x0 x1 p0 p1 p2 p3 q0 q1 q2 q3
  refine Hc.out.mono ?_
  rintro e w3 ⟨B2, d2, M2, rfl, hM2, hown, hb3⟩
  have r2 := hown.read0
  clear hown
  obtain rfl : M2 = L2 := hM2.out
  clear hM2
  replace hx0 := hx0.ext hb3
  replace hx1 := hx1.ext hb3
  replace hT := hT.ext hb3
  replace qp := qp.ext hb3
  replace qq := qq.ext hb3
  replace kx := kx.ext hb3
  replace kp := kp.ext hb3
  replace kq := kq.ext hb3
  replace r1 := r1.ext hb3
  replace k1 := k1.ext hb3
  replace hbw := hbw.trans (hb3.mono hbw.size)
  clear hb3
  obtain ⟨W3, g2, hW2, hg2, hs2, k2, kr, hal⟩ := boxPair w3 #[.int .i64 z2, .int .i64 y2] 27 #[.int .i64 p.kind, .string (bs p.text), .int .i64 p.num, .slice Ap pl cp] 50
  obtain ⟨x0, x1, _, _, _⟩ := (kx.alloc (.cells #[.int .i64 z2, .int .i64 y2] 27)).two
  obtain ⟨p0, p1, p2, p3, _⟩ := (kp.alloc (.cells #[.int .i64 z2, .int .i64 y2] 27)).four
  obtain ⟨q0, q1, q2, q3, _⟩ := (kq.alloc (.cells #[.int .i64 z2, .int .i64 y2] 27)).four
  have HW2 := Lib.hid hW2
  clear hW2 hs2
  replace hx0 := hx0.ext hal
  replace hx1 := hx1.ext hal
  replace hT := hT.ext hal
  replace qp := qp.ext hal
  replace qq := qq.ext hal
  replace kx := kx.ext hal
  replace kp := kp.ext hal
  replace kq := kq.ext hal
  replace r1 := r1.ext hal
  replace k1 := k1.ext hal
  replace r2 := r2.ext hal
  replace hbw := hbw.trans (hal.mono hbw.size)
  clear hal
  have hrow : SlR (qF (f + 1)) M0 W3 (.slice (some ⟨g2 + 1, 0, none⟩) 1 1) [p] := SlR.of_blk (cs := [.int .i64 p.kind, .string (bs p.text), .int .i64 p.num, .slice Ap pl cp]) kr (Els.single qp.rd) (by simp [maxLen]) rfl
  have hqa : QAt (f + 1) M0 W3 (.agg #[.int .i64 8, .string ⟨#[]⟩, .int .i64 0, .slice (some ⟨g2 + 1, 0, none⟩) 1 1]) (notQ p) := qnode 8 hrow rfl (by omega)
  have hc := sfind_ok (.slice A0 x.1.length c0) (.slice A1 x.2.length c1) (.agg #[.int .i64 8, .string ⟨#[]⟩, .int .i64 0, .slice (some ⟨g2 + 1, 0, none⟩) 1 1]) x (notQ p) (f + 1) W3 hx0 hx1 hqa hsz hbn hT
  unfold SFindAt at hc
  rw [Hr3.out] at hc
  dsimp only at hc
  have Hc := Lib.hid hc
  clear hc
  clear hrow hqa kr
  go_wp2_with fail
  rw [HW2.out]
  clear x0 x1 p0 p1 p2 p3 q0 q1 q2 q3
  refine Hc.out.mono ?_
  rintro e w4 ⟨B3, d3, M3, rfl, hM3, hown, hb4⟩
  have r3 := hown.read0
  clear hown
  obtain rfl : M3 = L3 := hM3.out
  clear hM3
  replace hx0 := hx0.ext hb4
  replace hx1 := hx1.ext hb4
  replace hT := hT.ext hb4
  replace qp := qp.ext hb4
  replace qq := qq.ext hb4
  replace kx := kx.ext hb4
  replace kp := kp.ext hb4
  replace kq := kq.ext hb4
  replace r1 := r1.ext hb4
  replace k1 := k1.ext hb4
  replace r2 := r2.ext hb4
  replace k2 := k2.ext hb4
  replace hbw := hbw.trans (hb4.mono hbw.size)
  clear hb4
  obtain ⟨W4, g3, hW3, hg3, hs3, k3, kr, hal⟩ := boxPair w4 #[.int .i64 z3, .int .i64 y3] 27 #[.int .i64 p.kind, .string (bs p.text), .int .i64 p.num, .slice Ap pl cp, .int .i64 q.kind, .string (bs q.text), .int .i64 q.num, .slice Aq ql cq] 50
  obtain ⟨x0, x1, _, _, _⟩ := (kx.alloc (.cells #[.int .i64 z3, .int .i64 y3] 27)).two
  obtain ⟨p0, p1, p2, p3, _⟩ := (kp.alloc (.cells #[.int .i64 z3, .int .i64 y3] 27)).four
  obtain ⟨q0, q1, q2, q3, _⟩ := (kq.alloc (.cells #[.int .i64 z3, .int .i64 y3] 27)).four
  have HW3 := Lib.hid hW3
  clear hW3 hs3
  replace hx0 := hx0.ext hal
  replace hx1 := hx1.ext hal
  replace hT := hT.ext hal
  replace qp := qp.ext hal
  replace qq := qq.ext hal
  replace kx := kx.ext hal
  replace kp := kp.ext hal
  replace kq := kq.ext hal
  replace r1 := r1.ext hal
  replace k1 := k1.ext hal
  replace r2 := r2.ext hal
  replace k2 := k2.ext hal
  replace r3 := r3.ext hal
  replace hbw := hbw.trans (hal.mono hbw.size)
  clear hal
  have hrow : SlR (qF (f + 1)) M0 W4 (.slice (some ⟨g3 + 1, 0, none⟩) 2 2) [p, q] := SlR.of_blk (cs := [.int .i64 p.kind, .string (bs p.text), .int .i64 p.num, .slice Ap pl cp] ++ [.int .i64 q.kind, .string (bs q.text), .int .i64 q.num, .slice Aq ql cq]) kr ((Els.single qp.rd).append (Els.single qq.rd)) (by simp [maxLen]) rfl
  have hqa : QAt (f + 1) M0 W4 (.agg #[.int .i64 6, .string ⟨#[]⟩, .int .i64 0, .slice (some ⟨g3 + 1, 0, none⟩) 2 2]) (andQ p q) := qnode 6 hrow rfl (by omega)
  have hc := sfind_ok (.slice A0 x.1.length c0) (.slice A1 x.2.length c1) (.agg #[.int .i64 6, .string ⟨#[]⟩, .int .i64 0, .slice (some ⟨g3 + 1, 0, none⟩) 2 2]) x (andQ p q) (f + 1) W4 hx0 hx1 hqa hsz hba hT
  unfold SFindAt at hc
  rw [Hr4.out] at hc
  dsimp only at hc
  have Hc := Lib.hid hc
  clear hc
  clear hrow hqa kr
  go_wp2_with fail
  rw [HW3.out]
  clear x0 x1 p0 p1 p2 p3 q0 q1 q2 q3
  refine Hc.out.mono ?_
  rintro e w5 ⟨B4, d4, M4, rfl, hM4, hown, hb5⟩
  have r4 := hown.read0
  clear hown
  obtain rfl : M4 = L4 := hM4.out
  clear hM4
  replace hx0 := hx0.ext hb5
  replace hx1 := hx1.ext hb5
  replace hT := hT.ext hb5
  replace qp := qp.ext hb5
  replace qq := qq.ext hb5
  replace kx := kx.ext hb5
  replace kp := kp.ext hb5
  replace kq := kq.ext hb5
  replace r1 := r1.ext hb5
  replace k1 := k1.ext hb5
  replace r2 := r2.ext hb5
  replace k2 := k2.ext hb5
  replace r3 := r3.ext hb5
  replace k3 := k3.ext hb5
  replace hbw := hbw.trans (hb5.mono hbw.size)
  clear hb5
  obtain ⟨W5, g4, hW4, hg4, hs4, k4, kr, hal⟩ := boxPair w5 #[.int .i64 z4, .int .i64 y4] 27 #[.int .i64 p.kind, .string (bs p.text), .int .i64 p.num, .slice Ap pl cp, .int .i64 q.kind, .string (bs q.text), .int .i64 q.num, .slice Aq ql cq] 50
  obtain ⟨x0, x1, _, _, _⟩ := (kx.alloc (.cells #[.int .i64 z4, .int .i64 y4] 27)).two
  obtain ⟨p0, p1, p2, p3, _⟩ := (kp.alloc (.cells #[.int .i64 z4, .int .i64 y4] 27)).four
  obtain ⟨q0, q1, q2, q3, _⟩ := (kq.alloc (.cells #[.int .i64 z4, .int .i64 y4] 27)).four
  have HW4 := Lib.hid hW4
  clear hW4 hs4
  replace hx0 := hx0.ext hal
  replace hx1 := hx1.ext hal
  replace hT := hT.ext hal
  replace qp := qp.ext hal
  replace qq := qq.ext hal
  replace kx := kx.ext hal
  replace kp := kp.ext hal
  replace kq := kq.ext hal
  replace r1 := r1.ext hal
  replace k1 := k1.ext hal
  replace r2 := r2.ext hal
  replace k2 := k2.ext hal
  replace r3 := r3.ext hal
  replace k3 := k3.ext hal
  replace r4 := r4.ext hal
  replace hbw := hbw.trans (hal.mono hbw.size)
  clear hal
  have hrow : SlR (qF (f + 1)) M0 W5 (.slice (some ⟨g4 + 1, 0, none⟩) 2 2) [p, q] := SlR.of_blk (cs := [.int .i64 p.kind, .string (bs p.text), .int .i64 p.num, .slice Ap pl cp] ++ [.int .i64 q.kind, .string (bs q.text), .int .i64 q.num, .slice Aq ql cq]) kr ((Els.single qp.rd).append (Els.single qq.rd)) (by simp [maxLen]) rfl
  have hqa : QAt (f + 1) M0 W5 (.agg #[.int .i64 7, .string ⟨#[]⟩, .int .i64 0, .slice (some ⟨g4 + 1, 0, none⟩) 2 2]) (orQ p q) := qnode 7 hrow rfl (by omega)
  have hc := sfind_ok (.slice A0 x.1.length c0) (.slice A1 x.2.length c1) (.agg #[.int .i64 7, .string ⟨#[]⟩, .int .i64 0, .slice (some ⟨g4 + 1, 0, none⟩) 2 2]) x (orQ p q) (f + 1) W5 hx0 hx1 hqa hsz hbo hT
  unfold SFindAt at hc
  rw [Hr5.out] at hc
  dsimp only at hc
  have Hc := Lib.hid hc
  clear hc
  clear hrow hqa kr
  go_wp2_with fail
  rw [HW4.out]
  clear x0 x1 p0 p1 p2 p3 q0 q1 q2 q3
  refine Hc.out.mono ?_
  rintro e w6 ⟨B5, d5, M5, rfl, hM5, hown, hb6⟩
  have r5 := hown.read0
  clear hown
  obtain rfl : M5 = L5 := hM5.out
  clear hM5
  replace hx0 := hx0.ext hb6
  replace hx1 := hx1.ext hb6
  replace hT := hT.ext hb6
  replace qp := qp.ext hb6
  replace qq := qq.ext hb6
  replace kx := kx.ext hb6
  replace kp := kp.ext hb6
  replace kq := kq.ext hb6
  replace r1 := r1.ext hb6
  replace k1 := k1.ext hb6
  replace r2 := r2.ext hb6
  replace k2 := k2.ext hb6
  replace r3 := r3.ext hb6
  replace k3 := k3.ext hb6
  replace r4 := r4.ext hb6
  replace k4 := k4.ext hb6
  replace hbw := hbw.trans (hb6.mono hbw.size)
  clear hb6
  obtain ⟨W6, g5, hW5, hg5, hs5, k5, hal⟩ := boxA w6 #[.int .i64 z5, .int .i64 y5] 27
  have HW5 := Lib.hid hW5
  clear hs5
  replace hx0 := hx0.ext hal
  replace hx1 := hx1.ext hal
  replace hT := hT.ext hal
  replace qp := qp.ext hal
  replace qq := qq.ext hal
  replace kx := kx.ext hal
  replace kp := kp.ext hal
  replace kq := kq.ext hal
  replace r1 := r1.ext hal
  replace k1 := k1.ext hal
  replace r2 := r2.ext hal
  replace k2 := k2.ext hal
  replace r3 := r3.ext hal
  replace k3 := k3.ext hal
  replace r4 := r4.ext hal
  replace k4 := k4.ext hal
  replace r5 := r5.ext hal
  replace hbw := hbw.trans (hal.mono hbw.size)
  clear hal
  obtain ⟨t1, _, _, _, _⟩ := k1.two
  rw [← hW5] at t1
  obtain ⟨t2, _, _, _, _⟩ := k2.two
  rw [← hW5] at t2
  obtain ⟨t3, _, _, _, _⟩ := k3.two
  rw [← hW5] at t3
  obtain ⟨t4, _, _, _, _⟩ := k4.two
  rw [← hW5] at t4
  obtain ⟨t5, _, _, _, _⟩ := k5.two
  rw [← hW5] at t5
  clear hW5 k1 k2 k3 k4 k5 kp kq qp qq hx1 hT
  by_cases e1 : z1 = 0
  rotate_left
  · have n1 : (z1 != 0) = true := by simpa using e1
    go_wp2_with fail
    go_ret
    exact ⟨rfl, by rw [HW5.out]; exact hbw⟩
  · have n1 : (z1 != 0) = false := by simpa using e1
    by_cases e2 : z2 = 0
    rotate_left
    · have n2 : (z2 != 0) = true := by simpa using e2
      go_wp2_with fail
      go_ret
      exact ⟨rfl, by rw [HW5.out]; exact hbw⟩
    · have n2 : (z2 != 0) = false := by simpa using e2
      by_cases e3 : z3 = 0
      rotate_left
      · have n3 : (z3 != 0) = true := by simpa using e3
        go_wp2_with fail
        go_ret
        exact ⟨rfl, by rw [HW5.out]; exact hbw⟩
      · have n3 : (z3 != 0) = false := by simpa using e3
        by_cases e4 : z4 = 0
        rotate_left
        · have n4 : (z4 != 0) = true := by simpa using e4
          go_wp2_with fail
          go_ret
          exact ⟨rfl, by rw [HW5.out]; exact hbw⟩
        · have n4 : (z4 != 0) = false := by simpa using e4
          by_cases e5 : z5 = 0
          rotate_left
          · have n5 : (z5 != 0) = true := by simpa using e5
            go_wp2_with fail
            go_ret
            exact ⟨rfl, by rw [HW5.out]; exact hbw⟩
          · have n5 : (z5 != 0) = false := by simpa using e5
            have hall := fun (id : Int) (hid : id ∈ x.1) => Hall.out e1 e2 e3 e4 e5 (id := id) hid
            have Hall2 := Lib.hid hall
            clear hall e1 e2 e3 e4 e5
            obtain ⟨xl, hxl⟩ : ∃ l, x.1 = l := ⟨_, rfl⟩
            rw [hxl] at hx0 kx Hall2 hlc0
            go_wp2_with fail
            rw [HW5.out]
            clear t1 t2 t3 t4 t5 n1 n2 n3 n4 n5
            obtain ⟨x0, x1, _, _, _⟩ := kx.two
            go_loopw [17] (fun i wr => ∃ m : Nat, m ≤ xl.length ∧ i = .int .i64 m ∧ wr = W6) (fun i _ => xl.length - (intOf i).toNat)
            case atStart => exact ⟨0, Nat.zero_le _, rfl, rfl⟩
            case round =>
              obtain ⟨m, hm, rfl, rfl⟩ := hrel
              by_cases hlt : m < xl.length
              · obtain ⟨b, off, rfl, _, _, q0, _, _⟩ := hx0.intAt hlt
                have hal := Hall2.out xl[m] (List.getElem_mem hlt)
                obtain ⟨id, hid⟩ : ∃ y, y = xl[m] := ⟨_, rfl⟩
                rw [← hid] at q0 hal
                clear hid
                have hh1 := refHas_ok M0 _ M1 id _ r1
                have hh2 := refHas_ok M0 _ M2 id _ r2
                have hh3 := refHas_ok M0 _ M3 id _ r3
                have hh4 := refHas_ok M0 _ M4 id _ r4
                have hh5 := refHas_ok M0 _ M5 id _ r5
                obtain ⟨s1, hs1⟩ : ∃ b, M1.contains id = b := ⟨_, rfl⟩
                rw [hs1] at hh1 hal
                obtain ⟨s2, hs2⟩ : ∃ b, M2.contains id = b := ⟨_, rfl⟩
                rw [hs2] at hh2 hal
                obtain ⟨s3, hs3⟩ : ∃ b, M3.contains id = b := ⟨_, rfl⟩
                rw [hs3] at hh3 hal
                obtain ⟨s4, hs4⟩ : ∃ b, M4.contains id = b := ⟨_, rfl⟩
                rw [hs4] at hh4 hal
                obtain ⟨s5, hs5⟩ : ∃ b, M5.contains id = b := ⟨_, rfl⟩
                rw [hs5] at hh5 hal
                obtain ⟨u3, u4, u5⟩ := hal
                clear hs1 hs2 hs3 hs4 hs5
                cases s1 <;> cases s2
                · obtain rfl : s3 = true := u3
                  obtain rfl : s4 = false := u4
                  obtain rfl : s5 = false := u5
                  have Hh1 := Lib.hid hh1
                  have Hh2 := Lib.hid hh2
                  have Hh3 := Lib.hid hh3
                  have Hh4 := Lib.hid hh4
                  have Hh5 := Lib.hid hh5
                  clear hh1 hh2 hh3 hh4 hh5
                  go_wp2_with fail
                  refine Hh3.out.mono ?_
                  rintro e w9 ⟨rfl, rfl⟩
                  go_wp2_with fail
                  refine Hh1.out.mono ?_
                  rintro e w9 ⟨rfl, rfl⟩
                  go_wp2_with fail
                  refine Hh4.out.mono ?_
                  rintro e w9 ⟨rfl, rfl⟩
                  go_wp2_with fail
                  refine Hh1.out.mono ?_
                  rintro e w9 ⟨rfl, rfl⟩
                  go_wp2_with fail
                  refine Hh5.out.mono ?_
                  rintro e w9 ⟨rfl, rfl⟩
                  go_wp2_with fail
                  refine Hh1.out.mono ?_
                  rintro e w9 ⟨rfl, rfl⟩
                  go_wp2_with fail
                  refine Hh2.out.mono ?_
                  rintro e w9 ⟨rfl, rfl⟩
                  go_wp2_with fail
                  go_roundw
                  case rel => exact ⟨m + 1, by omega, by go_num, trivial⟩
                  case measure => simp [intOf]; omega
                · obtain rfl : s3 = true := u3
                  obtain rfl : s4 = false := u4
                  obtain rfl : s5 = true := u5
                  have Hh1 := Lib.hid hh1
                  have Hh2 := Lib.hid hh2
                  have Hh3 := Lib.hid hh3
                  have Hh4 := Lib.hid hh4
                  have Hh5 := Lib.hid hh5
                  clear hh1 hh2 hh3 hh4 hh5
                  go_wp2_with fail
                  refine Hh3.out.mono ?_
                  rintro e w9 ⟨rfl, rfl⟩
                  go_wp2_with fail
                  refine Hh1.out.mono ?_
                  rintro e w9 ⟨rfl, rfl⟩
                  go_wp2_with fail
                  refine Hh4.out.mono ?_
                  rintro e w9 ⟨rfl, rfl⟩
                  go_wp2_with fail
                  refine Hh1.out.mono ?_
                  rintro e w9 ⟨rfl, rfl⟩
                  go_wp2_with fail
                  refine Hh5.out.mono ?_
                  rintro e w9 ⟨rfl, rfl⟩
                  go_wp2_with fail
                  refine Hh1.out.mono ?_
                  rintro e w9 ⟨rfl, rfl⟩
                  go_wp2_with fail
                  refine Hh2.out.mono ?_
                  rintro e w9 ⟨rfl, rfl⟩
                  go_wp2_with fail
                  go_roundw
                  case rel => exact ⟨m + 1, by omega, by go_num, trivial⟩
                  case measure => simp [intOf]; omega
                · obtain rfl : s3 = false := u3
                  obtain rfl : s4 = false := u4
                  obtain rfl : s5 = true := u5
                  have Hh1 := Lib.hid hh1
                  have Hh2 := Lib.hid hh2
                  have Hh3 := Lib.hid hh3
                  have Hh4 := Lib.hid hh4
                  have Hh5 := Lib.hid hh5
                  clear hh1 hh2 hh3 hh4 hh5
                  go_wp2_with fail
                  refine Hh3.out.mono ?_
                  rintro e w9 ⟨rfl, rfl⟩
                  go_wp2_with fail
                  refine Hh1.out.mono ?_
                  rintro e w9 ⟨rfl, rfl⟩
                  go_wp2_with fail
                  refine Hh4.out.mono ?_
                  rintro e w9 ⟨rfl, rfl⟩
                  go_wp2_with fail
                  refine Hh1.out.mono ?_
                  rintro e w9 ⟨rfl, rfl⟩
                  go_wp2_with fail
                  refine Hh2.out.mono ?_
                  rintro e w9 ⟨rfl, rfl⟩
                  go_wp2_with fail
                  refine Hh5.out.mono ?_
                  rintro e w9 ⟨rfl, rfl⟩
                  go_wp2_with fail
                  refine Hh1.out.mono ?_
                  rintro e w9 ⟨rfl, rfl⟩
                  go_wp2_with fail
                  go_roundw
                  case rel => exact ⟨m + 1, by omega, by go_num, trivial⟩
                  case measure => simp [intOf]; omega
                · obtain rfl : s3 = false := u3
                  obtain rfl : s4 = true := u4
                  obtain rfl : s5 = true := u5
                  have Hh1 := Lib.hid hh1
                  have Hh2 := Lib.hid hh2
                  have Hh3 := Lib.hid hh3
                  have Hh4 := Lib.hid hh4
                  have Hh5 := Lib.hid hh5
                  clear hh1 hh2 hh3 hh4 hh5
                  go_wp2_with fail
                  refine Hh3.out.mono ?_
                  rintro e w9 ⟨rfl, rfl⟩
                  go_wp2_with fail
                  refine Hh1.out.mono ?_
                  rintro e w9 ⟨rfl, rfl⟩
                  go_wp2_with fail
                  refine Hh4.out.mono ?_
                  rintro e w9 ⟨rfl, rfl⟩
                  go_wp2_with fail
                  refine Hh1.out.mono ?_
                  rintro e w9 ⟨rfl, rfl⟩
                  go_wp2_with fail
                  refine Hh2.out.mono ?_
                  rintro e w9 ⟨rfl, rfl⟩
                  go_wp2_with fail
                  refine Hh5.out.mono ?_
                  rintro e w9 ⟨rfl, rfl⟩
                  go_wp2_with fail
                  refine Hh1.out.mono ?_
                  rintro e w9 ⟨rfl, rfl⟩
                  go_wp2_with fail
                  go_roundw
                  case rel => exact ⟨m + 1, by omega, by go_num, trivial⟩
                  case measure => simp [intOf]; omega
              · obtain rfl : m = xl.length := by omega
                go_wp2_with fail
                go_ret
                exact ⟨rfl, hbw⟩
end Go.Proofs.YtfjpedgddgbelaaGreatDoor
/-
  The walk of SearchObeysLogic, as its row takes it.
-/
namespace Go.Proofs.YtfjpedgddgbelaaGreatDoor
open Go.RowKit
theorem sobeys_row (a0 : Array Value) (x0 : Ix.Idx) (pa : Array Value) (f : Nat) (p : Q) (qa : Array Value) (g : Nat) (q : Q) (w : World) (h0 : idxC.rd M0 w (Value.agg a0).cells.toList x0) (hp : QAt f M0 w (.agg pa) p) (hq : QAt g M0 w (.agg qa) q) (z0 : szIdx x0) (bp : p.bulk ≤ 1048576) (bq : q.bulk ≤ 1048576) (hT : TabsU w) :
    Calls Tryz.prog 5 #[.agg a0, .agg pa, .agg qa] w fun e w' => e = .returned (.bool true) ∧ Below w.heap.size w w' := by
  obtain ⟨u, v, e, h1, h2⟩ := idx_of_rd h0
  rw [e]
  exact sobeys_ok u v (.agg pa) (.agg qa) x0 p q (max f g) w h1 h2 (hp.mono (Nat.le_max_left _ _)) (hq.mono (Nat.le_max_right _ _)) (szIdx_sz z0) bp bq hT
end Go.Proofs.YtfjpedgddgbelaaGreatDoor
/-
  The card of the law SearchObeysLogic, from its walk.
-/
namespace Go.Proofs.YtfjpedgddgbelaaGreatDoor
open Go.ChangeShapes Go.WideShapes Go.ChangeAt Go.RowKit
set_option linter.unusedVariables false
namespace searchObeysLogicUptoDone
theorem own : ownKnob Tryz.prog.godebug = none := by kernel_rfl
theorem laidOut : laidOutB Tryz.prog = true := by kernel_rfl
noncomputable def w0 (os : Os) : World := World.laidAll Tryz.prog os Rows.searchObeysLogicUptoRow.laid
theorem laid_met (os : Os) : laidMet Tryz.prog Rows.searchObeysLogicUptoRow.laid ((w0 os).forCall (fun _ _ => 0) ⟨#[], #[.agg #[.slice none 0 0, .slice none 0 0], .agg #[.int .i64 0, .string ByteArray.empty, .int .i64 0, .slice none 0 0], .agg #[.int .i64 0, .string ByteArray.empty, .int .i64 0, .slice none 0 0]], []⟩).memory :=
  laidMet_laidAll _ (by kernel_rfl) (by kernel_rfl)
theorem reads (os : Os) {H : Type} (enc : TypeId × Value → H) : ∃ places, DataW.whole enc Tryz.prog ((w0 os).forCall (fun _ _ => 0) ⟨#[], #[.agg #[.slice none 0 0, .slice none 0 0], .agg #[.int .i64 0, .string ByteArray.empty, .int .i64 0, .slice none 0 0], .agg #[.int .i64 0, .string ByteArray.empty, .int .i64 0, .slice none 0 0]], []⟩).memory Tryz.f5.params.toList Rows.searchObeysLogicSpec.vars false (#[.agg #[.slice none 0 0, .slice none 0 0], .agg #[.int .i64 0, .string ByteArray.empty, .int .i64 0, .slice none 0 0], .agg #[.int .i64 0, .string ByteArray.empty, .int .i64 0, .slice none 0 0]] : Array Value).toList 8 = some ([.agg [.nil, .nil], .agg [.lit (.int .i64 0), .lit (.string []), .lit (.int .i64 0), .nil], .agg [.lit (.int .i64 0), .lit (.string []), .lit (.int .i64 0), .nil]], [], places) :=
  ⟨[], by kernel_rfl⟩
set_option maxRecDepth 100000 in
theorem lifted (os : Os) (started : os.Started) (H : Type) (enc : TypeId × Value → H) (F : Stop.Interp) :
    ReturnsInHanded {} Tryz.checked os 5 .any ((Rows.OpenSpec.upto Rows.searchObeysLogicSpec).preRow enc Tryz.prog Tryz.f5 Rows.searchObeysLogicUptoRow.domain false Rows.searchObeysLogicUptoRow.laid) (((Rows.OpenSpec.upto Rows.searchObeysLogicSpec).at F).post enc Tryz.prog Tryz.f5 false true false false) := by
  obtain ⟨places, hx⟩ := reads os enc
  refine returnsInHanded_of_row (C := Tryz.checked) (s := (Rows.OpenSpec.upto Rows.searchObeysLogicSpec)) own started (by kernel_rfl) Tryz.func5
    (?_) ?_
  · exact ⟨w0 os, fun _ _ => 0, ⟨#[], #[.agg #[.slice none 0 0, .slice none 0 0], .agg #[.int .i64 0, .string ByteArray.empty, .int .i64 0, .slice none 0 0], .agg #[.int .i64 0, .string ByteArray.empty, .int .i64 0, .slice none 0 0]], []⟩, World.laidAll_os _ _ _, World.shaped_of_ZipB (by kernel_rfl) (by kernel_rfl), rfl, (Input.okWide_of_okWideB (by kernel_rfl)).2, OpenSpec.preRow_of_cond 8 hx (by kernel_rfl) (fun k hk => by cases hk; kernel_rfl) (by kernel_rfl) (laid_met os), by simp [Assume.holds]⟩
  intro W base args ds gs before hval0 hW _ hcond hwt hL _ _
  have hval : ∀ (j : Nat) t v, Tryz.f5.params[j]? = some t → args[j]? = some v → Value.okWide Tryz.prog W .any base t v := hval0
  have hW' := hW
  obtain ⟨p, q, hA0, hV, rfl, hfz, hnd⟩ := hW
  have hA : DataW.TrodAll enc Tryz.prog W 0 (fun _ => true) true Tryz.f5.params.toList args.toList ds p := hA0
  rw [Tryz.params5] at hA hval
  obtain ⟨v0, vs0, d0, ds0, p0, q0, hargs, rfl, rfl, h0, r0⟩ := trodAll_cons hA
  obtain ⟨v1, vs1, d1, ds1, p1, q1, rfl, rfl, rfl, h1, r1⟩ := trodAll_cons r0
  obtain ⟨v2, vs2, d2, ds2, p2, q2, rfl, rfl, rfl, h2, r2⟩ := trodAll_cons r1
  obtain ⟨rfl, rfl, rfl⟩ := trodAll_nil r2
  obtain rfl : args = #[v0, v1, v2] := by cases args; simp_all
  obtain ⟨rfl, rfl⟩ := trodVars_none hV
  have hbd : Rows.uptoBulkAll ([d0, d1, d2] ++ []) ≤ 1048576 := of_decide_eq_true (hcond _ rfl)
  simp only [List.append_nil, Rows.uptoBulkAll] at hbd
  have k0 := h0
  have lt0 : ∀ x ∈ p0, x.block < W.heap.size := by obtain ⟨m, hm⟩ := k0; exact DataW.trod_lt m _ _ _ hm
  obtain ⟨x0, rd0, bk0, z0⟩ := readsS_arg (rIdx) h0
  replace z0 := z0 (sized_arg hwt (j := 0) (t := 25) rfl rfl)
  obtain ⟨a0, rfl, _⟩ := okWide_struct Tryz.underlying25 (hval 0 25 v0 rfl rfl)
  have k1 := h1
  have lt1 : ∀ x ∈ p1, x.block < W.heap.size := by obtain ⟨m, hm⟩ := k1; exact DataW.trod_lt m _ _ _ hm
  obtain ⟨a1, rfl, _⟩ := okWide_struct Tryz.underlying50 (hval 1 50 v1 rfl rfl)
  obtain ⟨f1, x1, rd1, bk1⟩ := query_arg h1
  have k2 := h2
  have lt2 : ∀ x ∈ p2, x.block < W.heap.size := by obtain ⟨m, hm⟩ := k2; exact DataW.trod_lt m _ _ _ hm
  obtain ⟨a2, rfl, _⟩ := okWide_struct Tryz.underlying50 (hval 2 50 v2 rfl rfl)
  obtain ⟨f2, x2, rd2, bk2⟩ := query_arg h2
  clear hA0 hval0
  have hTT : TabsU W := tabs_of (l := Rows.searchObeysLogicUptoRow.laid) hL (.tail _ (.tail _ (.tail _ (.tail _ (.tail _ (.tail _ (.head _))))))) (.head _) (.tail _ (.head _)) (.tail _ (.tail _ (.head _))) (.tail _ (.tail _ (.tail _ (.tail _ (.head _))))) (.tail _ (.tail _ (.tail _ (.head _)))) (.tail _ (.tail _ (.tail _ (.tail _ (.tail _ (.head _))))))
  refine (sobeys_row  _ _ _ _ _ _ _ _ W rd0 rd1 rd2 z0 (by omega) (by omega) hTT).mono fun e W' ⟨he, bel⟩ => ?_
  subst he
  exact ⟨_, rfl, _, _, _, [], _, [], hW', trodAll_mk1 (shut_bool Tryz.underlying4 _), (trodAll_cons_mk (Below.trod laidOut (by kernel_rfl) (of_decide_eq_true (by kernel_rfl)) k0 bel lt0) (trodAll_cons_mk (Below.trod laidOut (by kernel_rfl) (of_decide_eq_true (by kernel_rfl)) k1 bel lt1) (trodAll_cons_mk (Below.trod laidOut (by kernel_rfl) (of_decide_eq_true (by kernel_rfl)) k2 bel lt2) trodAll_mk0))), rfl, bel.frame _, fun h => by cases h⟩
end searchObeysLogicUptoDone
end Go.Proofs.YtfjpedgddgbelaaGreatDoor

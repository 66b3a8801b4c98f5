/-
  The reference: Ints, SamePostings, SameIndex.
-/
import Derived.Test.YtfjpedgddgbelaaGreatDoorG7
import Derived.Deep.QuietTactic
import Derived.BigQuiet
namespace Go.Proofs.YtfjpedgddgbelaaGreatDoor
open Go.RowKit
set_option linter.unusedVariables false
theorem take_get' {α : Type} (l : List α) (k : Nat) (h : k < l.length) : l.take (k + 1) = l.take k ++ [l[k]] := List.take_succ_eq_append_getElem h
theorem differ_at {α : Type} {l l' : List α} {k : Nat} (h : k < l.length) (h' : k < l'.length) (e : l[k] ≠ l'[k]) : l ≠ l' := fun h2 => by subst h2; exact e rfl
theorem same_end {α : Type} {l l' : List α} (hl : l.length = l'.length) (h : l.take l.length = l'.take l.length) : l = l' := by
  rw [List.take_length, List.take_of_length_le (by omega)] at h; exact h
set_option maxHeartbeats 1000000 in
theorem ints_ok (v v' : Value) (l l' : List Int) (w : World) (h : SlR intC M0 w v l) (h' : SlR intC M0 w v' l') : Calls Tryz.prog 35 #[v, v'] w fun e w' => e = .returned (.bool (l == l')) ∧ Below w.heap.size w w' := by
  obtain ⟨A, c, rfl, _, _⟩ := h.form
  obtain ⟨A', c', rfl, _, _⟩ := h'.form
  obtain ⟨hlc, hcm⟩ := h.lenM
  obtain ⟨hlc', hcm'⟩ := h'.lenM
  by_cases hl : l.length = l'.length
  · have hl' : ((l.length : Int) != (l'.length : Int)) = false := by simp [hl]
    have Hl := Lib.hid hl
    clear hl
    go_enter Tryz.func35, Tryz.ntmps35
    go_wp2
    go_loopw [5] (fun i wr => ∃ k : Nat, k ≤ l.length ∧ i = .int .i64 k ∧ Hid (l.take k = l'.take k) ∧ Below w.heap.size w wr) (fun i _ => l.length - (intOf i).toNat)
    case atStart => exact ⟨0, Nat.zero_le _, rfl, Lib.hid rfl, Below.refl _ _⟩
    case round =>
      obtain ⟨k, hk, rfl, hpre, hb⟩ := hrel
      by_cases hlt : k < l.length
      · have hlt' : k < l'.length := by have := Hl.out; omega
        obtain ⟨b, off, rfl, _, _, q0, _, _⟩ := (h.ext hb).intAt hlt
        obtain ⟨b', off', rfl, _, _, p0, _, _⟩ := (h'.ext hb).intAt hlt'
        obtain ⟨s, hx⟩ : ∃ x, x = l[k] := ⟨_, rfl⟩
        obtain ⟨s', hx'⟩ : ∃ x, x = l'[k] := ⟨_, rfl⟩
        rw [← hx] at q0
        rw [← hx'] at p0
        obtain ⟨t, ht⟩ : ∃ t, (s == s') = t := ⟨_, rfl⟩
        have Hx := Lib.hid hx; have Hx' := Lib.hid hx'
        clear hx hx'
        have hi1 : (k : Int) < (l.length : Int) := by omega
        have hi2 : (k : Int) < (l'.length : Int) := by omega
        cases t with
        | true =>
          have hnn : (s != s') = false := by rw [bne, ht]; rfl
          go_wp2
          go_quiet (fail)
          go_wp2
          go_roundw
          case rel => exact ⟨k + 1, by omega, by go_num, Lib.hid (by rw [take_get' l k hlt, take_get' l' k hlt', hpre.out, ← Hx.out, ← Hx'.out, eq_of_beq ht]), hb.trans (below_drewN' _ _ _)⟩
          case measure => simp [intOf]; omega
        | false =>
          have hnn : (s != s') = true := by rw [bne, ht]; rfl
          go_wp2
          go_quiet (fail)
          go_wp2
          go_ret
          have hne : (l == l') = false := by
            rw [beq_eq_false_iff_ne]
            intro e
            subst e
            rw [Hx.out, Hx'.out] at ht
            simp at ht
          exact ⟨ret_bool (by rw [hne]), hb.trans (below_drewN' _ _ _)⟩
      · have he : k = l.length := by omega
        subst he
        go_wp2
        go_ret
        refine ⟨ret_bool ?_, hb⟩
        have hp := hpre.out
        rw [List.take_length, List.take_of_length_le (by have := Hl.out; omega)] at hp
        rw [hp]; simp
  · have hl' : ((l.length : Int) != (l'.length : Int)) = true := by simp; omega
    have hne : (l == l') = false := by simp; intro h; exact hl (by rw [h])
    rw [hne]
    go_enter Tryz.func35, Tryz.ntmps35
    go_wp2
    go_ret
    exact ⟨rfl, Below.refl _ _⟩

set_option maxRecDepth 20000 in
set_option maxHeartbeats 4000000 in
theorem samePost_ok (v v' : Value) (l l' : List Ix.Post) (w : World) (h : SlR postC M0 w v l) (h' : SlR postC M0 w v' l') : Calls Tryz.prog 28 #[v, v'] w fun e w' => e = .returned (.bool (l == l')) ∧ Below w.heap.size w w' := by
  obtain ⟨A, c, rfl, _, _⟩ := h.form
  obtain ⟨A', c', rfl, _, _⟩ := h'.form
  obtain ⟨hlc, hcm⟩ := h.lenM
  obtain ⟨hlc', hcm'⟩ := h'.lenM
  by_cases hl : l.length = l'.length
  · have hl' : ((l.length : Int) != (l'.length : Int)) = false := by simp [hl]
    have Hl := Lib.hid hl
    clear hl
    go_enter Tryz.func28, Tryz.ntmps28
    go_wp2
    go_loopw [5] (fun i wr => ∃ k : Nat, k ≤ l.length ∧ i = .int .i64 k ∧ Hid (l.take k = l'.take k) ∧ Below w.heap.size w wr) (fun i _ => l.length - (intOf i).toNat)
    case atStart => exact ⟨0, Nat.zero_le _, rfl, Lib.hid rfl, Below.refl _ _⟩
    case round =>
      obtain ⟨k, hk, rfl, hpre, hb⟩ := hrel
      by_cases hlt : k < l.length
      · have hlt' : k < l'.length := by have := Hl.out; omega
        obtain ⟨b, off, A2, c2, rfl, _, _, q0, q1, _, _, hq⟩ := (h.ext hb).postAt hlt
        obtain ⟨b', off', A3, c3, rfl, _, _, p0, p1, _, _, hp⟩ := (h'.ext hb).postAt hlt'
        obtain ⟨⟨i1, s1⟩, hx⟩ : ∃ x, x = l[k] := ⟨_, rfl⟩
        obtain ⟨⟨i2, s2⟩, hx'⟩ : ∃ x, x = l'[k] := ⟨_, rfl⟩
        rw [← hx] at q0 q1 hq
        rw [← hx'] at p0 p1 hp
        dsimp only at q0 q1 hq p0 p1 hp
        have Hx := Lib.hid hx; have Hx' := Lib.hid hx'
        clear hx hx'
        have hi1 : (k : Int) < (l.length : Int) := by omega
        have hi2 : (k : Int) < (l'.length : Int) := by omega
        have hi0 : (0 : Int) ≤ (k : Int) := by omega
        have hkw : IntKind.i64.wrap (k : Int) = (k : Int) := IntWalk.i64_in _ (by omega)
        by_cases he : i1 = i2
        · subst he
          obtain ⟨t, ht⟩ : ∃ t, (s1 == s2) = t := ⟨_, rfl⟩
          have hcl := fun V (hbV : Below wr.heap.size wr V) => ints_ok (.slice A2 s1.length c2) (.slice A3 s2.length c3) s1 s2 V (hq.ext hbV) (hp.ext hbV)
          rw [ht] at hcl
          have hSS : ∀ W', Below wr.heap.size wr W' → W'.cell? ⟨b, off + k * 2, none⟩ = some (.int .i64 i1) ∧ W'.cell? ⟨b, off + k * 2 + 1, none⟩ = some (.slice A2 s1.length c2) ∧ W'.cell? ⟨b', off' + k * 2, none⟩ = some (.int .i64 i1) ∧ W'.cell? ⟨b', off' + k * 2 + 1, none⟩ = some (.slice A3 s2.length c3) := fun W' hb => ⟨cell_ext hb q0, cell_ext hb q1, cell_ext hb p0, cell_ext hb p1⟩
          have HS := Lib.hid hSS; have Hcl := Lib.hid hcl
          have hS := HS.out _ (below_drewN' wr.heap.size wr 1)
          clear hSS hcl q0 q1 p0 p1 hq hp
          go_wp2_with fail
          refine wp_region_D (fun W => W.cell? ⟨b, off + k * 2, none⟩ = some (.int .i64 i1) ∧ W.cell? ⟨b, off + k * 2 + 1, none⟩ = some (.slice A2 s1.length c2) ∧ W.cell? ⟨b', off' + k * 2, none⟩ = some (.int .i64 i1) ∧ W.cell? ⟨b', off' + k * 2 + 1, none⟩ = some (.slice A3 s2.length c3)) (fun _ => false) (by kernel_rfl) ?_
          change anyD _ _ _ _ _ _ _ _ _ (wr.drewN 1)
          have hbV := below_drewN' wr.heap.size wr 1
          generalize wr.drewN 1 = V0 at hS hbV ⊢
          (refine anyD_light (i := 0) (v := ?_) rfl (by kernel_rfl) (by kernel_rfl) (by kernel_rfl) (by kernel_rfl) (by kernel_rfl) (fun _ _ _ h => h) (.inl ⟨by kernel_rfl, fun W9 hW9 => ?_⟩) hS ?_; rotate_left; · (obtain ⟨hw0, hw1, hw2, hw3⟩ := hW9; go_simp; rfl))
          (refine anyD_light (i := 1) (v := ?_) rfl (by kernel_rfl) (by kernel_rfl) (by kernel_rfl) (by kernel_rfl) (by kernel_rfl) (fun _ _ _ h => h) (.inl ⟨by kernel_rfl, fun W9 hW9 => ?_⟩) hS ?_; rotate_left; · (obtain ⟨hw0, hw1, hw2, hw3⟩ := hW9; go_simp; rfl))
          (refine anyD_light (i := 2) (v := ?_) rfl (by kernel_rfl) (by kernel_rfl) (by kernel_rfl) (by kernel_rfl) (by kernel_rfl) (fun _ _ _ h => h) (.inl ⟨by kernel_rfl, fun W9 hW9 => ?_⟩) hS ?_; rotate_left; · (obtain ⟨hw0, hw1, hw2, hw3⟩ := hW9; go_simp; rfl))
          (refine anyD_light (i := 3) (v := ?_) rfl (by kernel_rfl) (by kernel_rfl) (by kernel_rfl) (by kernel_rfl) (by kernel_rfl) (fun _ _ _ h => h) (.inl ⟨by kernel_rfl, fun W9 hW9 => ?_⟩) hS ?_; rotate_left; · (obtain ⟨hw0, hw1, hw2, hw3⟩ := hW9; go_simp; rfl))
          (refine anyD_light (i := 4) (v := ?_) rfl (by kernel_rfl) (by kernel_rfl) (by kernel_rfl) (by kernel_rfl) (by kernel_rfl) (fun _ _ _ h => h) (.inl ⟨by kernel_rfl, fun W9 hW9 => ?_⟩) hS ?_; rotate_left; · (obtain ⟨hw0, hw1, hw2, hw3⟩ := hW9; go_simp; rfl))
          (refine anyD_light (i := 5) (v := ?_) rfl (by kernel_rfl) (by kernel_rfl) (by kernel_rfl) (by kernel_rfl) (by kernel_rfl) (fun _ _ _ h => h) (.inl ⟨by kernel_rfl, fun W9 hW9 => ?_⟩) hS ?_; rotate_left; · (obtain ⟨hw0, hw1, hw2, hw3⟩ := hW9; go_simp; rfl))
          go_simp
          (refine anyD_light (i := 6) (v := ?_) rfl (by kernel_rfl) (by kernel_rfl) (by kernel_rfl) (by kernel_rfl) (by kernel_rfl) (fun _ _ _ h => h) (.inl ⟨by kernel_rfl, fun W9 hW9 => ?_⟩) hS ?_; rotate_left; · (obtain ⟨hw0, hw1, hw2, hw3⟩ := hW9; go_simp; rfl))
          (refine anyD_light (i := 7) (v := ?_) rfl (by kernel_rfl) (by kernel_rfl) (by kernel_rfl) (by kernel_rfl) (by kernel_rfl) (fun _ _ _ h => h) (.inl ⟨by kernel_rfl, fun W9 hW9 => ?_⟩) hS ?_; rotate_left; · (obtain ⟨hw0, hw1, hw2, hw3⟩ := hW9; go_simp; rfl))
          (refine anyD_light (i := 8) (v := ?_) rfl (by kernel_rfl) (by kernel_rfl) (by kernel_rfl) (by kernel_rfl) (by kernel_rfl) (fun _ _ _ h => h) (.inl ⟨by kernel_rfl, fun W9 hW9 => ?_⟩) hS ?_; rotate_left; · (obtain ⟨hw0, hw1, hw2, hw3⟩ := hW9; go_simp; rfl))
          (refine anyD_light (i := 9) (v := ?_) rfl (by kernel_rfl) (by kernel_rfl) (by kernel_rfl) (by kernel_rfl) (by kernel_rfl) (fun _ _ _ h => h) (.inl ⟨by kernel_rfl, fun W9 hW9 => ?_⟩) hS ?_; rotate_left; · (obtain ⟨hw0, hw1, hw2, hw3⟩ := hW9; go_simp; rfl))
          (refine anyD_light (i := 10) (v := ?_) rfl (by kernel_rfl) (by kernel_rfl) (by kernel_rfl) (by kernel_rfl) (by kernel_rfl) (fun _ _ _ h => h) (.inl ⟨by kernel_rfl, fun W9 hW9 => ?_⟩) hS ?_; rotate_left; · (obtain ⟨hw0, hw1, hw2, hw3⟩ := hW9; go_simp; rfl))
          (refine anyD_light (i := 11) (v := ?_) rfl (by kernel_rfl) (by kernel_rfl) (by kernel_rfl) (by kernel_rfl) (by kernel_rfl) (fun _ _ _ h => h) (.inl ⟨by kernel_rfl, fun W9 hW9 => ?_⟩) hS ?_; rotate_left; · (obtain ⟨hw0, hw1, hw2, hw3⟩ := hW9; go_simp; rfl))
          go_simp
          (refine anyD_light (i := 12) (v := ?_) rfl (by kernel_rfl) (by kernel_rfl) (by kernel_rfl) (by kernel_rfl) (by kernel_rfl) (fun _ _ _ h => h) (.inl ⟨by kernel_rfl, fun W9 hW9 => ?_⟩) hS ?_; rotate_left; · (obtain ⟨hw0, hw1, hw2, hw3⟩ := hW9; go_simp; rfl))
          (refine anyD_light (i := 13) (v := ?_) rfl (by kernel_rfl) (by kernel_rfl) (by kernel_rfl) (by kernel_rfl) (by kernel_rfl) (fun _ _ _ h => h) (.inl ⟨by kernel_rfl, fun W9 hW9 => ?_⟩) hS ?_; rotate_left; · (obtain ⟨hw0, hw1, hw2, hw3⟩ := hW9; go_simp; rfl))
          (refine anyD_light (i := 14) (v := ?_) rfl (by kernel_rfl) (by kernel_rfl) (by kernel_rfl) (by kernel_rfl) (by kernel_rfl) (fun _ _ _ h => h) (.inl ⟨by kernel_rfl, fun W9 hW9 => ?_⟩) hS ?_; rotate_left; · (obtain ⟨hw0, hw1, hw2, hw3⟩ := hW9; go_simp; rfl))
          (refine anyD_light (i := 15) (v := ?_) rfl (by kernel_rfl) (by kernel_rfl) (by kernel_rfl) (by kernel_rfl) (by kernel_rfl) (fun _ _ _ h => h) (.inl ⟨by kernel_rfl, fun W9 hW9 => ?_⟩) hS ?_; rotate_left; · (obtain ⟨hw0, hw1, hw2, hw3⟩ := hW9; go_simp; rfl))
          (refine anyD_light (i := 16) (v := ?_) rfl (by kernel_rfl) (by kernel_rfl) (by kernel_rfl) (by kernel_rfl) (by kernel_rfl) (fun _ _ _ h => h) (.inl ⟨by kernel_rfl, fun W9 hW9 => ?_⟩) hS ?_; rotate_left; · (obtain ⟨hw0, hw1, hw2, hw3⟩ := hW9; go_simp; rfl))
          (refine anyD_light (i := 17) (v := ?_) rfl (by kernel_rfl) (by kernel_rfl) (by kernel_rfl) (by kernel_rfl) (by kernel_rfl) (fun _ _ _ h => h) (.inl ⟨by kernel_rfl, fun W9 hW9 => ?_⟩) hS ?_; rotate_left; · (obtain ⟨hw0, hw1, hw2, hw3⟩ := hW9; go_simp; rfl))
          go_simp
          (refine anyD_light (i := 18) (v := ?_) rfl (by kernel_rfl) (by kernel_rfl) (by kernel_rfl) (by kernel_rfl) (by kernel_rfl) (fun _ _ _ h => h) (.inl ⟨by kernel_rfl, fun W9 hW9 => ?_⟩) hS ?_; rotate_left; · (obtain ⟨hw0, hw1, hw2, hw3⟩ := hW9; go_simp; rfl))
          (refine anyD_light (i := 19) (v := ?_) rfl (by kernel_rfl) (by kernel_rfl) (by kernel_rfl) (by kernel_rfl) (by kernel_rfl) (fun _ _ _ h => h) (.inl ⟨by kernel_rfl, fun W9 hW9 => ?_⟩) hS ?_; rotate_left; · (obtain ⟨hw0, hw1, hw2, hw3⟩ := hW9; go_simp; rfl))
          (refine anyD_light (i := 20) (v := ?_) rfl (by kernel_rfl) (by kernel_rfl) (by kernel_rfl) (by kernel_rfl) (by kernel_rfl) (fun _ _ _ h => h) (.inl ⟨by kernel_rfl, fun W9 hW9 => ?_⟩) hS ?_; rotate_left; · (obtain ⟨hw0, hw1, hw2, hw3⟩ := hW9; go_simp; rfl))
          (refine anyD_light (i := 21) (v := ?_) rfl (by kernel_rfl) (by kernel_rfl) (by kernel_rfl) (by kernel_rfl) (by kernel_rfl) (fun _ _ _ h => h) (.inl ⟨by kernel_rfl, fun W9 hW9 => ?_⟩) hS ?_; rotate_left; · (obtain ⟨hw0, hw1, hw2, hw3⟩ := hW9; go_simp; rfl))
          go_simp
          refine anyD_oneG (i := 22) (by kernel_rfl) rfl rfl (fun K hK => ?_)
          have HK := Lib.hid hK
          clear hK
          unfold Oper.wp
          go_simp
          refine (Hcl.out V0 hbV).mono ?_
          rintro e w2 ⟨rfl, hb2⟩
          have hb12 : Below wr.heap.size wr w2 := hbV.trans (hb2.mono hbV.size)
          clear hS
          have hS := HS.out _ hb12
          refine HK.out _ _ (fun _ => hS) ?_
          clear HK
          (refine anyD_light (i := 23) (v := ?_) rfl (by kernel_rfl) (by kernel_rfl) (by kernel_rfl) (by kernel_rfl) (by kernel_rfl) (fun _ _ _ h => h) (.inl ⟨by kernel_rfl, fun W9 hW9 => ?_⟩) hS ?_; rotate_left; · (obtain ⟨hw0, hw1, hw2, hw3⟩ := hW9; go_simp; rfl))
          (refine anyD_light (i := 24) (v := ?_) rfl (by kernel_rfl) (by kernel_rfl) (by kernel_rfl) (by kernel_rfl) (by kernel_rfl) (fun _ _ _ h => h) (.inl ⟨by kernel_rfl, fun W9 hW9 => ?_⟩) hS ?_; rotate_left; · (obtain ⟨hw0, hw1, hw2, hw3⟩ := hW9; go_simp; rfl))
          go_simp
          refine anyD_done (by kernel_rfl) ?_ _
          have hbr := hb.trans (hb12.mono hb.size)
          clear hb12 hb2 hS
          cases t with
          | true =>
            go_wp2
            go_roundw
            case rel => exact ⟨k + 1, by omega, by go_num, Lib.hid (by rw [take_get' l k hlt, take_get' l' k hlt', hpre.out, ← Hx.out, ← Hx'.out, eq_of_beq ht]), hbr⟩
            case measure => simp [intOf]; omega
          | false =>
            go_wp2
            go_ret
            have hne : (l == l') = false := by
              rw [beq_eq_false_iff_ne]
              refine differ_at hlt hlt' ?_
              rw [← Hx.out, ← Hx'.out]
              intro e
              injection e with _ e
              rw [e] at ht
              simp at ht
            exact ⟨ret_bool (by rw [hne]), hbr⟩
        · have hnn : (i1 != i2) = true := by simpa using he
          clear hq hp
          go_wp2
          go_quiet (fail)
          go_wp2
          go_ret
          have hne : (l == l') = false := by
            rw [beq_eq_false_iff_ne]
            refine differ_at hlt hlt' ?_
            rw [← Hx.out, ← Hx'.out]
            intro e
            injection e with e _
            exact he e
          exact ⟨ret_bool (by rw [hne]), hb.trans (below_drewN' _ _ _)⟩
      · have he : k = l.length := by omega
        subst he
        go_wp2
        go_ret
        refine ⟨ret_bool ?_, hb⟩
        rw [same_end Hl.out hpre.out]; simp
  · have hl' : ((l.length : Int) != (l'.length : Int)) = true := by simp; omega
    have hne : (l == l') = false := by simp; intro h; exact hl (by rw [h])
    rw [hne]
    go_enter Tryz.func28, Tryz.ntmps28
    go_wp2
    go_ret
    exact ⟨rfl, Below.refl _ _⟩
set_option maxRecDepth 20000 in
set_option maxHeartbeats 8000000 in
theorem sameIndex_ok (a b a' b' : Value) (x y : Ix.Idx) (w : World) (h0 : SlR intC M0 w a x.1) (h1 : SlR termC M0 w b x.2) (h0' : SlR intC M0 w a' y.1) (h1' : SlR termC M0 w b' y.2) : Calls Tryz.prog 25 #[.agg #[a, b], .agg #[a', b']] w fun e w' => e = .returned (.bool (x == y)) ∧ Below w.heap.size w w' := by
  obtain ⟨ids, ts⟩ := x
  obtain ⟨ids', ts'⟩ := y
  dsimp only at h0 h1 h0' h1'
  obtain ⟨A0, c0, rfl, _, _⟩ := h0.form
  obtain ⟨A1, c1, rfl, _, _⟩ := h1.form
  obtain ⟨A0', c0', rfl, _, _⟩ := h0'.form
  obtain ⟨A1', c1', rfl, _, _⟩ := h1'.form
  obtain ⟨hlc, hcm⟩ := h1.lenM
  obtain ⟨hlc', hcm'⟩ := h1'.lenM
  obtain ⟨W, hW, hs, hal, kb, kf⟩ := two_new w (.slice A0 ids.length c0) (.slice A1 ts.length c1) 25 (.slice A0' ids'.length c0') (.slice A1' ts'.length c1') 25
  obtain ⟨g0, hg0⟩ : ∃ g, w.heap.size = g := ⟨_, rfl⟩
  obtain ⟨g1, hg1⟩ : ∃ g, w.heap.size + 1 = g := ⟨_, rfl⟩
  rw [hg1] at kf
  rw [hg0] at kb hg1
  have hSS : ∀ W', Below W.heap.size W W' → W'.cell? ⟨g0, 0, none⟩ = some (.slice A0 ids.length c0) ∧ W'.cell? ⟨g0, 1, none⟩ = some (.slice A1 ts.length c1) ∧ W'.cell? ⟨g1, 0, none⟩ = some (.slice A0' ids'.length c0') ∧ W'.cell? ⟨g1, 1, none⟩ = some (.slice A1' ts'.length c1') := fun W' hb => ⟨(kb.ext hb).two.1, (kb.ext hb).two.2.1, (kf.ext hb).two.1, (kf.ext hb).two.2.1⟩
  have HS := Lib.hid hSS
  have hin := ints_ok (.slice A0 ids.length c0) (.slice A0' ids'.length c0') ids ids' W (h0.ext hal) (h0'.ext hal)
  obtain ⟨ti, hti⟩ : ∃ t, (ids == ids') = t := ⟨_, rfl⟩
  rw [hti] at hin
  have h1 := h1.ext hal
  have h1' := h1'.ext hal
  have Hin := Lib.hid hin
  have hSw := HS.out _ (Below.refl _ _)
  clear hin hSS h0 h0'
  obtain ⟨q0, q1, r0, r1⟩ := hSw
  rw [← hW, ← hg0] at q0 q1
  rw [← hW, ← hg1, ← hg0] at r0 r1
  have HW := Lib.hid (And.intro hW (And.intro hg0 hg1))
  clear hW hg0 hg1 hs kb kf
  go_enter Tryz.func25, Tryz.ntmps25
  go_wp2_with fail
  rw [HW.out.1, HW.out.2.1, HW.out.2.2]
  refine Hin.out.mono ?_
  rintro e w1 ⟨rfl, hb1⟩
  clear q0 q1 r0 r1
  obtain ⟨q0, q1, r0, r1⟩ := HS.out _ hb1
  have Hti := Lib.hid hti
  clear hti
  cases ti with
  | false =>
    go_wp2
    go_ret
    have hne : ((ids, ts) == (ids', ts')) = false := by
      rw [beq_eq_false_iff_ne]; intro e; injection e with e _; have := Hti.out; rw [e] at this; simp at this
    exact ⟨ret_bool (by rw [hne]), below2 hal hb1⟩
  | true =>
    by_cases hl : ts.length = ts'.length
    · have hl' : ((ts.length : Int) != (ts'.length : Int)) = false := by simp [hl]
      have Hl := Lib.hid hl
      clear hl
      go_wp2
      go_loopw [5] (fun i wr => ∃ k : Nat, k ≤ ts.length ∧ i = .int .i64 k ∧ Hid (ts.take k = ts'.take k) ∧ Below W.heap.size W wr) (fun i _ => ts.length - (intOf i).toNat)
      case atStart => exact ⟨0, Nat.zero_le _, rfl, Lib.hid rfl, hb1⟩
      case round =>
        obtain ⟨k, hk, rfl, hpre, hb⟩ := hrel
        clear q0 q1 r0 r1
        obtain ⟨q0, q1, r0, r1⟩ := HS.out _ hb
        by_cases hlt : k < ts.length
        · have hlt' : k < ts'.length := by have := Hl.out; omega
          obtain ⟨b, off, A2, c2, rfl, _, _, p0, p1, _, hq⟩ := (h1.ext hb).termAt hlt
          obtain ⟨b', off', A3, c3, rfl, _, _, s0, s1, _, hp⟩ := (h1'.ext hb).termAt hlt'
          obtain ⟨⟨i1, l1⟩, hx⟩ : ∃ x, x = ts[k] := ⟨_, rfl⟩
          obtain ⟨⟨i2, l2⟩, hx'⟩ : ∃ x, x = ts'[k] := ⟨_, rfl⟩
          rw [← hx] at p0 p1 hq
          rw [← hx'] at s0 s1 hp
          dsimp only at p0 p1 hq s0 s1 hp
          have Hx := Lib.hid hx; have Hx' := Lib.hid hx'
          clear hx hx'
          have hi1 : (k : Int) < (ts.length : Int) := by omega
          have hi2 : (k : Int) < (ts'.length : Int) := by omega
          have hi0 : (0 : Int) ≤ (k : Int) := by omega
          have hkw : IntKind.i64.wrap (k : Int) = (k : Int) := IntWalk.i64_in _ (by omega)
          by_cases he : i1 = i2
          · subst he
            obtain ⟨t, ht⟩ : ∃ t, (l1 == l2) = t := ⟨_, rfl⟩
            have hcl := fun V (hbV : Below wr.heap.size wr V) => samePost_ok (.slice A2 l1.length c2) (.slice A3 l2.length c3) l1 l2 V (hq.ext hbV) (hp.ext hbV)
            rw [ht] at hcl
            have hSS : ∀ W', Below wr.heap.size wr W' → W'.cell? ⟨b, off + k * 2, none⟩ = some (.string (bs i1)) ∧ W'.cell? ⟨b, off + k * 2 + 1, none⟩ = some (.slice A2 l1.length c2) ∧ W'.cell? ⟨b', off' + k * 2, none⟩ = some (.string (bs i1)) ∧ W'.cell? ⟨b', off' + k * 2 + 1, none⟩ = some (.slice A3 l2.length c3) ∧ W'.cell? ⟨g0, 1, none⟩ = some (.slice (some ⟨b, off, none⟩) ts.length c1) ∧ W'.cell? ⟨g1, 1, none⟩ = some (.slice (some ⟨b', off', none⟩) ts'.length c1') := fun W' hb => ⟨cell_ext hb p0, cell_ext hb p1, cell_ext hb s0, cell_ext hb s1, cell_ext hb q1, cell_ext hb r1⟩
            have HS2 := Lib.hid hSS; have Hcl := Lib.hid hcl
            have hS := HS2.out _ (below_drewN' wr.heap.size wr 1)
            clear hSS hcl p0 p1 s0 s1 hq hp
            go_wp2_with fail
            clear q0 q1 r0 r1
            refine wp_region_D (fun W => W.cell? ⟨b, off + k * 2, none⟩ = some (.string (bs i1)) ∧ W.cell? ⟨b, off + k * 2 + 1, none⟩ = some (.slice A2 l1.length c2) ∧ W.cell? ⟨b', off' + k * 2, none⟩ = some (.string (bs i1)) ∧ W.cell? ⟨b', off' + k * 2 + 1, none⟩ = some (.slice A3 l2.length c3) ∧ W.cell? ⟨g0, 1, none⟩ = some (.slice (some ⟨b, off, none⟩) ts.length c1) ∧ W.cell? ⟨g1, 1, none⟩ = some (.slice (some ⟨b', off', none⟩) ts'.length c1')) (fun _ => false) (by kernel_rfl) ?_
            change anyD _ _ _ _ _ _ _ _ _ (wr.drewN 1)
            have hbV := below_drewN' wr.heap.size wr 1
            generalize wr.drewN 1 = V0 at hS hbV ⊢
            (refine anyD_light (i := 0) (v := ?_) rfl (by kernel_rfl) (by kernel_rfl) (by kernel_rfl) (by kernel_rfl) (by kernel_rfl) (fun _ _ _ h => h) (.inl ⟨by kernel_rfl, fun W9 hW9 => ?_⟩) hS ?_; rotate_left; · (obtain ⟨hw0, hw1, hw2, hw3, hw4, hw5⟩ := hW9; go_simp; rfl))
            (refine anyD_light (i := 1) (v := ?_) rfl (by kernel_rfl) (by kernel_rfl) (by kernel_rfl) (by kernel_rfl) (by kernel_rfl) (fun _ _ _ h => h) (.inl ⟨by kernel_rfl, fun W9 hW9 => ?_⟩) hS ?_; rotate_left; · (obtain ⟨hw0, hw1, hw2, hw3, hw4, hw5⟩ := hW9; go_simp; rfl))
            (refine anyD_light (i := 2) (v := ?_) rfl (by kernel_rfl) (by kernel_rfl) (by kernel_rfl) (by kernel_rfl) (by kernel_rfl) (fun _ _ _ h => h) (.inl ⟨by kernel_rfl, fun W9 hW9 => ?_⟩) hS ?_; rotate_left; · (obtain ⟨hw0, hw1, hw2, hw3, hw4, hw5⟩ := hW9; go_simp; rfl))
            (refine anyD_light (i := 3) (v := ?_) rfl (by kernel_rfl) (by kernel_rfl) (by kernel_rfl) (by kernel_rfl) (by kernel_rfl) (fun _ _ _ h => h) (.inl ⟨by kernel_rfl, fun W9 hW9 => ?_⟩) hS ?_; rotate_left; · (obtain ⟨hw0, hw1, hw2, hw3, hw4, hw5⟩ := hW9; go_simp; rfl))
            (refine anyD_light (i := 4) (v := ?_) rfl (by kernel_rfl) (by kernel_rfl) (by kernel_rfl) (by kernel_rfl) (by kernel_rfl) (fun _ _ _ h => h) (.inl ⟨by kernel_rfl, fun W9 hW9 => ?_⟩) hS ?_; rotate_left; · (obtain ⟨hw0, hw1, hw2, hw3, hw4, hw5⟩ := hW9; go_simp; rfl))
            (refine anyD_light (i := 5) (v := ?_) rfl (by kernel_rfl) (by kernel_rfl) (by kernel_rfl) (by kernel_rfl) (by kernel_rfl) (fun _ _ _ h => h) (.inl ⟨by kernel_rfl, fun W9 hW9 => ?_⟩) hS ?_; rotate_left; · (obtain ⟨hw0, hw1, hw2, hw3, hw4, hw5⟩ := hW9; go_simp; rfl))
            go_simp
            (refine anyD_light (i := 6) (v := ?_) rfl (by kernel_rfl) (by kernel_rfl) (by kernel_rfl) (by kernel_rfl) (by kernel_rfl) (fun _ _ _ h => h) (.inl ⟨by kernel_rfl, fun W9 hW9 => ?_⟩) hS ?_; rotate_left; · (obtain ⟨hw0, hw1, hw2, hw3, hw4, hw5⟩ := hW9; go_simp; rfl))
            (refine anyD_light (i := 7) (v := ?_) rfl (by kernel_rfl) (by kernel_rfl) (by kernel_rfl) (by kernel_rfl) (by kernel_rfl) (fun _ _ _ h => h) (.inl ⟨by kernel_rfl, fun W9 hW9 => ?_⟩) hS ?_; rotate_left; · (obtain ⟨hw0, hw1, hw2, hw3, hw4, hw5⟩ := hW9; go_simp; rfl))
            (refine anyD_light (i := 8) (v := ?_) rfl (by kernel_rfl) (by kernel_rfl) (by kernel_rfl) (by kernel_rfl) (by kernel_rfl) (fun _ _ _ h => h) (.inl ⟨by kernel_rfl, fun W9 hW9 => ?_⟩) hS ?_; rotate_left; · (obtain ⟨hw0, hw1, hw2, hw3, hw4, hw5⟩ := hW9; go_simp; rfl))
            (refine anyD_light (i := 9) (v := ?_) rfl (by kernel_rfl) (by kernel_rfl) (by kernel_rfl) (by kernel_rfl) (by kernel_rfl) (fun _ _ _ h => h) (.inl ⟨by kernel_rfl, fun W9 hW9 => ?_⟩) hS ?_; rotate_left; · (obtain ⟨hw0, hw1, hw2, hw3, hw4, hw5⟩ := hW9; go_simp; rfl))
            (refine anyD_light (i := 10) (v := ?_) rfl (by kernel_rfl) (by kernel_rfl) (by kernel_rfl) (by kernel_rfl) (by kernel_rfl) (fun _ _ _ h => h) (.inl ⟨by kernel_rfl, fun W9 hW9 => ?_⟩) hS ?_; rotate_left; · (obtain ⟨hw0, hw1, hw2, hw3, hw4, hw5⟩ := hW9; go_simp; rfl))
            (refine anyD_light (i := 11) (v := ?_) rfl (by kernel_rfl) (by kernel_rfl) (by kernel_rfl) (by kernel_rfl) (by kernel_rfl) (fun _ _ _ h => h) (.inl ⟨by kernel_rfl, fun W9 hW9 => ?_⟩) hS ?_; rotate_left; · (obtain ⟨hw0, hw1, hw2, hw3, hw4, hw5⟩ := hW9; go_simp; rfl))
            go_simp
            (refine anyD_light (i := 12) (v := ?_) rfl (by kernel_rfl) (by kernel_rfl) (by kernel_rfl) (by kernel_rfl) (by kernel_rfl) (fun _ _ _ h => h) (.inl ⟨by kernel_rfl, fun W9 hW9 => ?_⟩) hS ?_; rotate_left; · (obtain ⟨hw0, hw1, hw2, hw3, hw4, hw5⟩ := hW9; go_simp; rfl))
            (refine anyD_light (i := 13) (v := ?_) rfl (by kernel_rfl) (by kernel_rfl) (by kernel_rfl) (by kernel_rfl) (by kernel_rfl) (fun _ _ _ h => h) (.inl ⟨by kernel_rfl, fun W9 hW9 => ?_⟩) hS ?_; rotate_left; · (obtain ⟨hw0, hw1, hw2, hw3, hw4, hw5⟩ := hW9; go_simp; rfl))
            (refine anyD_light (i := 14) (v := ?_) rfl (by kernel_rfl) (by kernel_rfl) (by kernel_rfl) (by kernel_rfl) (by kernel_rfl) (fun _ _ _ h => h) (.inl ⟨by kernel_rfl, fun W9 hW9 => ?_⟩) hS ?_; rotate_left; · (obtain ⟨hw0, hw1, hw2, hw3, hw4, hw5⟩ := hW9; go_simp; rfl))
            (refine anyD_light (i := 15) (v := ?_) rfl (by kernel_rfl) (by kernel_rfl) (by kernel_rfl) (by kernel_rfl) (by kernel_rfl) (fun _ _ _ h => h) (.inl ⟨by kernel_rfl, fun W9 hW9 => ?_⟩) hS ?_; rotate_left; · (obtain ⟨hw0, hw1, hw2, hw3, hw4, hw5⟩ := hW9; go_simp; rfl))
            (refine anyD_light (i := 16) (v := ?_) rfl (by kernel_rfl) (by kernel_rfl) (by kernel_rfl) (by kernel_rfl) (by kernel_rfl) (fun _ _ _ h => h) (.inl ⟨by kernel_rfl, fun W9 hW9 => ?_⟩) hS ?_; rotate_left; · (obtain ⟨hw0, hw1, hw2, hw3, hw4, hw5⟩ := hW9; go_simp; rfl))
            (refine anyD_light (i := 17) (v := ?_) rfl (by kernel_rfl) (by kernel_rfl) (by kernel_rfl) (by kernel_rfl) (by kernel_rfl) (fun _ _ _ h => h) (.inl ⟨by kernel_rfl, fun W9 hW9 => ?_⟩) hS ?_; rotate_left; · (obtain ⟨hw0, hw1, hw2, hw3, hw4, hw5⟩ := hW9; go_simp; rfl))
            go_simp
            (refine anyD_light (i := 18) (v := ?_) rfl (by kernel_rfl) (by kernel_rfl) (by kernel_rfl) (by kernel_rfl) (by kernel_rfl) (fun _ _ _ h => h) (.inl ⟨by kernel_rfl, fun W9 hW9 => ?_⟩) hS ?_; rotate_left; · (obtain ⟨hw0, hw1, hw2, hw3, hw4, hw5⟩ := hW9; go_simp; rfl))
            (refine anyD_light (i := 19) (v := ?_) rfl (by kernel_rfl) (by kernel_rfl) (by kernel_rfl) (by kernel_rfl) (by kernel_rfl) (fun _ _ _ h => h) (.inl ⟨by kernel_rfl, fun W9 hW9 => ?_⟩) hS ?_; rotate_left; · (obtain ⟨hw0, hw1, hw2, hw3, hw4, hw5⟩ := hW9; go_simp; rfl))
            (refine anyD_light (i := 20) (v := ?_) rfl (by kernel_rfl) (by kernel_rfl) (by kernel_rfl) (by kernel_rfl) (by kernel_rfl) (fun _ _ _ h => h) (.inl ⟨by kernel_rfl, fun W9 hW9 => ?_⟩) hS ?_; rotate_left; · (obtain ⟨hw0, hw1, hw2, hw3, hw4, hw5⟩ := hW9; go_simp; rfl))
            (refine anyD_light (i := 21) (v := ?_) rfl (by kernel_rfl) (by kernel_rfl) (by kernel_rfl) (by kernel_rfl) (by kernel_rfl) (fun _ _ _ h => h) (.inl ⟨by kernel_rfl, fun W9 hW9 => ?_⟩) hS ?_; rotate_left; · (obtain ⟨hw0, hw1, hw2, hw3, hw4, hw5⟩ := hW9; go_simp; rfl))
            (refine anyD_light (i := 22) (v := ?_) rfl (by kernel_rfl) (by kernel_rfl) (by kernel_rfl) (by kernel_rfl) (by kernel_rfl) (fun _ _ _ h => h) (.inl ⟨by kernel_rfl, fun W9 hW9 => ?_⟩) hS ?_; rotate_left; · (obtain ⟨hw0, hw1, hw2, hw3, hw4, hw5⟩ := hW9; go_simp; rfl))
            (refine anyD_light (i := 23) (v := ?_) rfl (by kernel_rfl) (by kernel_rfl) (by kernel_rfl) (by kernel_rfl) (by kernel_rfl) (fun _ _ _ h => h) (.inl ⟨by kernel_rfl, fun W9 hW9 => ?_⟩) hS ?_; rotate_left; · (obtain ⟨hw0, hw1, hw2, hw3, hw4, hw5⟩ := hW9; go_simp; rfl))
            go_simp
            (refine anyD_light (i := 24) (v := ?_) rfl (by kernel_rfl) (by kernel_rfl) (by kernel_rfl) (by kernel_rfl) (by kernel_rfl) (fun _ _ _ h => h) (.inl ⟨by kernel_rfl, fun W9 hW9 => ?_⟩) hS ?_; rotate_left; · (obtain ⟨hw0, hw1, hw2, hw3, hw4, hw5⟩ := hW9; go_simp; rfl))
            (refine anyD_light (i := 25) (v := ?_) rfl (by kernel_rfl) (by kernel_rfl) (by kernel_rfl) (by kernel_rfl) (by kernel_rfl) (fun _ _ _ h => h) (.inl ⟨by kernel_rfl, fun W9 hW9 => ?_⟩) hS ?_; rotate_left; · (obtain ⟨hw0, hw1, hw2, hw3, hw4, hw5⟩ := hW9; go_simp; rfl))
            go_simp
            refine anyD_oneG (i := 26) (by kernel_rfl) rfl rfl (fun K hK => ?_)
            have HK := Lib.hid hK
            clear hK
            unfold Oper.wp
            go_simp
            refine (Hcl.out V0 hbV).mono ?_
            rintro e w2 ⟨rfl, hb2⟩
            have hb12 : Below wr.heap.size wr w2 := hbV.trans (hb2.mono hbV.size)
            clear hS
            have hS := HS2.out _ hb12
            refine HK.out _ _ (fun _ => hS) ?_
            clear HK
            (refine anyD_light (i := 27) (v := ?_) rfl (by kernel_rfl) (by kernel_rfl) (by kernel_rfl) (by kernel_rfl) (by kernel_rfl) (fun _ _ _ h => h) (.inl ⟨by kernel_rfl, fun W9 hW9 => ?_⟩) hS ?_; rotate_left; · (obtain ⟨hw0, hw1, hw2, hw3, hw4, hw5⟩ := hW9; go_simp; rfl))
            (refine anyD_light (i := 28) (v := ?_) rfl (by kernel_rfl) (by kernel_rfl) (by kernel_rfl) (by kernel_rfl) (by kernel_rfl) (fun _ _ _ h => h) (.inl ⟨by kernel_rfl, fun W9 hW9 => ?_⟩) hS ?_; rotate_left; · (obtain ⟨hw0, hw1, hw2, hw3, hw4, hw5⟩ := hW9; go_simp; rfl))
            go_simp
            refine anyD_done (by kernel_rfl) ?_ _
            have hbr := hb.trans (hb12.mono hb.size)
            clear hb12 hb2 hS
            obtain ⟨q0, q1, r0, r1⟩ := HS.out _ hbr
            cases t with
            | true =>
              go_wp2
              go_roundw
              case rel => exact ⟨k + 1, by omega, by go_num, Lib.hid (by rw [take_get' ts k hlt, take_get' ts' k hlt', hpre.out, ← Hx.out, ← Hx'.out, eq_of_beq ht]), hbr⟩
              case measure => simp [intOf]; omega
            | false =>
              go_wp2
              go_ret
              have hne : ((ids, ts) == (ids', ts')) = false := by
                rw [beq_eq_false_iff_ne]
                intro e
                injection e with _ e
                refine differ_at hlt hlt' ?_ e
                rw [← Hx.out, ← Hx'.out]
                intro e
                injection e with _ e
                rw [e] at ht
                simp at ht
              exact ⟨ret_bool (by rw [hne]), hal.trans (hbr.mono hal.size)⟩
          · have hnn : (bs i1 == bs i2) = false := by rw [bs_beq, beq_eq_false_iff_ne]; exact he
            have hnn' : (bs i1 != bs i2) = true := by rw [bne, hnn]; rfl
            clear hq hp
            go_wp2
            go_quiet (fail)
            go_wp2
            go_ret
            have hne : ((ids, ts) == (ids', ts')) = false := by
              rw [beq_eq_false_iff_ne]
              intro e
              injection e with _ e
              refine differ_at hlt hlt' ?_ e
              rw [← Hx.out, ← Hx'.out]
              intro e
              injection e with e _
              exact he e
            exact ⟨ret_bool (by rw [hne]), hal.trans ((hb.trans (below_drewN' _ _ _)).mono hal.size)⟩
        · have he : k = ts.length := by omega
          subst he
          go_wp2
          go_ret
          refine ⟨ret_bool ?_, hal.trans (hb.mono hal.size)⟩
          rw [same_end Hl.out hpre.out, eq_of_beq Hti.out]; simp
    · have hl' : ((ts.length : Int) != (ts'.length : Int)) = true := by simp; omega
      have hne : ((ids, ts) == (ids', ts')) = false := by
        rw [beq_eq_false_iff_ne]; intro e; injection e with _ e; exact hl (by rw [e])
      go_wp2
      go_ret
      exact ⟨ret_bool (by rw [hne]), below2 hal hb1⟩
end Go.Proofs.YtfjpedgddgbelaaGreatDoor

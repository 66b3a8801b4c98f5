/-
  Contracts and plain facts, one after another: The reference: Ints, SamePostings, SameIndex; Indexes: a text added, a text removed; plain; slices.Clone on terms, postings, ints; strings.Compare.
-/
import Derived.Test.YtngdfjlodblagaaDoorMIx5
import Derived.Test.YtngdfjlodblagaaDoorMIx3
import Derived.Test.YtngdfjlodblagaaDoorMIx4
import Derived.Test.YtngdfjlodblagaaDoorMIx2
import Derived.Test.YtngdfjlodblagaaDoorMIx1
import Derived.Deep.QuietTactic
import Derived.BigQuiet
import Derived.Lib.SliceRun
import Derived.Lib.Bytealg
import Derived.Outline
/-
  The reference: Ints, SamePostings, SameIndex.
-/
namespace Go.Proofs.YtngdfjlodblagaaDoor
open Go.RowKit
set_option linter.unusedVariables false
theorem take_get' {α : Type} (l : List α) (k : Nat) (h : k < l.length) : l.take (k + 1) = l.take k ++ [l[k]] := List.take_succ_eq_append_getElem h
theorem differ_at {α : Type} {l l' : List α} {k : Nat} (h : k < l.length) (h' : k < l'.length) (e : l[k] ≠ l'[k]) : l ≠ l' := fun h2 => by subst h2; exact e rfl
theorem same_end {α : Type} {l l' : List α} (hl : l.length = l'.length) (h : l.take l.length = l'.take l.length) : l = l' := by
  rw [List.take_length, List.take_of_length_le (by omega)] at h; exact h
set_option maxHeartbeats 1000000 in
theorem ints_ok (v v' : Value) (l l' : List Int) (w : World) (h : SlR intC M0 w v l) (h' : SlR intC M0 w v' l') : Calls Tryd.prog 10 #[v, v'] w fun e w' => e = .returned (.bool (l == l')) ∧ Below w.heap.size w w' := by
  obtain ⟨A, c, rfl, _, _⟩ := h.form
  obtain ⟨A', c', rfl, _, _⟩ := h'.form
  obtain ⟨hlc, hcm⟩ := h.lenM
  obtain ⟨hlc', hcm'⟩ := h'.lenM
  by_cases hl : l.length = l'.length
  · have hl' : ((l.length : Int) != (l'.length : Int)) = false := by simp [hl]
    have Hl := Lib.hid hl
    clear hl
    go_enter Tryd.func10, Tryd.ntmps10
    go_wp2
    go_loopw [5] (fun i wr => ∃ k : Nat, k ≤ l.length ∧ i = .int .i64 k ∧ Hid (l.take k = l'.take k) ∧ Below w.heap.size w wr) (fun i _ => l.length - (intOf i).toNat)
    case atStart => exact ⟨0, Nat.zero_le _, rfl, Lib.hid rfl, Below.refl _ _⟩
    case round =>
      obtain ⟨k, hk, rfl, hpre, hb⟩ := hrel
      by_cases hlt : k < l.length
      · have hlt' : k < l'.length := by have := Hl.out; omega
        obtain ⟨b, off, rfl, _, _, q0, _, _⟩ := (h.ext hb).intAt hlt
        obtain ⟨b', off', rfl, _, _, p0, _, _⟩ := (h'.ext hb).intAt hlt'
        obtain ⟨s, hx⟩ : ∃ x, x = l[k] := ⟨_, rfl⟩
        obtain ⟨s', hx'⟩ : ∃ x, x = l'[k] := ⟨_, rfl⟩
        rw [← hx] at q0
        rw [← hx'] at p0
        obtain ⟨t, ht⟩ : ∃ t, (s == s') = t := ⟨_, rfl⟩
        have Hx := Lib.hid hx; have Hx' := Lib.hid hx'
        clear hx hx'
        have hi1 : (k : Int) < (l.length : Int) := by omega
        have hi2 : (k : Int) < (l'.length : Int) := by omega
        cases t with
        | true =>
          have hnn : (s != s') = false := by rw [bne, ht]; rfl
          go_wp2
          go_quiet (fail)
          go_wp2
          go_roundw
          case rel => exact ⟨k + 1, by omega, by go_num, Lib.hid (by rw [take_get' l k hlt, take_get' l' k hlt', hpre.out, ← Hx.out, ← Hx'.out, eq_of_beq ht]), hb.trans (below_drewN' _ _ _)⟩
          case measure => simp [intOf]; omega
        | false =>
          have hnn : (s != s') = true := by rw [bne, ht]; rfl
          go_wp2
          go_quiet (fail)
          go_wp2
          go_ret
          have hne : (l == l') = false := by
            rw [beq_eq_false_iff_ne]
            intro e
            subst e
            rw [Hx.out, Hx'.out] at ht
            simp at ht
          exact ⟨ret_bool (by rw [hne]), hb.trans (below_drewN' _ _ _)⟩
      · have he : k = l.length := by omega
        subst he
        go_wp2
        go_ret
        refine ⟨ret_bool ?_, hb⟩
        have hp := hpre.out
        rw [List.take_length, List.take_of_length_le (by have := Hl.out; omega)] at hp
        rw [hp]; simp
  · have hl' : ((l.length : Int) != (l'.length : Int)) = true := by simp; omega
    have hne : (l == l') = false := by simp; intro h; exact hl (by rw [h])
    rw [hne]
    go_enter Tryd.func10, Tryd.ntmps10
    go_wp2
    go_ret
    exact ⟨rfl, Below.refl _ _⟩

set_option maxRecDepth 20000 in
set_option maxHeartbeats 4000000 in
theorem samePost_ok (v v' : Value) (l l' : List Ix.Post) (w : World) (h : SlR postC M0 w v l) (h' : SlR postC M0 w v' l') : Calls Tryd.prog 11 #[v, v'] w fun e w' => e = .returned (.bool (l == l')) ∧ Below w.heap.size w w' := by
  obtain ⟨A, c, rfl, _, _⟩ := h.form
  obtain ⟨A', c', rfl, _, _⟩ := h'.form
  obtain ⟨hlc, hcm⟩ := h.lenM
  obtain ⟨hlc', hcm'⟩ := h'.lenM
  by_cases hl : l.length = l'.length
  · have hl' : ((l.length : Int) != (l'.length : Int)) = false := by simp [hl]
    have Hl := Lib.hid hl
    clear hl
    go_enter Tryd.func11, Tryd.ntmps11
    go_wp2
    go_loopw [5] (fun i wr => ∃ k : Nat, k ≤ l.length ∧ i = .int .i64 k ∧ Hid (l.take k = l'.take k) ∧ Below w.heap.size w wr) (fun i _ => l.length - (intOf i).toNat)
    case atStart => exact ⟨0, Nat.zero_le _, rfl, Lib.hid rfl, Below.refl _ _⟩
    case round =>
      obtain ⟨k, hk, rfl, hpre, hb⟩ := hrel
      by_cases hlt : k < l.length
      · have hlt' : k < l'.length := by have := Hl.out; omega
        obtain ⟨b, off, A2, c2, rfl, _, _, q0, q1, _, _, hq⟩ := (h.ext hb).postAt hlt
        obtain ⟨b', off', A3, c3, rfl, _, _, p0, p1, _, _, hp⟩ := (h'.ext hb).postAt hlt'
        obtain ⟨⟨i1, s1⟩, hx⟩ : ∃ x, x = l[k] := ⟨_, rfl⟩
        obtain ⟨⟨i2, s2⟩, hx'⟩ : ∃ x, x = l'[k] := ⟨_, rfl⟩
        rw [← hx] at q0 q1 hq
        rw [← hx'] at p0 p1 hp
        dsimp only at q0 q1 hq p0 p1 hp
        have Hx := Lib.hid hx; have Hx' := Lib.hid hx'
        clear hx hx'
        have hi1 : (k : Int) < (l.length : Int) := by omega
        have hi2 : (k : Int) < (l'.length : Int) := by omega
        have hi0 : (0 : Int) ≤ (k : Int) := by omega
        have hkw : IntKind.i64.wrap (k : Int) = (k : Int) := IntWalk.i64_in _ (by omega)
        by_cases he : i1 = i2
        · subst he
          obtain ⟨t, ht⟩ : ∃ t, (s1 == s2) = t := ⟨_, rfl⟩
          have hcl := fun V (hbV : Below wr.heap.size wr V) => ints_ok (.slice A2 s1.length c2) (.slice A3 s2.length c3) s1 s2 V (hq.ext hbV) (hp.ext hbV)
          rw [ht] at hcl
          have hSS : ∀ W', Below wr.heap.size wr W' → W'.cell? ⟨b, off + k * 2, none⟩ = some (.int .i64 i1) ∧ W'.cell? ⟨b, off + k * 2 + 1, none⟩ = some (.slice A2 s1.length c2) ∧ W'.cell? ⟨b', off' + k * 2, none⟩ = some (.int .i64 i1) ∧ W'.cell? ⟨b', off' + k * 2 + 1, none⟩ = some (.slice A3 s2.length c3) := fun W' hb => ⟨cell_ext hb q0, cell_ext hb q1, cell_ext hb p0, cell_ext hb p1⟩
          have HS := Lib.hid hSS; have Hcl := Lib.hid hcl
          have hS := HS.out _ (below_drewN' wr.heap.size wr 1)
          clear hSS hcl q0 q1 p0 p1 hq hp
          go_wp2_with fail
          refine wp_region_D (fun W => W.cell? ⟨b, off + k * 2, none⟩ = some (.int .i64 i1) ∧ W.cell? ⟨b, off + k * 2 + 1, none⟩ = some (.slice A2 s1.length c2) ∧ W.cell? ⟨b', off' + k * 2, none⟩ = some (.int .i64 i1) ∧ W.cell? ⟨b', off' + k * 2 + 1, none⟩ = some (.slice A3 s2.length c3)) (fun _ => false) (by kernel_rfl) ?_
          change anyD _ _ _ _ _ _ _ _ _ (wr.drewN 1)
          have hbV := below_drewN' wr.heap.size wr 1
          generalize wr.drewN 1 = V0 at hS hbV ⊢
          (refine anyD_light (i := 0) (v := ?_) rfl (by kernel_rfl) (by kernel_rfl) (by kernel_rfl) (by kernel_rfl) (by kernel_rfl) (fun _ _ _ h => h) (.inl ⟨by kernel_rfl, fun W9 hW9 => ?_⟩) hS ?_; rotate_left; · (obtain ⟨hw0, hw1, hw2, hw3⟩ := hW9; go_simp; rfl))
          (refine anyD_light (i := 1) (v := ?_) rfl (by kernel_rfl) (by kernel_rfl) (by kernel_rfl) (by kernel_rfl) (by kernel_rfl) (fun _ _ _ h => h) (.inl ⟨by kernel_rfl, fun W9 hW9 => ?_⟩) hS ?_; rotate_left; · (obtain ⟨hw0, hw1, hw2, hw3⟩ := hW9; go_simp; rfl))
          (refine anyD_light (i := 2) (v := ?_) rfl (by kernel_rfl) (by kernel_rfl) (by kernel_rfl) (by kernel_rfl) (by kernel_rfl) (fun _ _ _ h => h) (.inl ⟨by kernel_rfl, fun W9 hW9 => ?_⟩) hS ?_; rotate_left; · (obtain ⟨hw0, hw1, hw2, hw3⟩ := hW9; go_simp; rfl))
          (refine anyD_light (i := 3) (v := ?_) rfl (by kernel_rfl) (by kernel_rfl) (by kernel_rfl) (by kernel_rfl) (by kernel_rfl) (fun _ _ _ h => h) (.inl ⟨by kernel_rfl, fun W9 hW9 => ?_⟩) hS ?_; rotate_left; · (obtain ⟨hw0, hw1, hw2, hw3⟩ := hW9; go_simp; rfl))
          (refine anyD_light (i := 4) (v := ?_) rfl (by kernel_rfl) (by kernel_rfl) (by kernel_rfl) (by kernel_rfl) (by kernel_rfl) (fun _ _ _ h => h) (.inl ⟨by kernel_rfl, fun W9 hW9 => ?_⟩) hS ?_; rotate_left; · (obtain ⟨hw0, hw1, hw2, hw3⟩ := hW9; go_simp; rfl))
          (refine anyD_light (i := 5) (v := ?_) rfl (by kernel_rfl) (by kernel_rfl) (by kernel_rfl) (by kernel_rfl) (by kernel_rfl) (fun _ _ _ h => h) (.inl ⟨by kernel_rfl, fun W9 hW9 => ?_⟩) hS ?_; rotate_left; · (obtain ⟨hw0, hw1, hw2, hw3⟩ := hW9; go_simp; rfl))
          go_simp
          (refine anyD_light (i := 6) (v := ?_) rfl (by kernel_rfl) (by kernel_rfl) (by kernel_rfl) (by kernel_rfl) (by kernel_rfl) (fun _ _ _ h => h) (.inl ⟨by kernel_rfl, fun W9 hW9 => ?_⟩) hS ?_; rotate_left; · (obtain ⟨hw0, hw1, hw2, hw3⟩ := hW9; go_simp; rfl))
          (refine anyD_light (i := 7) (v := ?_) rfl (by kernel_rfl) (by kernel_rfl) (by kernel_rfl) (by kernel_rfl) (by kernel_rfl) (fun _ _ _ h => h) (.inl ⟨by kernel_rfl, fun W9 hW9 => ?_⟩) hS ?_; rotate_left; · (obtain ⟨hw0, hw1, hw2, hw3⟩ := hW9; go_simp; rfl))
          (refine anyD_light (i := 8) (v := ?_) rfl (by kernel_rfl) (by kernel_rfl) (by kernel_rfl) (by kernel_rfl) (by kernel_rfl) (fun _ _ _ h => h) (.inl ⟨by kernel_rfl, fun W9 hW9 => ?_⟩) hS ?_; rotate_left; · (obtain ⟨hw0, hw1, hw2, hw3⟩ := hW9; go_simp; rfl))
          (refine anyD_light (i := 9) (v := ?_) rfl (by kernel_rfl) (by kernel_rfl) (by kernel_rfl) (by kernel_rfl) (by kernel_rfl) (fun _ _ _ h => h) (.inl ⟨by kernel_rfl, fun W9 hW9 => ?_⟩) hS ?_; rotate_left; · (obtain ⟨hw0, hw1, hw2, hw3⟩ := hW9; go_simp; rfl))
          (refine anyD_light (i := 10) (v := ?_) rfl (by kernel_rfl) (by kernel_rfl) (by kernel_rfl) (by kernel_rfl) (by kernel_rfl) (fun _ _ _ h => h) (.inl ⟨by kernel_rfl, fun W9 hW9 => ?_⟩) hS ?_; rotate_left; · (obtain ⟨hw0, hw1, hw2, hw3⟩ := hW9; go_simp; rfl))
          (refine anyD_light (i := 11) (v := ?_) rfl (by kernel_rfl) (by kernel_rfl) (by kernel_rfl) (by kernel_rfl) (by kernel_rfl) (fun _ _ _ h => h) (.inl ⟨by kernel_rfl, fun W9 hW9 => ?_⟩) hS ?_; rotate_left; · (obtain ⟨hw0, hw1, hw2, hw3⟩ := hW9; go_simp; rfl))
          go_simp
          (refine anyD_light (i := 12) (v := ?_) rfl (by kernel_rfl) (by kernel_rfl) (by kernel_rfl) (by kernel_rfl) (by kernel_rfl) (fun _ _ _ h => h) (.inl ⟨by kernel_rfl, fun W9 hW9 => ?_⟩) hS ?_; rotate_left; · (obtain ⟨hw0, hw1, hw2, hw3⟩ := hW9; go_simp; rfl))
          (refine anyD_light (i := 13) (v := ?_) rfl (by kernel_rfl) (by kernel_rfl) (by kernel_rfl) (by kernel_rfl) (by kernel_rfl) (fun _ _ _ h => h) (.inl ⟨by kernel_rfl, fun W9 hW9 => ?_⟩) hS ?_; rotate_left; · (obtain ⟨hw0, hw1, hw2, hw3⟩ := hW9; go_simp; rfl))
          (refine anyD_light (i := 14) (v := ?_) rfl (by kernel_rfl) (by kernel_rfl) (by kernel_rfl) (by kernel_rfl) (by kernel_rfl) (fun _ _ _ h => h) (.inl ⟨by kernel_rfl, fun W9 hW9 => ?_⟩) hS ?_; rotate_left; · (obtain ⟨hw0, hw1, hw2, hw3⟩ := hW9; go_simp; rfl))
          (refine anyD_light (i := 15) (v := ?_) rfl (by kernel_rfl) (by kernel_rfl) (by kernel_rfl) (by kernel_rfl) (by kernel_rfl) (fun _ _ _ h => h) (.inl ⟨by kernel_rfl, fun W9 hW9 => ?_⟩) hS ?_; rotate_left; · (obtain ⟨hw0, hw1, hw2, hw3⟩ := hW9; go_simp; rfl))
          (refine anyD_light (i := 16) (v := ?_) rfl (by kernel_rfl) (by kernel_rfl) (by kernel_rfl) (by kernel_rfl) (by kernel_rfl) (fun _ _ _ h => h) (.inl ⟨by kernel_rfl, fun W9 hW9 => ?_⟩) hS ?_; rotate_left; · (obtain ⟨hw0, hw1, hw2, hw3⟩ := hW9; go_simp; rfl))
          (refine anyD_light (i := 17) (v := ?_) rfl (by kernel_rfl) (by kernel_rfl) (by kernel_rfl) (by kernel_rfl) (by kernel_rfl) (fun _ _ _ h => h) (.inl ⟨by kernel_rfl, fun W9 hW9 => ?_⟩) hS ?_; rotate_left; · (obtain ⟨hw0, hw1, hw2, hw3⟩ := hW9; go_simp; rfl))
          go_simp
          (refine anyD_light (i := 18) (v := ?_) rfl (by kernel_rfl) (by kernel_rfl) (by kernel_rfl) (by kernel_rfl) (by kernel_rfl) (fun _ _ _ h => h) (.inl ⟨by kernel_rfl, fun W9 hW9 => ?_⟩) hS ?_; rotate_left; · (obtain ⟨hw0, hw1, hw2, hw3⟩ := hW9; go_simp; rfl))
          (refine anyD_light (i := 19) (v := ?_) rfl (by kernel_rfl) (by kernel_rfl) (by kernel_rfl) (by kernel_rfl) (by kernel_rfl) (fun _ _ _ h => h) (.inl ⟨by kernel_rfl, fun W9 hW9 => ?_⟩) hS ?_; rotate_left; · (obtain ⟨hw0, hw1, hw2, hw3⟩ := hW9; go_simp; rfl))
          (refine anyD_light (i := 20) (v := ?_) rfl (by kernel_rfl) (by kernel_rfl) (by kernel_rfl) (by kernel_rfl) (by kernel_rfl) (fun _ _ _ h => h) (.inl ⟨by kernel_rfl, fun W9 hW9 => ?_⟩) hS ?_; rotate_left; · (obtain ⟨hw0, hw1, hw2, hw3⟩ := hW9; go_simp; rfl))
          (refine anyD_light (i := 21) (v := ?_) rfl (by kernel_rfl) (by kernel_rfl) (by kernel_rfl) (by kernel_rfl) (by kernel_rfl) (fun _ _ _ h => h) (.inl ⟨by kernel_rfl, fun W9 hW9 => ?_⟩) hS ?_; rotate_left; · (obtain ⟨hw0, hw1, hw2, hw3⟩ := hW9; go_simp; rfl))
          go_simp
          refine anyD_oneG (i := 22) (by kernel_rfl) rfl rfl (fun K hK => ?_)
          have HK := Lib.hid hK
          clear hK
          unfold Oper.wp
          go_simp
          refine (Hcl.out V0 hbV).mono ?_
          rintro e w2 ⟨rfl, hb2⟩
          have hb12 : Below wr.heap.size wr w2 := hbV.trans (hb2.mono hbV.size)
          clear hS
          have hS := HS.out _ hb12
          refine HK.out _ _ (fun _ => hS) ?_
          clear HK
          (refine anyD_light (i := 23) (v := ?_) rfl (by kernel_rfl) (by kernel_rfl) (by kernel_rfl) (by kernel_rfl) (by kernel_rfl) (fun _ _ _ h => h) (.inl ⟨by kernel_rfl, fun W9 hW9 => ?_⟩) hS ?_; rotate_left; · (obtain ⟨hw0, hw1, hw2, hw3⟩ := hW9; go_simp; rfl))
          (refine anyD_light (i := 24) (v := ?_) rfl (by kernel_rfl) (by kernel_rfl) (by kernel_rfl) (by kernel_rfl) (by kernel_rfl) (fun _ _ _ h => h) (.inl ⟨by kernel_rfl, fun W9 hW9 => ?_⟩) hS ?_; rotate_left; · (obtain ⟨hw0, hw1, hw2, hw3⟩ := hW9; go_simp; rfl))
          go_simp
          refine anyD_done (by kernel_rfl) ?_ _
          have hbr := hb.trans (hb12.mono hb.size)
          clear hb12 hb2 hS
          cases t with
          | true =>
            go_wp2
            go_roundw
            case rel => exact ⟨k + 1, by omega, by go_num, Lib.hid (by rw [take_get' l k hlt, take_get' l' k hlt', hpre.out, ← Hx.out, ← Hx'.out, eq_of_beq ht]), hbr⟩
            case measure => simp [intOf]; omega
          | false =>
            go_wp2
            go_ret
            have hne : (l == l') = false := by
              rw [beq_eq_false_iff_ne]
              refine differ_at hlt hlt' ?_
              rw [← Hx.out, ← Hx'.out]
              intro e
              injection e with _ e
              rw [e] at ht
              simp at ht
            exact ⟨ret_bool (by rw [hne]), hbr⟩
        · have hnn : (i1 != i2) = true := by simpa using he
          clear hq hp
          go_wp2
          go_quiet (fail)
          go_wp2
          go_ret
          have hne : (l == l') = false := by
            rw [beq_eq_false_iff_ne]
            refine differ_at hlt hlt' ?_
            rw [← Hx.out, ← Hx'.out]
            intro e
            injection e with e _
            exact he e
          exact ⟨ret_bool (by rw [hne]), hb.trans (below_drewN' _ _ _)⟩
      · have he : k = l.length := by omega
        subst he
        go_wp2
        go_ret
        refine ⟨ret_bool ?_, hb⟩
        rw [same_end Hl.out hpre.out]; simp
  · have hl' : ((l.length : Int) != (l'.length : Int)) = true := by simp; omega
    have hne : (l == l') = false := by simp; intro h; exact hl (by rw [h])
    rw [hne]
    go_enter Tryd.func11, Tryd.ntmps11
    go_wp2
    go_ret
    exact ⟨rfl, Below.refl _ _⟩
set_option maxRecDepth 20000 in
set_option maxHeartbeats 8000000 in
theorem sameIndex_ok (a b a' b' : Value) (x y : Ix.Idx) (w : World) (h0 : SlR intC M0 w a x.1) (h1 : SlR termC M0 w b x.2) (h0' : SlR intC M0 w a' y.1) (h1' : SlR termC M0 w b' y.2) : Calls Tryd.prog 7 #[.agg #[a, b], .agg #[a', b']] w fun e w' => e = .returned (.bool (x == y)) ∧ Below w.heap.size w w' := by
  obtain ⟨ids, ts⟩ := x
  obtain ⟨ids', ts'⟩ := y
  dsimp only at h0 h1 h0' h1'
  obtain ⟨A0, c0, rfl, _, _⟩ := h0.form
  obtain ⟨A1, c1, rfl, _, _⟩ := h1.form
  obtain ⟨A0', c0', rfl, _, _⟩ := h0'.form
  obtain ⟨A1', c1', rfl, _, _⟩ := h1'.form
  obtain ⟨hlc, hcm⟩ := h1.lenM
  obtain ⟨hlc', hcm'⟩ := h1'.lenM
  obtain ⟨W, hW, hs, hal, kb, kf⟩ := two_new w (.slice A0 ids.length c0) (.slice A1 ts.length c1) 25 (.slice A0' ids'.length c0') (.slice A1' ts'.length c1') 25
  obtain ⟨g0, hg0⟩ : ∃ g, w.heap.size = g := ⟨_, rfl⟩
  obtain ⟨g1, hg1⟩ : ∃ g, w.heap.size + 1 = g := ⟨_, rfl⟩
  rw [hg1] at kf
  rw [hg0] at kb hg1
  have hSS : ∀ W', Below W.heap.size W W' → W'.cell? ⟨g0, 0, none⟩ = some (.slice A0 ids.length c0) ∧ W'.cell? ⟨g0, 1, none⟩ = some (.slice A1 ts.length c1) ∧ W'.cell? ⟨g1, 0, none⟩ = some (.slice A0' ids'.length c0') ∧ W'.cell? ⟨g1, 1, none⟩ = some (.slice A1' ts'.length c1') := fun W' hb => ⟨(kb.ext hb).two.1, (kb.ext hb).two.2.1, (kf.ext hb).two.1, (kf.ext hb).two.2.1⟩
  have HS := Lib.hid hSS
  have hin := ints_ok (.slice A0 ids.length c0) (.slice A0' ids'.length c0') ids ids' W (h0.ext hal) (h0'.ext hal)
  obtain ⟨ti, hti⟩ : ∃ t, (ids == ids') = t := ⟨_, rfl⟩
  rw [hti] at hin
  have h1 := h1.ext hal
  have h1' := h1'.ext hal
  have Hin := Lib.hid hin
  have hSw := HS.out _ (Below.refl _ _)
  clear hin hSS h0 h0'
  obtain ⟨q0, q1, r0, r1⟩ := hSw
  rw [← hW, ← hg0] at q0 q1
  rw [← hW, ← hg1, ← hg0] at r0 r1
  have HW := Lib.hid (And.intro hW (And.intro hg0 hg1))
  clear hW hg0 hg1 hs kb kf
  go_enter Tryd.func7, Tryd.ntmps7
  go_wp2_with fail
  rw [HW.out.1, HW.out.2.1, HW.out.2.2]
  refine Hin.out.mono ?_
  rintro e w1 ⟨rfl, hb1⟩
  clear q0 q1 r0 r1
  obtain ⟨q0, q1, r0, r1⟩ := HS.out _ hb1
  have Hti := Lib.hid hti
  clear hti
  cases ti with
  | false =>
    go_wp2
    go_ret
    have hne : ((ids, ts) == (ids', ts')) = false := by
      rw [beq_eq_false_iff_ne]; intro e; injection e with e _; have := Hti.out; rw [e] at this; simp at this
    exact ⟨ret_bool (by rw [hne]), below2 hal hb1⟩
  | true =>
    by_cases hl : ts.length = ts'.length
    · have hl' : ((ts.length : Int) != (ts'.length : Int)) = false := by simp [hl]
      have Hl := Lib.hid hl
      clear hl
      go_wp2
      go_loopw [5] (fun i wr => ∃ k : Nat, k ≤ ts.length ∧ i = .int .i64 k ∧ Hid (ts.take k = ts'.take k) ∧ Below W.heap.size W wr) (fun i _ => ts.length - (intOf i).toNat)
      case atStart => exact ⟨0, Nat.zero_le _, rfl, Lib.hid rfl, hb1⟩
      case round =>
        obtain ⟨k, hk, rfl, hpre, hb⟩ := hrel
        clear q0 q1 r0 r1
        obtain ⟨q0, q1, r0, r1⟩ := HS.out _ hb
        by_cases hlt : k < ts.length
        · have hlt' : k < ts'.length := by have := Hl.out; omega
          obtain ⟨b, off, A2, c2, rfl, _, _, p0, p1, _, hq⟩ := (h1.ext hb).termAt hlt
          obtain ⟨b', off', A3, c3, rfl, _, _, s0, s1, _, hp⟩ := (h1'.ext hb).termAt hlt'
          obtain ⟨⟨i1, l1⟩, hx⟩ : ∃ x, x = ts[k] := ⟨_, rfl⟩
          obtain ⟨⟨i2, l2⟩, hx'⟩ : ∃ x, x = ts'[k] := ⟨_, rfl⟩
          rw [← hx] at p0 p1 hq
          rw [← hx'] at s0 s1 hp
          dsimp only at p0 p1 hq s0 s1 hp
          have Hx := Lib.hid hx; have Hx' := Lib.hid hx'
          clear hx hx'
          have hi1 : (k : Int) < (ts.length : Int) := by omega
          have hi2 : (k : Int) < (ts'.length : Int) := by omega
          have hi0 : (0 : Int) ≤ (k : Int) := by omega
          have hkw : IntKind.i64.wrap (k : Int) = (k : Int) := IntWalk.i64_in _ (by omega)
          by_cases he : i1 = i2
          · subst he
            obtain ⟨t, ht⟩ : ∃ t, (l1 == l2) = t := ⟨_, rfl⟩
            have hcl := fun V (hbV : Below wr.heap.size wr V) => samePost_ok (.slice A2 l1.length c2) (.slice A3 l2.length c3) l1 l2 V (hq.ext hbV) (hp.ext hbV)
            rw [ht] at hcl
            have hSS : ∀ W', Below wr.heap.size wr W' → W'.cell? ⟨b, off + k * 2, none⟩ = some (.string (bs i1)) ∧ W'.cell? ⟨b, off + k * 2 + 1, none⟩ = some (.slice A2 l1.length c2) ∧ W'.cell? ⟨b', off' + k * 2, none⟩ = some (.string (bs i1)) ∧ W'.cell? ⟨b', off' + k * 2 + 1, none⟩ = some (.slice A3 l2.length c3) ∧ W'.cell? ⟨g0, 1, none⟩ = some (.slice (some ⟨b, off, none⟩) ts.length c1) ∧ W'.cell? ⟨g1, 1, none⟩ = some (.slice (some ⟨b', off', none⟩) ts'.length c1') := fun W' hb => ⟨cell_ext hb p0, cell_ext hb p1, cell_ext hb s0, cell_ext hb s1, cell_ext hb q1, cell_ext hb r1⟩
            have HS2 := Lib.hid hSS; have Hcl := Lib.hid hcl
            have hS := HS2.out _ (below_drewN' wr.heap.size wr 1)
            clear hSS hcl p0 p1 s0 s1 hq hp
            go_wp2_with fail
            clear q0 q1 r0 r1
            refine wp_region_D (fun W => W.cell? ⟨b, off + k * 2, none⟩ = some (.string (bs i1)) ∧ W.cell? ⟨b, off + k * 2 + 1, none⟩ = some (.slice A2 l1.length c2) ∧ W.cell? ⟨b', off' + k * 2, none⟩ = some (.string (bs i1)) ∧ W.cell? ⟨b', off' + k * 2 + 1, none⟩ = some (.slice A3 l2.length c3) ∧ W.cell? ⟨g0, 1, none⟩ = some (.slice (some ⟨b, off, none⟩) ts.length c1) ∧ W.cell? ⟨g1, 1, none⟩ = some (.slice (some ⟨b', off', none⟩) ts'.length c1')) (fun _ => false) (by kernel_rfl) ?_
            change anyD _ _ _ _ _ _ _ _ _ (wr.drewN 1)
            have hbV := below_drewN' wr.heap.size wr 1
            generalize wr.drewN 1 = V0 at hS hbV ⊢
            (refine anyD_light (i := 0) (v := ?_) rfl (by kernel_rfl) (by kernel_rfl) (by kernel_rfl) (by kernel_rfl) (by kernel_rfl) (fun _ _ _ h => h) (.inl ⟨by kernel_rfl, fun W9 hW9 => ?_⟩) hS ?_; rotate_left; · (obtain ⟨hw0, hw1, hw2, hw3, hw4, hw5⟩ := hW9; go_simp; rfl))
            (refine anyD_light (i := 1) (v := ?_) rfl (by kernel_rfl) (by kernel_rfl) (by kernel_rfl) (by kernel_rfl) (by kernel_rfl) (fun _ _ _ h => h) (.inl ⟨by kernel_rfl, fun W9 hW9 => ?_⟩) hS ?_; rotate_left; · (obtain ⟨hw0, hw1, hw2, hw3, hw4, hw5⟩ := hW9; go_simp; rfl))
            (refine anyD_light (i := 2) (v := ?_) rfl (by kernel_rfl) (by kernel_rfl) (by kernel_rfl) (by kernel_rfl) (by kernel_rfl) (fun _ _ _ h => h) (.inl ⟨by kernel_rfl, fun W9 hW9 => ?_⟩) hS ?_; rotate_left; · (obtain ⟨hw0, hw1, hw2, hw3, hw4, hw5⟩ := hW9; go_simp; rfl))
            (refine anyD_light (i := 3) (v := ?_) rfl (by kernel_rfl) (by kernel_rfl) (by kernel_rfl) (by kernel_rfl) (by kernel_rfl) (fun _ _ _ h => h) (.inl ⟨by kernel_rfl, fun W9 hW9 => ?_⟩) hS ?_; rotate_left; · (obtain ⟨hw0, hw1, hw2, hw3, hw4, hw5⟩ := hW9; go_simp; rfl))
            (refine anyD_light (i := 4) (v := ?_) rfl (by kernel_rfl) (by kernel_rfl) (by kernel_rfl) (by kernel_rfl) (by kernel_rfl) (fun _ _ _ h => h) (.inl ⟨by kernel_rfl, fun W9 hW9 => ?_⟩) hS ?_; rotate_left; · (obtain ⟨hw0, hw1, hw2, hw3, hw4, hw5⟩ := hW9; go_simp; rfl))
            (refine anyD_light (i := 5) (v := ?_) rfl (by kernel_rfl) (by kernel_rfl) (by kernel_rfl) (by kernel_rfl) (by kernel_rfl) (fun _ _ _ h => h) (.inl ⟨by kernel_rfl, fun W9 hW9 => ?_⟩) hS ?_; rotate_left; · (obtain ⟨hw0, hw1, hw2, hw3, hw4, hw5⟩ := hW9; go_simp; rfl))
            go_simp
            (refine anyD_light (i := 6) (v := ?_) rfl (by kernel_rfl) (by kernel_rfl) (by kernel_rfl) (by kernel_rfl) (by kernel_rfl) (fun _ _ _ h => h) (.inl ⟨by kernel_rfl, fun W9 hW9 => ?_⟩) hS ?_; rotate_left; · (obtain ⟨hw0, hw1, hw2, hw3, hw4, hw5⟩ := hW9; go_simp; rfl))
            (refine anyD_light (i := 7) (v := ?_) rfl (by kernel_rfl) (by kernel_rfl) (by kernel_rfl) (by kernel_rfl) (by kernel_rfl) (fun _ _ _ h => h) (.inl ⟨by kernel_rfl, fun W9 hW9 => ?_⟩) hS ?_; rotate_left; · (obtain ⟨hw0, hw1, hw2, hw3, hw4, hw5⟩ := hW9; go_simp; rfl))
            (refine anyD_light (i := 8) (v := ?_) rfl (by kernel_rfl) (by kernel_rfl) (by kernel_rfl) (by kernel_rfl) (by kernel_rfl) (fun _ _ _ h => h) (.inl ⟨by kernel_rfl, fun W9 hW9 => ?_⟩) hS ?_; rotate_left; · (obtain ⟨hw0, hw1, hw2, hw3, hw4, hw5⟩ := hW9; go_simp; rfl))
            (refine anyD_light (i := 9) (v := ?_) rfl (by kernel_rfl) (by kernel_rfl) (by kernel_rfl) (by kernel_rfl) (by kernel_rfl) (fun _ _ _ h => h) (.inl ⟨by kernel_rfl, fun W9 hW9 => ?_⟩) hS ?_; rotate_left; · (obtain ⟨hw0, hw1, hw2, hw3, hw4, hw5⟩ := hW9; go_simp; rfl))
            (refine anyD_light (i := 10) (v := ?_) rfl (by kernel_rfl) (by kernel_rfl) (by kernel_rfl) (by kernel_rfl) (by kernel_rfl) (fun _ _ _ h => h) (.inl ⟨by kernel_rfl, fun W9 hW9 => ?_⟩) hS ?_; rotate_left; · (obtain ⟨hw0, hw1, hw2, hw3, hw4, hw5⟩ := hW9; go_simp; rfl))
            (refine anyD_light (i := 11) (v := ?_) rfl (by kernel_rfl) (by kernel_rfl) (by kernel_rfl) (by kernel_rfl) (by kernel_rfl) (fun _ _ _ h => h) (.inl ⟨by kernel_rfl, fun W9 hW9 => ?_⟩) hS ?_; rotate_left; · (obtain ⟨hw0, hw1, hw2, hw3, hw4, hw5⟩ := hW9; go_simp; rfl))
            go_simp
            (refine anyD_light (i := 12) (v := ?_) rfl (by kernel_rfl) (by kernel_rfl) (by kernel_rfl) (by kernel_rfl) (by kernel_rfl) (fun _ _ _ h => h) (.inl ⟨by kernel_rfl, fun W9 hW9 => ?_⟩) hS ?_; rotate_left; · (obtain ⟨hw0, hw1, hw2, hw3, hw4, hw5⟩ := hW9; go_simp; rfl))
            (refine anyD_light (i := 13) (v := ?_) rfl (by kernel_rfl) (by kernel_rfl) (by kernel_rfl) (by kernel_rfl) (by kernel_rfl) (fun _ _ _ h => h) (.inl ⟨by kernel_rfl, fun W9 hW9 => ?_⟩) hS ?_; rotate_left; · (obtain ⟨hw0, hw1, hw2, hw3, hw4, hw5⟩ := hW9; go_simp; rfl))
            (refine anyD_light (i := 14) (v := ?_) rfl (by kernel_rfl) (by kernel_rfl) (by kernel_rfl) (by kernel_rfl) (by kernel_rfl) (fun _ _ _ h => h) (.inl ⟨by kernel_rfl, fun W9 hW9 => ?_⟩) hS ?_; rotate_left; · (obtain ⟨hw0, hw1, hw2, hw3, hw4, hw5⟩ := hW9; go_simp; rfl))
            (refine anyD_light (i := 15) (v := ?_) rfl (by kernel_rfl) (by kernel_rfl) (by kernel_rfl) (by kernel_rfl) (by kernel_rfl) (fun _ _ _ h => h) (.inl ⟨by kernel_rfl, fun W9 hW9 => ?_⟩) hS ?_; rotate_left; · (obtain ⟨hw0, hw1, hw2, hw3, hw4, hw5⟩ := hW9; go_simp; rfl))
            (refine anyD_light (i := 16) (v := ?_) rfl (by kernel_rfl) (by kernel_rfl) (by kernel_rfl) (by kernel_rfl) (by kernel_rfl) (fun _ _ _ h => h) (.inl ⟨by kernel_rfl, fun W9 hW9 => ?_⟩) hS ?_; rotate_left; · (obtain ⟨hw0, hw1, hw2, hw3, hw4, hw5⟩ := hW9; go_simp; rfl))
            (refine anyD_light (i := 17) (v := ?_) rfl (by kernel_rfl) (by kernel_rfl) (by kernel_rfl) (by kernel_rfl) (by kernel_rfl) (fun _ _ _ h => h) (.inl ⟨by kernel_rfl, fun W9 hW9 => ?_⟩) hS ?_; rotate_left; · (obtain ⟨hw0, hw1, hw2, hw3, hw4, hw5⟩ := hW9; go_simp; rfl))
            go_simp
            (refine anyD_light (i := 18) (v := ?_) rfl (by kernel_rfl) (by kernel_rfl) (by kernel_rfl) (by kernel_rfl) (by kernel_rfl) (fun _ _ _ h => h) (.inl ⟨by kernel_rfl, fun W9 hW9 => ?_⟩) hS ?_; rotate_left; · (obtain ⟨hw0, hw1, hw2, hw3, hw4, hw5⟩ := hW9; go_simp; rfl))
            (refine anyD_light (i := 19) (v := ?_) rfl (by kernel_rfl) (by kernel_rfl) (by kernel_rfl) (by kernel_rfl) (by kernel_rfl) (fun _ _ _ h => h) (.inl ⟨by kernel_rfl, fun W9 hW9 => ?_⟩) hS ?_; rotate_left; · (obtain ⟨hw0, hw1, hw2, hw3, hw4, hw5⟩ := hW9; go_simp; rfl))
            (refine anyD_light (i := 20) (v := ?_) rfl (by kernel_rfl) (by kernel_rfl) (by kernel_rfl) (by kernel_rfl) (by kernel_rfl) (fun _ _ _ h => h) (.inl ⟨by kernel_rfl, fun W9 hW9 => ?_⟩) hS ?_; rotate_left; · (obtain ⟨hw0, hw1, hw2, hw3, hw4, hw5⟩ := hW9; go_simp; rfl))
            (refine anyD_light (i := 21) (v := ?_) rfl (by kernel_rfl) (by kernel_rfl) (by kernel_rfl) (by kernel_rfl) (by kernel_rfl) (fun _ _ _ h => h) (.inl ⟨by kernel_rfl, fun W9 hW9 => ?_⟩) hS ?_; rotate_left; · (obtain ⟨hw0, hw1, hw2, hw3, hw4, hw5⟩ := hW9; go_simp; rfl))
            (refine anyD_light (i := 22) (v := ?_) rfl (by kernel_rfl) (by kernel_rfl) (by kernel_rfl) (by kernel_rfl) (by kernel_rfl) (fun _ _ _ h => h) (.inl ⟨by kernel_rfl, fun W9 hW9 => ?_⟩) hS ?_; rotate_left; · (obtain ⟨hw0, hw1, hw2, hw3, hw4, hw5⟩ := hW9; go_simp; rfl))
            (refine anyD_light (i := 23) (v := ?_) rfl (by kernel_rfl) (by kernel_rfl) (by kernel_rfl) (by kernel_rfl) (by kernel_rfl) (fun _ _ _ h => h) (.inl ⟨by kernel_rfl, fun W9 hW9 => ?_⟩) hS ?_; rotate_left; · (obtain ⟨hw0, hw1, hw2, hw3, hw4, hw5⟩ := hW9; go_simp; rfl))
            go_simp
            (refine anyD_light (i := 24) (v := ?_) rfl (by kernel_rfl) (by kernel_rfl) (by kernel_rfl) (by kernel_rfl) (by kernel_rfl) (fun _ _ _ h => h) (.inl ⟨by kernel_rfl, fun W9 hW9 => ?_⟩) hS ?_; rotate_left; · (obtain ⟨hw0, hw1, hw2, hw3, hw4, hw5⟩ := hW9; go_simp; rfl))
            (refine anyD_light (i := 25) (v := ?_) rfl (by kernel_rfl) (by kernel_rfl) (by kernel_rfl) (by kernel_rfl) (by kernel_rfl) (fun _ _ _ h => h) (.inl ⟨by kernel_rfl, fun W9 hW9 => ?_⟩) hS ?_; rotate_left; · (obtain ⟨hw0, hw1, hw2, hw3, hw4, hw5⟩ := hW9; go_simp; rfl))
            go_simp
            refine anyD_oneG (i := 26) (by kernel_rfl) rfl rfl (fun K hK => ?_)
            have HK := Lib.hid hK
            clear hK
            unfold Oper.wp
            go_simp
            refine (Hcl.out V0 hbV).mono ?_
            rintro e w2 ⟨rfl, hb2⟩
            have hb12 : Below wr.heap.size wr w2 := hbV.trans (hb2.mono hbV.size)
            clear hS
            have hS := HS2.out _ hb12
            refine HK.out _ _ (fun _ => hS) ?_
            clear HK
            (refine anyD_light (i := 27) (v := ?_) rfl (by kernel_rfl) (by kernel_rfl) (by kernel_rfl) (by kernel_rfl) (by kernel_rfl) (fun _ _ _ h => h) (.inl ⟨by kernel_rfl, fun W9 hW9 => ?_⟩) hS ?_; rotate_left; · (obtain ⟨hw0, hw1, hw2, hw3, hw4, hw5⟩ := hW9; go_simp; rfl))
            (refine anyD_light (i := 28) (v := ?_) rfl (by kernel_rfl) (by kernel_rfl) (by kernel_rfl) (by kernel_rfl) (by kernel_rfl) (fun _ _ _ h => h) (.inl ⟨by kernel_rfl, fun W9 hW9 => ?_⟩) hS ?_; rotate_left; · (obtain ⟨hw0, hw1, hw2, hw3, hw4, hw5⟩ := hW9; go_simp; rfl))
            go_simp
            refine anyD_done (by kernel_rfl) ?_ _
            have hbr := hb.trans (hb12.mono hb.size)
            clear hb12 hb2 hS
            obtain ⟨q0, q1, r0, r1⟩ := HS.out _ hbr
            cases t with
            | true =>
              go_wp2
              go_roundw
              case rel => exact ⟨k + 1, by omega, by go_num, Lib.hid (by rw [take_get' ts k hlt, take_get' ts' k hlt', hpre.out, ← Hx.out, ← Hx'.out, eq_of_beq ht]), hbr⟩
              case measure => simp [intOf]; omega
            | false =>
              go_wp2
              go_ret
              have hne : ((ids, ts) == (ids', ts')) = false := by
                rw [beq_eq_false_iff_ne]
                intro e
                injection e with _ e
                refine differ_at hlt hlt' ?_ e
                rw [← Hx.out, ← Hx'.out]
                intro e
                injection e with _ e
                rw [e] at ht
                simp at ht
              exact ⟨ret_bool (by rw [hne]), hal.trans (hbr.mono hal.size)⟩
          · have hnn : (bs i1 == bs i2) = false := by rw [bs_beq, beq_eq_false_iff_ne]; exact he
            have hnn' : (bs i1 != bs i2) = true := by rw [bne, hnn]; rfl
            clear hq hp
            go_wp2
            go_quiet (fail)
            go_wp2
            go_ret
            have hne : ((ids, ts) == (ids', ts')) = false := by
              rw [beq_eq_false_iff_ne]
              intro e
              injection e with _ e
              refine differ_at hlt hlt' ?_ e
              rw [← Hx.out, ← Hx'.out]
              intro e
              injection e with e _
              exact he e
            exact ⟨ret_bool (by rw [hne]), hal.trans ((hb.trans (below_drewN' _ _ _)).mono hal.size)⟩
        · have he : k = ts.length := by omega
          subst he
          go_wp2
          go_ret
          refine ⟨ret_bool ?_, hal.trans (hb.mono hal.size)⟩
          rw [same_end Hl.out hpre.out, eq_of_beq Hti.out]; simp
    · have hl' : ((ts.length : Int) != (ts'.length : Int)) = true := by simp; omega
      have hne : ((ids, ts) == (ids', ts')) = false := by
        rw [beq_eq_false_iff_ne]; intro e; injection e with _ e; exact hl (by rw [e])
      go_wp2
      go_ret
      exact ⟨ret_bool (by rw [hne]), below2 hal hb1⟩
end Go.Proofs.YtngdfjlodblagaaDoor
/-
  Indexes: a text added, a text removed; plain.
-/
namespace Go.Proofs.YtngdfjlodblagaaDoor
namespace Ix
set_option linter.unusedVariables false
def insId (ids : List Int) (id : Int) : List Int := ids.filter (fun n => decide (n < id)) ++ id :: ids.filter (fun n => decide (id < n))
def addF (x : Idx) (id : Int) (s : List Str) : Idx := (insId x.1 id, putAll id s 0 x.2)
def removeF (x : Idx) (id : Int) : Idx := (x.1.filter (fun n => !(n == id)), removeT id x.2)
theorem split_at {ids : List Int} {id : Int} {k : Nat} (hk : k ≤ ids.length) (h1 : ∀ (m : Nat) (h : m < ids.length), m < k → ids[m] < id) (h2 : ∀ (m : Nat) (h : m < ids.length), k ≤ m → id < ids[m]) :
    ids.filter (fun n => decide (n < id)) = ids.take k ∧ ids.filter (fun n => decide (id < n)) = ids.drop k := by
  have ht : ∀ n ∈ ids.take k, n < id := fun n hn => by
    obtain ⟨m, hm, rfl⟩ := List.mem_iff_getElem.1 hn
    rw [List.length_take] at hm
    rw [List.getElem_take]
    exact h1 m (by omega) (by omega)
  have hd : ∀ n ∈ ids.drop k, id < n := fun n hn => by
    obtain ⟨m, hm, rfl⟩ := List.mem_iff_getElem.1 hn
    rw [List.length_drop] at hm
    rw [List.getElem_drop]
    exact h2 _ (by omega) (by omega)
  constructor
  · conv => lhs; rw [← List.take_append_drop k ids]
    rw [List.filter_append, List.filter_eq_self.2 fun n hn => by simpa using ht n hn, List.filter_eq_nil_iff.2 fun n hn => by have := hd n hn; simp; omega, List.append_nil]
  · conv => lhs; rw [← List.take_append_drop k ids]
    rw [List.filter_append, List.filter_eq_nil_iff.2 fun n hn => by have := ht n hn; simp; omega, List.filter_eq_self.2 fun n hn => by simpa using hd n hn, List.nil_append]
theorem insId_at {ids : List Int} {id : Int} {k : Nat} (hk : k ≤ ids.length) (h1 : ∀ (m : Nat) (h : m < ids.length), m < k → ids[m] < id) (h2 : ∀ (m : Nat) (h : m < ids.length), k ≤ m → id < ids[m]) : insId ids id = ids.take k ++ id :: ids.drop k := by
  obtain ⟨a, b⟩ := split_at hk h1 h2
  unfold insId
  rw [a, b]
theorem mem_insId {ids : List Int} {id n : Int} : n ∈ insId ids id ↔ n = id ∨ n ∈ ids := by
  unfold insId
  simp only [List.mem_append, List.mem_cons, List.mem_filter, decide_eq_true_eq]
  constructor
  · rintro (⟨h, _⟩ | h | ⟨h, _⟩)
    · exact .inr h
    · exact .inl h
    · exact .inr h
  · rintro (h | h)
    · exact .inr (.inl h)
    · rcases Int.lt_trichotomy n id with e | e | e
      · exact .inl ⟨h, e⟩
      · exact .inr (.inl e)
      · exact .inr (.inr ⟨h, e⟩)
theorem insId_sorted {ids : List Int} {id : Int} (h : ids.Pairwise (· < ·)) : (insId ids id).Pairwise (· < ·) := by
  unfold insId
  rw [List.pairwise_append]
  refine ⟨h.sublist List.filter_sublist, List.pairwise_cons.2 ⟨fun n hn => by simpa using (List.mem_filter.1 hn).2, h.sublist List.filter_sublist⟩, fun a ha b hb => ?_⟩
  have h1 : a < id := by simpa using (List.mem_filter.1 ha).2
  rcases List.mem_cons.1 hb with e | e
  · rw [e]; exact h1
  · have h2 : id < b := by simpa using (List.mem_filter.1 e).2
    omega
theorem filter_parts {ids : List Int} {id : Int} (hid : id ∉ ids) (h : ids.Pairwise (· < ·)) : ids.filter (fun n => decide (n < id)) ++ ids.filter (fun n => decide (id < n)) = ids := by
  induction ids with
  | nil => rfl
  | cons a r ih =>
    rw [List.pairwise_cons] at h
    have hne : a ≠ id := fun e => hid (by rw [e]; exact List.mem_cons_self)
    have hr : id ∉ r := fun e => hid (List.mem_cons_of_mem _ e)
    by_cases ha : a < id
    · have : ¬ id < a := by omega
      simp [ha, this, ih hr h.2]
    · have ha2 : id < a := by omega
      have : r.filter (fun n => decide (n < id)) = [] := List.filter_eq_nil_iff.2 fun n hn => by have := h.1 n hn; simp; omega
      have h3 : r.filter (fun n => decide (id < n)) = r := List.filter_eq_self.2 fun n hn => by have := h.1 n hn; simp; omega
      simp [ha, ha2, this, h3]
theorem insId_len {ids : List Int} {id : Int} (hid : id ∉ ids) (h : ids.Pairwise (· < ·)) : (insId ids id).length = ids.length + 1 := by
  have := congrArg List.length (filter_parts hid h)
  rw [List.length_append] at this
  unfold insId
  rw [List.length_append, List.length_cons]
  omega
theorem remove_insId {ids : List Int} {id : Int} (hid : id ∉ ids) (h : ids.Pairwise (· < ·)) : (insId ids id).filter (fun n => !(n == id)) = ids := by
  conv => rhs; rw [← filter_parts hid h]
  unfold insId
  rw [List.filter_append, List.filter_cons, List.filter_filter, List.filter_filter]
  simp only [beq_self_eq_true, Bool.not_true, Bool.false_eq_true, if_false]
  congr 1
  · exact List.filter_congr fun n _ => by by_cases e : n < id <;> simp [e]; omega
  · exact List.filter_congr fun n _ => by by_cases e : id < n <;> simp [e]; omega
theorem sorted_ext {a b : List Int} (ha : a.Pairwise (· < ·)) (hb : b.Pairwise (· < ·)) (h : ∀ n, n ∈ a ↔ n ∈ b) : a = b := by
  refine List.Perm.eq_of_pairwise (le := fun x y => x < y) (fun x y _ _ h1 h2 => by omega) ha hb ?_
  exact (List.perm_ext_iff_of_nodup (ha.imp fun h => by omega) (hb.imp fun h => by omega)).2 h
theorem insId_comm {ids : List Int} {a b : Int} (h : ids.Pairwise (· < ·)) : insId (insId ids a) b = insId (insId ids b) a := by
  refine sorted_ext (insId_sorted (insId_sorted h)) (insId_sorted (insId_sorted h)) fun n => ?_
  simp only [mem_insId]
  constructor <;> rintro (h | h | h) <;> simp [h]
theorem eraseIdx_filter {ids : List Int} (h : ids.Pairwise (· < ·)) {k : Nat} (hk : k < ids.length) : ids.eraseIdx k = ids.filter fun n => !(n == ids[k]) := by
  have hp := List.pairwise_iff_getElem.1 h
  refine sorted_ext (h.sublist (List.eraseIdx_sublist _ _)) (h.sublist List.filter_sublist) fun n => ?_
  rw [List.mem_eraseIdx_iff_getElem, List.mem_filter]
  constructor
  · rintro ⟨i, hi, hik, rfl⟩
    refine ⟨List.getElem_mem _, ?_⟩
    rcases Nat.lt_or_gt_of_ne hik with e | e
    · have := hp i k hi hk e; simp; omega
    · have := hp k i hk hi e; simp; omega
  · rintro ⟨h1, h2⟩
    obtain ⟨i, hi, rfl⟩ := List.mem_iff_getElem.1 h1
    exact ⟨i, hi, fun e => by subst e; simp at h2, rfl⟩
/-! ### members and contents -/
theorem cont_mem {ts : List Term} (h : Wf ts) {t : Term} (ht : t ∈ ts) {p : Post} (hp : p ∈ t.2) : cont ts t.1 p.1 = p.2 := by
  unfold cont
  rw [Al.look_of_mem tot_str h.srt (show (t.1, t.2) ∈ ts from ht)]
  show (Al.look t.2 p.1).getD [] = _
  rw [Al.look_of_mem totI (h.post t ht).2.1 (show (p.1, p.2) ∈ t.2 from hp)]
  rfl
theorem mem_cont {ts : List Term} {w : Str} {i : Int} (h : cont ts w i ≠ []) : ∃ t ∈ ts, t.1 = w ∧ ∃ p ∈ t.2, p.1 = i ∧ p.2 = cont ts w i := by
  unfold cont at h ⊢
  cases hw : Al.look ts w with
  | none => rw [hw] at h; exact absurd rfl h
  | some ps =>
    rw [hw] at h
    simp only [Option.bind_some] at h ⊢
    cases hq : Al.look ps i with
    | none => rw [hq] at h; exact absurd rfl h
    | some q => exact ⟨_, Al.look_mem hw, rfl, _, Al.look_mem hq, rfl, rfl⟩
theorem occ_range (w : Str) : ∀ (s : List Str) (n : Nat), (occ w s n).Pairwise (· < ·) ∧ ∀ m ∈ occ w s n, (n : Int) ≤ m ∧ m < n + s.length
  | [], n => by simp [occ]
  | a :: s, n => by
    have ih := occ_range w s (n + 1)
    rw [occ]
    split
    · refine ⟨List.pairwise_cons.2 ⟨fun m hm => by have := (ih.2 m hm).1; omega, ih.1⟩, fun m hm => ?_⟩
      rcases List.mem_cons.1 hm with e | e
      · simp; omega
      · have := ih.2 m e; simp; omega
    · exact ⟨ih.1, fun m hm => by have := ih.2 m hm; simp; omega⟩
theorem occ_nil (w : Str) : ∀ (s : List Str) (n : Nat), occ w s n = [] ↔ w ∉ s
  | [], n => by simp [occ]
  | a :: s, n => by
    rw [occ]
    split
    · rename_i e; simp [e]
    · rename_i e
      rw [occ_nil w s (n + 1), List.mem_cons]
      simp only [not_or]
      exact ⟨fun h => ⟨fun e' => e e'.symm, h⟩, fun h => h.2⟩
theorem strange {x : Idx} (h : Canon x) {id : Int} (hid : id ∉ x.1) (w : Str) : cont x.2 w id = [] := by
  cases hc : cont x.2 w id with
  | nil => rfl
  | cons a r =>
    obtain ⟨t, ht, _, p, hp, e, _⟩ := mem_cont (ts := x.2) (w := w) (i := id) (by rw [hc]; simp)
    exact absurd (e ▸ ((h.post t ht).2.2 p hp).1) hid
theorem canon_add {x : Idx} (h : Canon x) {id : Int} {s : List Str} (h1 : 1 ≤ id ∧ id ≤ 1000000) (hid : id ∉ x.1) (hn : x.1.length < 300) (hs : ∀ w ∈ s, w ≠ [] ∧ w.length ≤ 8000) (hsl : s.length ≤ 1000000) (hm : (putAll id s 0 x.2).length ≤ 1000000) : Canon (addF x id s) := by
  have hwf := h.wf
  have hw' := Wf.putAll id s 0 hwf
  have hc := cont_putAll id s 0 hwf
  have key : ∀ t ∈ putAll id s 0 x.2, ∀ p ∈ t.2, (t.1 ≠ [] ∧ t.1.length ≤ 8000) ∧ p.1 ∈ insId x.1 id ∧ p.2.Pairwise (· < ·) ∧ ∀ n ∈ p.2, 0 ≤ n ∧ n ≤ 1000000 := by
    intro t ht p hp
    have e := cont_mem hw' ht hp
    have hne := (hw'.post t ht).2.2 p hp
    rw [hc] at e
    split at e
    · rename_i hi
      rw [strange h hid, List.nil_append] at e
      rw [← e] at hne ⊢
      have hmem : t.1 ∈ s := Classical.byContradiction fun hno => hne ((occ_nil _ _ _).2 hno)
      have ho := occ_range t.1 s 0
      exact ⟨hs _ hmem, mem_insId.2 (.inl hi), ho.1, fun n hn => by have := ho.2 n hn; omega⟩
    · rename_i hi
      rw [← e] at hne
      obtain ⟨t', ht', e1, p', hp', e2, e3⟩ := mem_cont hne
      have h2 := (h.post t' ht').2.2 p' hp'
      rw [e3, e] at h2
      exact ⟨by rw [← e1]; exact h.word t' ht', mem_insId.2 (.inr (e2 ▸ h2.1)), h2.2.2⟩
  refine ⟨by show (insId x.1 id).length ≤ 300; rw [insId_len hid h.ids]; omega, insId_sorted h.ids, fun n hn => ?_, hm, hw'.srt, fun t ht => ?_, fun t ht => ?_⟩
  · rcases mem_insId.1 hn with e | e
    · rw [e]; exact h1
    · exact h.idr n e
  · obtain ⟨hne, _, _⟩ := hw'.post t ht
    obtain ⟨p, r, e⟩ : ∃ p r, t.2 = p :: r := by cases h : t.2 with | nil => exact absurd h hne | cons p r => exact ⟨p, r, rfl⟩
    exact (key t ht p (by rw [e]; exact List.mem_cons_self)).1
  · obtain ⟨hne, hsr, hno⟩ := hw'.post t ht
    exact ⟨hne, hsr, fun p hp => ⟨(key t ht p hp).2.1, hno p hp, (key t ht p hp).2.2⟩⟩
theorem len_filter_lt {ids : List Int} (p : Int → Bool) : (ids.filter p).length ≤ ids.length := List.length_filter_le _ _
theorem canon_remove {x : Idx} (h : Canon x) (id : Int) : Canon (removeF x id) := by
  have hw' := h.wf.remove id
  have hc := cont_remove h.wf id
  have key : ∀ t ∈ removeT id x.2, ∀ p ∈ t.2, (t.1 ≠ [] ∧ t.1.length ≤ 8000) ∧ p.1 ∈ x.1.filter (fun n => !(n == id)) ∧ p.2.Pairwise (· < ·) ∧ ∀ n ∈ p.2, 0 ≤ n ∧ n ≤ 1000000 := by
    intro t ht p hp
    have e := cont_mem hw' ht hp
    have hne := (hw'.post t ht).2.2 p hp
    rw [hc] at e
    split at e
    · exact absurd e.symm hne
    · rename_i hi
      rw [← e] at hne
      obtain ⟨t', ht', e1, p', hp', e2, e3⟩ := mem_cont hne
      have h2 := (h.post t' ht').2.2 p' hp'
      rw [e3, e] at h2
      refine ⟨by rw [← e1]; exact h.word t' ht', List.mem_filter.2 ⟨e2 ▸ h2.1, by simpa using hi⟩, h2.2.2⟩
  refine ⟨?_, h.ids.sublist List.filter_sublist, fun n hn => h.idr n (List.mem_filter.1 hn).1, ?_, hw'.srt, fun t ht => ?_, fun t ht => ?_⟩
  · have := h.few
    have := List.length_filter_le (fun n => !(n == id)) x.1
    show (x.1.filter _).length ≤ 300
    omega
  · have := h.many
    have h2 : (removeT id x.2).length ≤ x.2.length := by
      unfold removeT
      refine Nat.le_trans (List.length_filter_le _ _) ?_
      rw [List.length_map]
      exact Nat.le_refl _
    show (removeT id x.2).length ≤ 1000000
    omega
  · obtain ⟨hne, _, _⟩ := hw'.post t ht
    obtain ⟨p, r, e⟩ : ∃ p r, t.2 = p :: r := by cases h : t.2 with | nil => exact absurd h hne | cons p r => exact ⟨p, r, rfl⟩
    exact (key t ht p (by rw [e]; exact List.mem_cons_self)).1
  · obtain ⟨hne, hsr, hno⟩ := hw'.post t ht
    exact ⟨hne, hsr, fun p hp => ⟨(key t ht p hp).2.1, hno p hp, (key t ht p hp).2.2⟩⟩
/-! ### the laws -/
theorem remove_add {x : Idx} (h : Canon x) {id : Int} (hid : id ∉ x.1) (s : List Str) : removeF (addF x id s) id = x := by
  unfold removeF addF
  rw [remove_insId hid h.ids, remove_put h.wf id s (strange h hid)]
theorem add_comm {x : Idx} (h : Canon x) {a b : Int} (s t : List Str) (hab : a ≠ b) : addF (addF x a s) b t = addF (addF x b t) a s := by
  unfold addF
  simp only
  rw [insId_comm h.ids, put_comm h.wf a b s t hab]
/-! ### how many terms there are -/
theorem upd_len {f : Option (List Post) → List Post} {w : Str} : ∀ {ts : List Term}, Al.Sorted ltS ts → (Al.upd ltS f w ts).length = ts.length + if Al.look ts w = none then 1 else 0
  | [], _ => by simp [Al.upd, Al.look]
  | t :: ts, h => by
    have h0 := h
    unfold Al.Sorted at h
    rw [List.pairwise_cons] at h
    rw [Al.upd]
    split
    · rename_i hlt
      have hne : ¬ t.1 = w := tot_str.ne hlt
      rw [List.length_cons, upd_len h.2, Al.look, if_neg hne, List.length_cons]
      omega
    · rename_i hlt
      split
      · rename_i e
        rw [Al.look, if_pos e]
        simp
      · rename_i e
        have hgt : ltS w t.1 = true := by
          cases hh : ltS w t.1 with
          | true => rfl
          | false => exact absurd (tot_str.total _ _ (by simpa using hlt) hh) e
        have hn : Al.look (t :: ts) w = none := Al.look_none fun q hq e2 => by
          rcases List.mem_cons.1 hq with e3 | e3
          · subst e3; exact e e2
          · exact tot_str.ne (tot_str.trans _ _ _ hgt (h.1 _ e3)) e2.symm
        rw [hn]
        simp
/-- how many words are new -/
def fresh (ts : List Term) : List Str → List Str → Nat
  | _, [] => 0
  | seen, w :: s => (if Al.look ts w = none ∧ w ∉ seen then 1 else 0) + fresh ts (seen ++ [w]) s
theorem look_putT {id place : Int} {ts : List Term} (h : Wf ts) (w w' : Str) : Al.look (putT id place w ts) w' = none ↔ Al.look ts w' = none ∧ w' ≠ w := by
  unfold putT
  rw [Al.look_upd tot_str h.srt]
  by_cases e : w' = w
  · simp [e]
  · simp [e]
theorem putAll_len (id : Int) (ts0 : List Term) : ∀ (s : List Str) (n : Nat) (seen : List Str) {ts : List Term}, Wf ts → (∀ w, Al.look ts w = none ↔ Al.look ts0 w = none ∧ w ∉ seen) → (putAll id s n ts).length = ts.length + fresh ts0 seen s
  | [], n, seen, ts, _, _ => rfl
  | w :: s, n, seen, ts, h, hl => by
    rw [putAll, putAll_len id ts0 s (n + 1) (seen ++ [w]) (h.put id n w) fun w' => by
      rw [look_putT h, hl w', List.mem_append, List.mem_singleton]
      constructor
      · rintro ⟨⟨a, b⟩, c⟩; exact ⟨a, fun e => e.elim b c⟩
      · rintro ⟨a, b⟩; exact ⟨⟨a, fun e => b (.inl e)⟩, fun e => b (.inr e)⟩]
    rw [show (putT id n w ts).length = _ from upd_len h.srt, fresh]
    by_cases e : Al.look ts w = none
    · rw [if_pos e, if_pos ((hl w).1 e)]; omega
    · rw [if_neg e, if_neg fun e' => e ((hl w).2 e')]; omega
theorem fresh_le (ts : List Term) : ∀ (s seen : List Str), fresh ts seen s ≤ s.length
  | [], _ => Nat.le_refl _
  | w :: s, seen => by
    have := fresh_le ts s (seen ++ [w])
    rw [fresh, List.length_cons]
    split <;> omega
end Ix
end Go.Proofs.YtngdfjlodblagaaDoor
/-
  slices.Clone on terms, postings, ints.
-/
namespace Go.Proofs.YtngdfjlodblagaaDoor
open Go.RowKit
set_option linter.unusedVariables false
theorem cloneTerm_ok (M : Nat → Prop) (v : Value) (l : List _) (w : World) (h : SlR rtC M w v l) (hn : l.length ≤ 1000001) : Calls Tryd.prog 34 #[v] w fun e w' =>
    ∃ v', e = .returned v' ∧ Own rtC M w' w.heap.size 58 v' l ∧ Below w.heap.size w w' := by
  obtain ⟨A, c, rfl, _, _⟩ := h.form
  have hnil := fun w => Lib.run_eql_slice_nil (P := Tryd.prog) w 23 58 A l.length c 0 0 Tryd.underlying23
  rcases A with _ | ad
  · go_enter Tryd.func34, Tryd.ntmps34
    go_wp2
    go_ret
    obtain rfl : l = [] := List.eq_nil_of_length_eq_zero (Nat.eq_zero_of_not_pos fun h0 => by obtain ⟨_, _, _, h', _⟩ := h.at_ h0; cases h')
    exact ⟨_, rfl, Own.nil _ _ _ _ _, Below.refl _ _⟩
  · go_enter Tryd.func34, Tryd.ntmps34
    go_wp2_with (at_builtin; refine wpList_append_Own rtC (M := M) (B := w.heap.size) (l := []) (l' := l) TTerms rfl (.tmp 5) (.tmp 6) rfl rfl (Own.built (cs := []) _ (Els.nil _ _ _) (Nat.le_refl _) (Nat.zero_le _)) rfl ?_ ?_ ?_ ?_ ?_)
    case refine_1 =>
      refine (h.sub fun b hb hor => ?_).ext ((Below.refl _ _).alloc (Nat.le_refl _) _)
      rcases hor with h' | h'
      · exact h'
      · have h2 : w.heap.size = b := by simpa [Act.eval, Value.ownBlock] using h'
        omega
    case refine_2 => simp [maxLen]; omega
    case refine_3 => simp; omega
    case refine_4 => simp
    case refine_5 =>
      intro A' c' L w' hL hown _ hg hor
      obtain rfl : L = l := by simpa using hL.out
      go_wp2
      go_ret
      refine ⟨_, rfl, hown, ((Below.refl _ _).alloc (Nat.le_refl _) _).grown hg (by simp) fun k hk => ?_⟩
      simp [Value.ownBlock] at hk; omega
theorem clonePost_ok (M : Nat → Prop) (v : Value) (l : List _) (w : World) (h : SlR rpC M w v l) (hn : l.length ≤ 1000001) : Calls Tryd.prog 53 #[v] w fun e w' =>
    ∃ v', e = .returned v' ∧ Own rpC M w' w.heap.size 41 v' l ∧ Below w.heap.size w w' := by
  obtain ⟨A, c, rfl, _, _⟩ := h.form
  have hnil := fun w => Lib.run_eql_slice_nil (P := Tryd.prog) w 35 41 A l.length c 0 0 Tryd.underlying35
  rcases A with _ | ad
  · go_enter Tryd.func53, Tryd.ntmps53
    go_wp2
    go_ret
    obtain rfl : l = [] := List.eq_nil_of_length_eq_zero (Nat.eq_zero_of_not_pos fun h0 => by obtain ⟨_, _, _, h', _⟩ := h.at_ h0; cases h')
    exact ⟨_, rfl, Own.nil _ _ _ _ _, Below.refl _ _⟩
  · go_enter Tryd.func53, Tryd.ntmps53
    go_wp2_with (at_builtin; refine wpList_append_Own rpC (M := M) (B := w.heap.size) (l := []) (l' := l) TPosts rfl (.tmp 5) (.tmp 6) rfl rfl (Own.built (cs := []) _ (Els.nil _ _ _) (Nat.le_refl _) (Nat.zero_le _)) rfl ?_ ?_ ?_ ?_ ?_)
    case refine_1 =>
      refine (h.sub fun b hb hor => ?_).ext ((Below.refl _ _).alloc (Nat.le_refl _) _)
      rcases hor with h' | h'
      · exact h'
      · have h2 : w.heap.size = b := by simpa [Act.eval, Value.ownBlock] using h'
        omega
    case refine_2 => simp [maxLen]; omega
    case refine_3 => simp; omega
    case refine_4 => simp
    case refine_5 =>
      intro A' c' L w' hL hown _ hg hor
      obtain rfl : L = l := by simpa using hL.out
      go_wp2
      go_ret
      refine ⟨_, rfl, hown, ((Below.refl _ _).alloc (Nat.le_refl _) _).grown hg (by simp) fun k hk => ?_⟩
      simp [Value.ownBlock] at hk; omega
theorem cloneInt_ok (M : Nat → Prop) (v : Value) (l : List _) (w : World) (h : SlR intC M w v l) (hn : l.length ≤ 1000001) : Calls Tryd.prog 33 #[v] w fun e w' =>
    ∃ v', e = .returned v' ∧ Own intC M w' w.heap.size 3 v' l ∧ Below w.heap.size w w' := by
  obtain ⟨A, c, rfl, _, _⟩ := h.form
  have hnil := fun w => Lib.run_eql_slice_nil (P := Tryd.prog) w 22 3 A l.length c 0 0 Tryd.underlying22
  rcases A with _ | ad
  · go_enter Tryd.func33, Tryd.ntmps33
    go_wp2
    go_ret
    obtain rfl : l = [] := List.eq_nil_of_length_eq_zero (Nat.eq_zero_of_not_pos fun h0 => by obtain ⟨_, _, _, h', _⟩ := h.at_ h0; cases h')
    exact ⟨_, rfl, Own.nil _ _ _ _ _, Below.refl _ _⟩
  · go_enter Tryd.func33, Tryd.ntmps33
    go_wp2_with (at_builtin; refine wpList_append_Own intC (M := M) (B := w.heap.size) (l := []) (l' := l) TInts rfl (.tmp 5) (.tmp 6) rfl rfl (Own.built (cs := []) _ (Els.nil _ _ _) (Nat.le_refl _) (Nat.zero_le _)) rfl ?_ ?_ ?_ ?_ ?_)
    case refine_1 =>
      refine (h.sub fun b hb hor => ?_).ext ((Below.refl _ _).alloc (Nat.le_refl _) _)
      rcases hor with h' | h'
      · exact h'
      · have h2 : w.heap.size = b := by simpa [Act.eval, Value.ownBlock] using h'
        omega
    case refine_2 => simp [maxLen]; omega
    case refine_3 => simp; omega
    case refine_4 => simp
    case refine_5 =>
      intro A' c' L w' hL hown _ hg hor
      obtain rfl : L = l := by simpa using hL.out
      go_wp2
      go_ret
      refine ⟨_, rfl, hown, ((Below.refl _ _).alloc (Nat.le_refl _) _).grown hg (by simp) fun k hk => ?_⟩
      simp [Value.ownBlock] at hk; omega
end Go.Proofs.YtngdfjlodblagaaDoor
/-
  strings.Compare.
-/
namespace Go.Proofs.YtngdfjlodblagaaDoor
open Go.RowKit

set_option maxRecDepth 20000 in
theorem compareString_ok (a b : Str) (w : World) : Calls Tryd.prog 71 #[.string (bs a), .string (bs b)] w fun e w' => e = .returned (.int .i64 (Lib.compareBytes a b)) ∧ w = w' := by
  go_enter Tryd.func71, Tryd.ntmps71
  go_wp2
  rw [run_callFunc_extern Tryd.func83 (by kernel_rfl) (by kernel_rfl) (by kernel_rfl) (e := Extern.BytealgCompare.compare) (by kernel_rfl), Lib.run_compareString]
  simp only [Result.andThen]
  rw [Oper.upon_value]
  go_wp2
  go_ret
  exact ⟨by simp, rfl⟩
theorem compare_ok (a b : Str) (w : World) : Calls Tryd.prog 57 #[.string (bs a), .string (bs b)] w fun e w' => e = .returned (.int .i64 (Lib.compareBytes a b)) ∧ w = w' := by
  have hp := compareString_ok a b w
  have Hp := Lib.hid hp
  clear hp
  go_enter Tryd.func57, Tryd.ntmps57
  go_wp2_with fail
  refine Hp.out.mono ?_
  rintro e w1 ⟨rfl, rfl⟩
  go_wp2
  go_ret
  exact ⟨rfl, rfl⟩
end Go.Proofs.YtngdfjlodblagaaDoor

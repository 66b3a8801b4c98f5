/-
  Contracts and plain facts, one after another: The law's terms: how many terms an index has with a text more; IndexMatchesSpec: the faults that the law requires, and the postings of a word; plain; Two faults compared.
-/
import Derived.Test.YtfjpedgddgbelaaGreatDoorIxRf
import Derived.Test.YtfjpedgddgbelaaGreatDoorG28
import Derived.Test.YtfjpedgddgbelaaGreatDoorG10
import Derived.Test.YtfjpedgddgbelaaGreatDoorG26
import Derived.Test.YtfjpedgddgbelaaGreatDoorG25
import Derived.Test.YtfjpedgddgbelaaGreatDoorG2
namespace Go.Proofs.YtfjpedgddgbelaaGreatDoor
open Go.RowKit
set_option linter.unusedVariables false
set_option maxRecDepth 100000 in
set_option maxHeartbeats 4000000 in
theorem terms_ok (a b : Value) (ids : List Int) (ts : List Ix.Term) (text : Str) (w : World) (h0 : SlR intC M0 w a ids) (h1 : SlR termC M0 w b ts) (hn : ts.length ≤ 1000000) (htx : text.length ≤ 4000) (hT : TabsU w) :
    Calls Tryz.prog 24 #[.agg #[a, b], .string (bs text)] w fun e w' => e = .returned (.int .i64 (Ix.termsF (ids, ts) (Sm.stems text) : Nat)) ∧ Below w.heap.size w w' := by
  obtain ⟨A0, c0, rfl, _, _⟩ := h0.form
  obtain ⟨A1, c1, rfl, _, _⟩ := h1.form
  obtain ⟨w1, gx, hW, hgx, hs1, kx, hal⟩ := box1 w #[.slice A0 ids.length c0, .slice A1 ts.length c1] 25
  have H01 := Lib.hid (And.intro h0 (And.intro h1 hT)); have HW := Lib.hid (And.intro hW (And.intro hgx hs1))
  obtain ⟨q0, q1, _, _, _⟩ := kx.two
  rw [← hW, ← hgx] at q0 q1
  have Hkx := Lib.hid kx; have Hal := Lib.hid hal
  have hst := refStems_ok text (by omega) w1 (hT.ext hal)
  have Hst := Lib.hid hst
  clear h0 h1 hW hgx hs1 kx hal hT hst
  unfold Ix.termsF
  dsimp only
  go_enter Tryz.func24, Tryz.ntmps24
  go_wp2_with fail
  rw [HW.out.1, HW.out.2.1]
  refine Hst.out.mono ?_
  rintro e w2 ⟨As, cs, S, rfl, hS9, ownS, hb2⟩
  have hSl : S.length ≤ 4000 := by rw [hS9.out]; exact Nat.le_trans (stems_count text) htx
  have Hs := Lib.hid (And.intro (Hkx.out.ext hb2) (And.intro (Hal.out.trans (hb2.mono Hal.out.size)) ownS.read0))
  clear q0 q1 ownS hb2 Hst
  go_wp2
  go_loopw [5, 7] (fun nv iv wr => ∃ (i n : Nat), i ≤ S.length ∧ nv = .int .i64 (n : Int) ∧ iv = .int .i64 (i : Int) ∧ Hid (Ix.termsGo (ids, ts) S S.length 0 ts.length = Ix.termsGo (ids, ts) S (S.length - i) i n) ∧ n ≤ 1000000 + i ∧ Hid (Below w2.heap.size w2 wr)) (fun _ iv _ => S.length - (intOf iv).toNat)
  case atStart => exact ⟨0, ts.length, Nat.zero_le _, rfl, rfl, Lib.hid rfl, by omega, Lib.hid (Below.refl _ _)⟩
  case round =>
    obtain ⟨wo, rfl⟩ : ∃ W0, W0 = wr := ⟨_, rfl⟩
    obtain ⟨i, n, hi, rfl, rfl, hgo, hnb, hb⟩ := hrel
    have kx := Hs.out.1.ext hb.out
    have hbw := Hs.out.2.1.trans (hb.out.mono Hs.out.2.1.size)
    by_cases hlt : i < S.length
    · by_cases hn9 : 990000 < n
      · skip
        obtain ⟨bS, offS, hAS, _, _, s0, hsl⟩ := (Hs.out.2.2.ext hb.out).strAt hlt
        subst hAS
        have hstep : Ix.termsGo (ids, ts) S (S.length - i) i n = Ix.termsGo (ids, ts) S (S.length - (i + 1)) (i + 1) (if (Ix.postingsF (ids, ts) S[i]).length = 0 ∧ S[i] ∉ S.take i then n + 1 else n) := by
          obtain ⟨m, hm⟩ : ∃ m, S.length - i = m + 1 := ⟨S.length - i - 1, by omega⟩
          rw [hm, Ix.termsGo, if_pos hn9, Ix.getD_get hlt, show S.length - (i + 1) = m by omega]
        rw [← hgo.out] at hstep
        obtain ⟨x, hx⟩ : ∃ y, y = S[i] := ⟨_, rfl⟩
        rw [← hx] at s0 hsl hstep
        have hlp := fun W' (hb' : Below wo.heap.size wo W') => lawPostings_ok M0 (.slice A0 ids.length c0) (.slice A1 ts.length c1) ids ts x W' (H01.out.2.1.ext (hbw.trans (hb'.mono hbw.size)))
        obtain ⟨hcs1, hcs2⟩ := (Hs.out.2.2).lenM
        have hcut := (Hs.out.2.2.ext hb.out).cutS (lo := 0) (hi := i) (Nat.zero_le _) (by omega) (by omega)
        rw [Nat.zero_mul, Nat.add_zero, Nat.sub_zero, Nat.sub_zero, List.drop_zero] at hcut
        obtain ⟨pl, hpl⟩ : ∃ l, Ix.postingsF (ids, ts) x = l := ⟨_, rfl⟩
        rw [hpl] at hlp hstep
        obtain ⟨x0, x1, _, _, _⟩ := kx.two
        have hSS : ∀ W', Below wo.heap.size wo W' → W'.cell? ⟨gx, 0, none⟩ = some (.slice A0 ids.length c0) ∧ W'.cell? ⟨gx, 1, none⟩ = some (.slice A1 ts.length c1) ∧ W'.cell? ⟨bS, offS + i, none⟩ = some (.string (bs x)) := fun W' hb => ⟨cell_ext hb x0, cell_ext hb x1, cell_ext hb s0⟩
        have HS := Lib.hid hSS; have Hlp := Lib.hid hlp; have Hstep := Lib.hid hstep; have Hcut := Lib.hid hcut; have Hb := Lib.hid hbw
        have hS := HS.out _ (below_drewN' wo.heap.size wo 1)
        have hii : (i : Int) < (S.length : Int) := by omega
        have hi0 : (0 : Int) ≤ (i : Int) := by omega
        have hiw : IntKind.i64.wrap (i : Int) = (i : Int) := IntWalk.i64_in _ (by omega)
        have hnw : IntKind.i64.wrap ((n : Int) + 1) = (n : Int) + 1 := IntWalk.i64_in _ (by omega)
        have hn9' : (990000 : Int) < (n : Int) := by omega
        have hic : i ≤ cs := by omega
        clear hSS hlp hstep hcut hpl hx x0 x1 s0 kx hbw hgo
        by_cases hp0 : pl.length = 0
        · have hlb : ((pl.length : Int) == 0) = true := by simp [hp0]
          have hht := fun W' (hb' : Below wo.heap.size wo W') => hasText_ok M0 _ (S.take i) x W' (((Hcut.out.ext hb')))
          obtain ⟨u, hu⟩ : ∃ u, (S.take i).any (· == x) = u := ⟨_, rfl⟩
          rw [hu] at hht
          have Hht := Lib.hid hht; have Hu := Lib.hid hu; have Hp0 := Lib.hid hp0
          clear hht hu hp0
          go_wp2
          refine wp_region_D (fun W => W.cell? ⟨gx, 0, none⟩ = some (.slice A0 ids.length c0) ∧ W.cell? ⟨gx, 1, none⟩ = some (.slice A1 ts.length c1) ∧ W.cell? ⟨bS, offS + i, none⟩ = some (.string (bs x))) (fun _ => false) (by kernel_rfl) ?_
          change anyD _ _ _ _ _ _ _ _ _ (wo.drewN 1)
          have hbV := below_drewN' wo.heap.size wo 1
          generalize wo.drewN 1 = V0 at hS hbV ⊢
          (refine anyD_light (i := 0) (v := ?_) rfl (by kernel_rfl) (by kernel_rfl) (by kernel_rfl) (by kernel_rfl) (by kernel_rfl) (fun _ _ _ h => h) (.inl ⟨by kernel_rfl, fun W9 hW9 => ?_⟩) hS ?_; rotate_left; · (obtain ⟨hw0, hw1, hw2⟩ := hW9; go_simp; rfl))
          (refine anyD_light (i := 1) (v := ?_) rfl (by kernel_rfl) (by kernel_rfl) (by kernel_rfl) (by kernel_rfl) (by kernel_rfl) (fun _ _ _ h => h) (.inl ⟨by kernel_rfl, fun W9 hW9 => ?_⟩) hS ?_; rotate_left; · (obtain ⟨hw0, hw1, hw2⟩ := hW9; go_simp; rfl))
          (refine anyD_light (i := 2) (v := ?_) rfl (by kernel_rfl) (by kernel_rfl) (by kernel_rfl) (by kernel_rfl) (by kernel_rfl) (fun _ _ _ h => h) (.inl ⟨by kernel_rfl, fun W9 hW9 => ?_⟩) hS ?_; rotate_left; · (obtain ⟨hw0, hw1, hw2⟩ := hW9; go_simp; rfl))
          (refine anyD_light (i := 3) (v := ?_) rfl (by kernel_rfl) (by kernel_rfl) (by kernel_rfl) (by kernel_rfl) (by kernel_rfl) (fun _ _ _ h => h) (.inl ⟨by kernel_rfl, fun W9 hW9 => ?_⟩) hS ?_; rotate_left; · (obtain ⟨hw0, hw1, hw2⟩ := hW9; go_simp; rfl))
          (refine anyD_light (i := 4) (v := ?_) rfl (by kernel_rfl) (by kernel_rfl) (by kernel_rfl) (by kernel_rfl) (by kernel_rfl) (fun _ _ _ h => h) (.inl ⟨by kernel_rfl, fun W9 hW9 => ?_⟩) hS ?_; rotate_left; · (obtain ⟨hw0, hw1, hw2⟩ := hW9; go_simp; rfl))
          go_simp
          refine anyD_one (i := 5) (by kernel_rfl) rfl rfl (fun K hK => ?_)
          have HK := Lib.hid hK
          clear hK
          unfold Oper.wp
          go_simp
          refine ((Hlp.out V0 hbV)).mono ?_
          rintro e w4 ⟨v4, rfl, hrd4, hb4⟩
          obtain ⟨A4, c4, rfl, _, _⟩ := hrd4.form
          have hb14 := hbV.trans (hb4.mono hbV.size)
          clear hS hb4 hrd4
          have hS := HS.out _ hb14
          refine HK.out _ _ (fun _ => hS) ?_
          clear HK
          (refine anyD_light (i := 6) (v := ?_) rfl (by kernel_rfl) (by kernel_rfl) (by kernel_rfl) (by kernel_rfl) (by kernel_rfl) (fun _ _ _ h => h) (.inl ⟨by kernel_rfl, fun W9 hW9 => ?_⟩) hS ?_; rotate_left; · (obtain ⟨hw0, hw1, hw2⟩ := hW9; go_simp; rfl))
          (refine anyD_light (i := 7) (v := ?_) rfl (by kernel_rfl) (by kernel_rfl) (by kernel_rfl) (by kernel_rfl) (by kernel_rfl) (fun _ _ _ h => h) (.inl ⟨by kernel_rfl, fun W9 hW9 => ?_⟩) hS ?_; rotate_left; · (obtain ⟨hw0, hw1, hw2⟩ := hW9; go_simp; rfl))
          (refine anyD_light (i := 8) (v := ?_) rfl (by kernel_rfl) (by kernel_rfl) (by kernel_rfl) (by kernel_rfl) (by kernel_rfl) (fun _ _ _ h => h) (.inl ⟨by kernel_rfl, fun W9 hW9 => ?_⟩) hS ?_; rotate_left; · (obtain ⟨hw0, hw1, hw2⟩ := hW9; go_simp; rfl))
          (refine anyD_light (i := 9) (v := ?_) rfl (by kernel_rfl) (by kernel_rfl) (by kernel_rfl) (by kernel_rfl) (by kernel_rfl) (fun _ _ _ h => h) (.inl ⟨by kernel_rfl, fun W9 hW9 => ?_⟩) hS ?_; rotate_left; · (obtain ⟨hw0, hw1, hw2⟩ := hW9; go_simp; rfl))
          (refine anyD_light (i := 10) (v := ?_) rfl (by kernel_rfl) (by kernel_rfl) (by kernel_rfl) (by kernel_rfl) (by kernel_rfl) (fun _ _ _ h => h) (.inl ⟨by kernel_rfl, fun W9 hW9 => ?_⟩) hS ?_; rotate_left; · (obtain ⟨hw0, hw1, hw2⟩ := hW9; go_simp; rfl))
          (refine anyD_light (i := 11) (v := ?_) rfl (by kernel_rfl) (by kernel_rfl) (by kernel_rfl) (by kernel_rfl) (by kernel_rfl) (fun _ _ _ h => h) (.inl ⟨by kernel_rfl, fun W9 hW9 => ?_⟩) hS ?_; rotate_left; · (obtain ⟨hw0, hw1, hw2⟩ := hW9; go_simp; rfl))
          go_simp
          (refine anyD_light (i := 12) (v := ?_) rfl (by kernel_rfl) (by kernel_rfl) (by kernel_rfl) (by kernel_rfl) (by kernel_rfl) (fun _ _ _ h => h) (.inl ⟨by kernel_rfl, fun W9 hW9 => ?_⟩) hS ?_; rotate_left; · (obtain ⟨hw0, hw1, hw2⟩ := hW9; go_simp; rfl))
          (refine anyD_light (i := 13) (v := ?_) rfl (by kernel_rfl) (by kernel_rfl) (by kernel_rfl) (by kernel_rfl) (by kernel_rfl) (fun _ _ _ h => h) (.inl ⟨by kernel_rfl, fun W9 hW9 => ?_⟩) hS ?_; rotate_left; · (obtain ⟨hw0, hw1, hw2⟩ := hW9; go_simp; rfl))
          (refine anyD_light (i := 14) (v := ?_) rfl (by kernel_rfl) (by kernel_rfl) (by kernel_rfl) (by kernel_rfl) (by kernel_rfl) (fun _ _ _ h => h) (.inl ⟨by kernel_rfl, fun W9 hW9 => ?_⟩) hS ?_; rotate_left; · (obtain ⟨hw0, hw1, hw2⟩ := hW9; go_simp; rfl))
          (refine anyD_light (i := 15) (v := ?_) rfl (by kernel_rfl) (by kernel_rfl) (by kernel_rfl) (by kernel_rfl) (by kernel_rfl) (fun _ _ _ h => h) (.inl ⟨by kernel_rfl, fun W9 hW9 => ?_⟩) hS ?_; rotate_left; · (obtain ⟨hw0, hw1, hw2⟩ := hW9; go_simp; rfl))
          go_simp
          refine anyD_oneG (i := 16) (by kernel_rfl) rfl rfl (fun K hK => ?_)
          have HK := Lib.hid hK
          clear hK
          unfold Oper.wp
          go_simp
          refine ((Hht.out w4 hb14)).mono ?_
          rintro e w5 ⟨rfl, rfl⟩
          have hS := hS
          refine HK.out _ _ (fun _ => hS) ?_
          clear HK
          (refine anyD_light (i := 17) (v := ?_) rfl (by kernel_rfl) (by kernel_rfl) (by kernel_rfl) (by kernel_rfl) (by kernel_rfl) (fun _ _ _ h => h) (.inl ⟨by kernel_rfl, fun W9 hW9 => ?_⟩) hS ?_; rotate_left; · (obtain ⟨hw0, hw1, hw2⟩ := hW9; go_simp; rfl))
          (refine anyD_light (i := 18) (v := ?_) rfl (by kernel_rfl) (by kernel_rfl) (by kernel_rfl) (by kernel_rfl) (by kernel_rfl) (fun _ _ _ h => h) (.inl ⟨by kernel_rfl, fun W9 hW9 => ?_⟩) hS ?_; rotate_left; · (obtain ⟨hw0, hw1, hw2⟩ := hW9; go_simp; rfl))
          go_simp
          refine anyD_done (by kernel_rfl) ?_ _
          have Hfin := Lib.hid (hb.out.trans (hb14.mono hb.out.size))
          clear hb14 hS
          cases u with
          | true =>
            have hnx := Hstep.out
            rw [if_neg (fun h => h.2 (by obtain ⟨y, hy, e⟩ := List.any_eq_true.1 Hu.out; rw [beq_iff_eq] at e; exact e ▸ hy))] at hnx
            have Hnx := Lib.hid hnx
            clear hnx
            go_wp2
            go_roundw
            case rel => exact ⟨i + 1, n, by omega, rfl, by go_num, Hnx, by omega, Hfin⟩
            case measure => simp [intOf]; omega
          | false =>
            have hnx := Hstep.out
            rw [if_pos ⟨Hp0.out, fun hm => by have h9 : (S.take i).any (· == x) = true := List.any_eq_true.2 ⟨x, hm, beq_self_eq_true x⟩; rw [Hu.out] at h9; cases h9⟩] at hnx
            have Hnx := Lib.hid hnx
            clear hnx
            go_wp2
            go_roundw
            case rel => exact ⟨i + 1, n + 1, by omega, by go_num, by go_num, Hnx, by omega, Hfin⟩
            case measure => simp [intOf]; omega
        · have hlb : ((pl.length : Int) == 0) = false := by
            have h9 : ¬ (pl.length : Int) = 0 := by omega
            simpa using h9
          have hnx := Hstep.out
          rw [if_neg (fun h => hp0 h.1)] at hnx
          have Hnx := Lib.hid hnx
          clear hnx Hcut
          go_wp2
          refine wp_region_D (fun W => W.cell? ⟨gx, 0, none⟩ = some (.slice A0 ids.length c0) ∧ W.cell? ⟨gx, 1, none⟩ = some (.slice A1 ts.length c1) ∧ W.cell? ⟨bS, offS + i, none⟩ = some (.string (bs x))) (fun _ => false) (by kernel_rfl) ?_
          change anyD _ _ _ _ _ _ _ _ _ (wo.drewN 1)
          have hbV := below_drewN' wo.heap.size wo 1
          generalize wo.drewN 1 = V0 at hS hbV ⊢
          (refine anyD_light (i := 0) (v := ?_) rfl (by kernel_rfl) (by kernel_rfl) (by kernel_rfl) (by kernel_rfl) (by kernel_rfl) (fun _ _ _ h => h) (.inl ⟨by kernel_rfl, fun W9 hW9 => ?_⟩) hS ?_; rotate_left; · (obtain ⟨hw0, hw1, hw2⟩ := hW9; go_simp; rfl))
          (refine anyD_light (i := 1) (v := ?_) rfl (by kernel_rfl) (by kernel_rfl) (by kernel_rfl) (by kernel_rfl) (by kernel_rfl) (fun _ _ _ h => h) (.inl ⟨by kernel_rfl, fun W9 hW9 => ?_⟩) hS ?_; rotate_left; · (obtain ⟨hw0, hw1, hw2⟩ := hW9; go_simp; rfl))
          (refine anyD_light (i := 2) (v := ?_) rfl (by kernel_rfl) (by kernel_rfl) (by kernel_rfl) (by kernel_rfl) (by kernel_rfl) (fun _ _ _ h => h) (.inl ⟨by kernel_rfl, fun W9 hW9 => ?_⟩) hS ?_; rotate_left; · (obtain ⟨hw0, hw1, hw2⟩ := hW9; go_simp; rfl))
          (refine anyD_light (i := 3) (v := ?_) rfl (by kernel_rfl) (by kernel_rfl) (by kernel_rfl) (by kernel_rfl) (by kernel_rfl) (fun _ _ _ h => h) (.inl ⟨by kernel_rfl, fun W9 hW9 => ?_⟩) hS ?_; rotate_left; · (obtain ⟨hw0, hw1, hw2⟩ := hW9; go_simp; rfl))
          (refine anyD_light (i := 4) (v := ?_) rfl (by kernel_rfl) (by kernel_rfl) (by kernel_rfl) (by kernel_rfl) (by kernel_rfl) (fun _ _ _ h => h) (.inl ⟨by kernel_rfl, fun W9 hW9 => ?_⟩) hS ?_; rotate_left; · (obtain ⟨hw0, hw1, hw2⟩ := hW9; go_simp; rfl))
          go_simp
          refine anyD_one (i := 5) (by kernel_rfl) rfl rfl (fun K hK => ?_)
          have HK := Lib.hid hK
          clear hK
          unfold Oper.wp
          go_simp
          refine ((Hlp.out V0 hbV)).mono ?_
          rintro e w4 ⟨v4, rfl, hrd4, hb4⟩
          obtain ⟨A4, c4, rfl, _, _⟩ := hrd4.form
          have hb14 := hbV.trans (hb4.mono hbV.size)
          clear hS hb4 hrd4
          have hS := HS.out _ hb14
          refine HK.out _ _ (fun _ => hS) ?_
          clear HK
          (refine anyD_light (i := 6) (v := ?_) rfl (by kernel_rfl) (by kernel_rfl) (by kernel_rfl) (by kernel_rfl) (by kernel_rfl) (fun _ _ _ h => h) (.inl ⟨by kernel_rfl, fun W9 hW9 => ?_⟩) hS ?_; rotate_left; · (obtain ⟨hw0, hw1, hw2⟩ := hW9; go_simp; rfl))
          (refine anyD_light (i := 7) (v := ?_) rfl (by kernel_rfl) (by kernel_rfl) (by kernel_rfl) (by kernel_rfl) (by kernel_rfl) (fun _ _ _ h => h) (.inl ⟨by kernel_rfl, fun W9 hW9 => ?_⟩) hS ?_; rotate_left; · (obtain ⟨hw0, hw1, hw2⟩ := hW9; go_simp; rfl))
          (refine anyD_light (i := 8) (v := ?_) rfl (by kernel_rfl) (by kernel_rfl) (by kernel_rfl) (by kernel_rfl) (by kernel_rfl) (fun _ _ _ h => h) (.inl ⟨by kernel_rfl, fun W9 hW9 => ?_⟩) hS ?_; rotate_left; · (obtain ⟨hw0, hw1, hw2⟩ := hW9; go_simp; rfl))
          (refine anyD_light (i := 9) (v := undef) rfl (by kernel_rfl) (by kernel_rfl) (by kernel_rfl) (by kernel_rfl) (by kernel_rfl) (fun _ _ _ h => h) (.inr ⟨by kernel_rfl, rfl⟩) hS ?_)
          (refine anyD_light (i := 10) (v := undef) rfl (by kernel_rfl) (by kernel_rfl) (by kernel_rfl) (by kernel_rfl) (by kernel_rfl) (fun _ _ _ h => h) (.inr ⟨by kernel_rfl, rfl⟩) hS ?_)
          (refine anyD_light (i := 11) (v := undef) rfl (by kernel_rfl) (by kernel_rfl) (by kernel_rfl) (by kernel_rfl) (by kernel_rfl) (fun _ _ _ h => h) (.inr ⟨by kernel_rfl, rfl⟩) hS ?_)
          go_simp
          (refine anyD_light (i := 12) (v := undef) rfl (by kernel_rfl) (by kernel_rfl) (by kernel_rfl) (by kernel_rfl) (by kernel_rfl) (fun _ _ _ h => h) (.inr ⟨by kernel_rfl, rfl⟩) hS ?_)
          (refine anyD_light (i := 13) (v := undef) rfl (by kernel_rfl) (by kernel_rfl) (by kernel_rfl) (by kernel_rfl) (by kernel_rfl) (fun _ _ _ h => h) (.inr ⟨by kernel_rfl, rfl⟩) hS ?_)
          (refine anyD_light (i := 14) (v := undef) rfl (by kernel_rfl) (by kernel_rfl) (by kernel_rfl) (by kernel_rfl) (by kernel_rfl) (fun _ _ _ h => h) (.inr ⟨by kernel_rfl, rfl⟩) hS ?_)
          (refine anyD_light (i := 15) (v := undef) rfl (by kernel_rfl) (by kernel_rfl) (by kernel_rfl) (by kernel_rfl) (by kernel_rfl) (fun _ _ _ h => h) (.inr ⟨by kernel_rfl, rfl⟩) hS ?_)
          (refine anyD_light (i := 16) (v := undef) rfl (by kernel_rfl) (by kernel_rfl) (by kernel_rfl) (by kernel_rfl) (by kernel_rfl) (fun _ _ _ h => h) (.inr ⟨by kernel_rfl, rfl⟩) hS ?_)
          (refine anyD_light (i := 17) (v := undef) rfl (by kernel_rfl) (by kernel_rfl) (by kernel_rfl) (by kernel_rfl) (by kernel_rfl) (fun _ _ _ h => h) (.inr ⟨by kernel_rfl, rfl⟩) hS ?_)
          go_simp
          (refine anyD_light (i := 18) (v := ?_) rfl (by kernel_rfl) (by kernel_rfl) (by kernel_rfl) (by kernel_rfl) (by kernel_rfl) (fun _ _ _ h => h) (.inl ⟨by kernel_rfl, fun W9 hW9 => ?_⟩) hS ?_; rotate_left; · (obtain ⟨hw0, hw1, hw2⟩ := hW9; go_simp; rfl))
          go_simp
          refine anyD_done (by kernel_rfl) ?_ _
          have Hfin := Lib.hid (hb.out.trans (hb14.mono hb.out.size))
          clear hb14 hS
          go_wp2
          go_roundw
          case rel => exact ⟨i + 1, n, by omega, rfl, by go_num, Hnx, by omega, Hfin⟩
          case measure => simp [intOf]; omega
      · have hn9' : ¬ (990000 : Int) < (n : Int) := by omega
        have hfin : Ix.termsGo (ids, ts) S (S.length - i) i n = n := by
          obtain ⟨m, hm⟩ : ∃ m, S.length - i = m + 1 := ⟨S.length - i - 1, by omega⟩
          rw [hm, Ix.termsGo, if_neg hn9]
        have Hfin := Lib.hid (hgo.out.trans hfin)
        have Hb := Lib.hid hbw
        clear hfin hbw kx
        go_wp2
        go_ret
        exact ⟨ret_int (a := (n : Int)) (by rw [← hS9.out, Hfin.out]), Hb.out⟩
    · obtain rfl : i = S.length := by omega
      have hfin : Ix.termsGo (ids, ts) S (S.length - S.length) S.length n = n := by rw [Nat.sub_self]; rfl
      have Hfin := Lib.hid (hgo.out.trans hfin)
      have Hb := Lib.hid hbw
      clear hfin hbw kx
      go_wp2
      go_ret
      exact ⟨ret_int (a := (n : Int)) (by rw [← hS9.out, Hfin.out]), Hb.out⟩
end Go.Proofs.YtfjpedgddgbelaaGreatDoor
namespace Go.Proofs.YtfjpedgddgbelaaGreatDoor
namespace Ix
set_option linter.unusedVariables false
/-- the faults, as the law's ifs find them -/
def f1F (x : Idx) (id : Int) (t : Str) : Int × Int :=
  if (indexF x).1 ≠ 0 then indexF x
  else if 4000 < t.length then (1, -1)
  else if (decide (1 ≤ id) && decide (id ≤ 1000000)) = false then (3, -3)
  else if x.1.contains id = true then (7, -3)
  else if 300 ≤ x.1.length then (2, -3)
  else if 1000000 < termsF x (Sm.stems t) then (2, -2) else (0, 0)
def f2F (x : Idx) (id : Int) : Int × Int := if (indexF x).1 ≠ 0 then indexF x else if x.1.contains id = false then (6, -3) else (0, 0)
def f3F (x : Idx) (word : Str) : Int × Int := if (indexF x).1 ≠ 0 then indexF x else if 8000 < word.length then (1, -4) else (0, 0)
theorem f1_eq (x : Idx) (id : Int) (t : Str) : (addR x id t).2 = f1F x id t := by
  unfold addR f1F
  by_cases h0 : (indexF x).1 ≠ 0
  · rw [if_pos h0, if_pos h0]
  rw [if_neg h0, if_neg h0]
  have hc := (indexF_zero x).1 (by simpa using h0)
  by_cases h1 : 4000 < t.length
  · rw [if_pos h1, if_pos h1]
  rw [if_neg h1, if_neg h1]
  by_cases h2 : id < 1
  · rw [if_pos h2, if_pos (show (decide (1 ≤ id) && decide (id ≤ 1000000)) = false by rw [decide_eq_false (show ¬ 1 ≤ id by omega)]; rfl)]
  rw [if_neg h2]
  by_cases h3 : 1000000 < id
  · rw [if_pos h3, if_pos (show (decide (1 ≤ id) && decide (id ≤ 1000000)) = false by rw [decide_eq_false (show ¬ id ≤ 1000000 by omega), Bool.and_false])]
  rw [if_neg h3, if_neg (show ¬ (decide (1 ≤ id) && decide (id ≤ 1000000)) = false by rw [decide_eq_true (show 1 ≤ id by omega), decide_eq_true (show id ≤ 1000000 by omega)]; decide)]
  by_cases h4 : id ∈ x.1
  · rw [if_pos h4, if_pos (List.contains_iff_mem.2 h4)]
  rw [if_neg h4, if_neg (fun h => h4 (List.contains_iff_mem.1 h))]
  have h5 := hc.few
  by_cases h6 : x.1.length = 300
  · rw [if_pos h6, if_pos (show 300 ≤ x.1.length by omega)]
  rw [if_neg h6, if_neg (show ¬ 300 ≤ x.1.length by omega)]
  have h7 := terms_law hc id (s := Sm.stems t) (Nat.le_trans (stems_count t) (by omega))
  by_cases h8 : 1000000 < termsF x (Sm.stems t)
  · rw [if_pos h8, if_pos (h7.1 h8)]
  · rw [if_neg h8, if_neg (fun h => h8 (h7.2 h))]
theorem f2_eq (x : Idx) (id : Int) : (removeR x id).2 = f2F x id := by
  unfold removeR f2F
  by_cases h0 : (indexF x).1 ≠ 0
  · rw [if_pos h0, if_pos h0]
  rw [if_neg h0, if_neg h0]
  by_cases h4 : id ∈ x.1
  · rw [if_pos h4, if_neg (by rw [List.contains_iff_mem.2 h4]; simp)]
  · rw [if_neg h4, if_pos (by cases h : x.1.contains id with | false => rfl | true => exact absurd (List.contains_iff_mem.1 h) h4)]
theorem f3_eq (x : Idx) (word : Str) : (findR x word).2 = f3F x word := by
  unfold findR f3F
  by_cases h0 : (indexF x).1 ≠ 0
  · rw [if_pos h0, if_pos h0]
  rw [if_neg h0, if_neg h0]
  split <;> rfl
theorem removeR_bad {x : Idx} {id : Int} (h : (removeR x id).2.1 ≠ 0) : (removeR x id).1 = ([], []) := by
  unfold removeR at h ⊢
  split; · rfl
  split
  · rename_i h0 h1
    rw [if_neg h0, if_pos h1] at h
    exact absurd rfl h
  · rfl
theorem findR_bad {x : Idx} {word : Str} (h : (findR x word).2.1 ≠ 0) : (findR x word).1 = [] := by
  unfold findR at h ⊢
  split; · rfl
  split; · rfl
  rename_i h0 h1
  rw [if_neg h0, if_neg h1] at h
  exact absurd rfl h
/-- the postings of the last term of a word -/
def wantF (s : Str) (ts : List Term) : List Post := ts.foldl (fun m t => if t.1 = s then t.2 else m) []
theorem wantF_acc {s : Str} : ∀ {ts : List Term} (m : List Post), Al.Sorted ltS ts → ts.foldl (fun m t => if t.1 = s then t.2 else m) m = (Al.look ts s).getD m
  | [], m, _ => rfl
  | t :: r, m, h => by
    unfold Al.Sorted at h
    rw [List.pairwise_cons] at h
    rw [List.foldl_cons, wantF_acc _ h.2, Al.look]
    by_cases e : t.1 = s
    · rw [if_pos e, if_pos e, Al.look_none fun q hq e2 => tot_str.ne (h.1 q hq) (e.trans e2.symm)]
      rfl
    · rw [if_neg e, if_neg e]
theorem wantF_eq {s : Str} {ts : List Term} (h : Al.Sorted ltS ts) : wantF s ts = (Al.look ts s).getD [] := wantF_acc [] h
theorem wantF_take (s : Str) (ts : List Term) {k : Nat} (hk : k < ts.length) : wantF s (ts.take (k + 1)) = if ts[k].1 = s then ts[k].2 else wantF s (ts.take k) := by
  unfold wantF
  rw [List.take_succ_eq_append_getElem hk, List.foldl_append]
  rfl
/-- what a good Find finds is what the law wants -/
theorem find_want {x : Idx} {word : Str} (h : (findR x word).2.1 = 0) : (findR x word).1 = wantF (Sm.stem (Sm.lower word)) x.2 := by
  unfold findR at h ⊢
  by_cases h0 : (indexF x).1 ≠ 0
  · rw [if_pos h0] at h; exact absurd h h0
  rw [if_neg h0] at h ⊢
  by_cases h1 : 8000 < word.length
  · rw [if_pos h1] at h; simp at h
  rw [if_neg h1, wantF_eq ((indexF_zero x).1 (by simpa using h0)).srt]
theorem removeR_good {x : Idx} {id : Int} (h : (removeR x id).2.1 = 0) : removeR x id = (removeF x id, 0, 0) ∧ Canon x ∧ id ∈ x.1 := by
  unfold removeR at h ⊢
  by_cases h0 : (indexF x).1 ≠ 0
  · rw [if_pos h0] at h; exact absurd h h0
  rw [if_neg h0] at h ⊢
  by_cases h4 : id ∈ x.1
  · rw [if_pos h4]; exact ⟨rfl, (indexF_zero x).1 (by simpa using h0), h4⟩
  · rw [if_neg h4] at h; simp at h
end Ix
end Go.Proofs.YtfjpedgddgbelaaGreatDoor
namespace Go.Proofs.YtfjpedgddgbelaaGreatDoor
open Go.RowKit
theorem run_neq_fault (a b a' b' : Int) (w : World) : (binOp .neq 27 (.agg #[.int .i64 a, .int .i64 b]) (.agg #[.int .i64 a', .int .i64 b'])).run Tryz.prog w = .ok (.bool (!((a, b) == (a', b')))) w := by
  have h1 : ((a, b) == (a', b')) = ((a == a') && (b == b')) := rfl
  rw [h1]
  cases e1 : (a == a') <;> cases e2 : (b == b') <;> simp [go_sem, e1, e2]
end Go.Proofs.YtfjpedgddgbelaaGreatDoor

/-
  Contracts and plain facts, one after another: The index of texts that are added one by one: the law's walk; The walk of IndexOfTexts, as its row takes it.
-/
import Derived.Test.YtngdfjlodblagaaGreatDoorMIt9
import Derived.Test.YtngdfjlodblagaaGreatDoorMIt16
import Derived.Test.YtngdfjlodblagaaGreatDoorMIt14
import Derived.Test.YtngdfjlodblagaaGreatDoorMIt2
import Derived.Test.YtngdfjlodblagaaGreatDoorMIt1
/-
  The index of texts that are added one by one: the law's walk.
-/
namespace Go.Proofs.YtngdfjlodblagaaGreatDoor
open Go.RowKit
set_option linter.unusedVariables false
theorem TDocs : SlT Tryz.prog 2 49 51 24 := SlT.mk' Tryz.underlying49 (by kernel_rfl : (Tryz.prog.info? 51).map (fun i => (i.zero, i.size, i.bytes)) = some (some (.agg #[.int .i64 0, .string ⟨#[]⟩]), 2, 24)) rfl
/-- rows that were made by a call: ahead of it and behind it lies nothing of theirs -/
theorem SlR.mid {α : Type} {C : Codec α} {w : World} {v : Value} {l : List α} {n : Nat} (h : SlR C (Old n) w v l) : SlR C (fun b => b < n ∨ w.heap.size ≤ b) w v l := h.sub fun b hb hor => hor.elim (fun h => h) fun h => absurd hb (by omega)
/-- what stands behind the statement of Add -/
structure TxAt (wr : World) (r : Ix.Idx × Int × Int) (g6 g7 : Nat) (a' b' : Value) (W : World) : Prop where
  k6 : Blk W g6 25 #[a', b']
  k7 : Blk W g7 27 #[.int .i64 r.2.1, .int .i64 r.2.2]
  ra : SlR intC (Old wr.heap.size) W a' r.1.1
  rb : SlR termC (Old wr.heap.size) W b' r.1.2
  bel : Below wr.heap.size wr W
  g : wr.heap.size ≤ g6
theorem TxAt.make {wr c : World} {r : Ix.Idx × Int × Int} {g6 g7 n1 n2 : Nat} {a' b' : Value} (hbc : Below wr.heap.size wr c) (k6 : Blk c g6 25 #[.slice none 0 0, .slice none 0 0]) (k7 : Blk c g7 27 #[.int .i64 0, .int .i64 0]) (hne : g6 ≠ g7) (h6 : wr.heap.size ≤ g6) (h7 : wr.heap.size ≤ g7) (hn : wr.heap.size ≤ n1) (o6 : g6 < n1 ∨ n2 ≤ g6) (o7 : g7 < n1 ∨ n2 ≤ g7)
    (ra : SlR intC (fun b => b < n1 ∨ n2 ≤ b) c a' r.1.1) (rb : SlR termC (fun b => b < n1 ∨ n2 ≤ b) c b' r.1.2) {W : World} (hW : (((c.setCell ⟨g6, 0, none⟩ a').setCell ⟨g6, 1, none⟩ b').setCell ⟨g7, 0, none⟩ (.int .i64 r.2.1)).setCell ⟨g7, 1, none⟩ (.int .i64 r.2.2) = W) : TxAt wr r g6 g7 a' b' W := by
  obtain ⟨p6, p7, _, _, _, hsz, hsm⟩ := put4 k6 k7 hne _ _ _ _ hW
  exact ⟨p6, p7, (ra.keep (fun b _ hM => hsm b (by omega) (by omega)) (by omega)).sub fun b _ h => .inl (Nat.lt_of_lt_of_le (show b < _ from h) hn), (rb.keep (fun b _ hM => hsm b (by omega) (by omega)) (by omega)).sub fun b _ h => .inl (Nat.lt_of_lt_of_le (show b < _ from h) hn), below_put4 hbc h6 h7 _ _ _ _ hW, h6⟩
set_option maxRecDepth 100000 in
set_option maxHeartbeats 8000000 in
theorem itexts_ok (v : Value) (texts : List Str) (w : World) (h : SlR strC M0 w v texts) (hT : TabsU w) : Calls Tryz.prog 4 #[v] w fun e w' => e = .returned (.bool true) ∧ Below w.heap.size w w' := by
  obtain ⟨A, c, rfl, hlc, hcm⟩ := h.form
  unfold maxLen at hcm
  have H0 := Lib.hid (And.intro h hT)
  have hex := iexample_ok w hT
  have Hex := Lib.hid hex
  clear h hT hex
  go_enter Tryz.func4, Tryz.ntmps4
  go_wp2_with fail
  refine Hex.out.mono ?_
  rintro e w1 ⟨rfl, hb1⟩
  have Hb1 := Lib.hid hb1
  clear hb1 Hex
  by_cases h12 : 12 < texts.length
  · have hd : (12 : Int) < (texts.length : Int) := by omega
    go_wp2
    go_ret
    exact ⟨rfl, Hb1.out⟩
  have hd : ¬ (12 : Int) < (texts.length : Int) := by omega
  obtain ⟨w2, g3, hW, hg3, hs2, k3, hal⟩ := box1 w1 #[.slice none 0 0, .slice none 0 0] 25
  have HW := Lib.hid (And.intro hW (And.intro hg3 hs2)); have Hk3 := Lib.hid k3; have Hal := Lib.hid (below2 Hb1.out hal)
  have Hg : Hid (w.heap.size ≤ g3) := Lib.hid (by have := Hb1.out.size; omega)
  clear hW hg3 hs2 k3 hal
  go_wp2
  rw [HW.out.1, HW.out.2.1]
  go_loopw [4, 5] (fun dv iv wr => ∃ (k : Nat) (AD : Option Addr) (cD : Nat) (D : List (Int × Str)) (a b : Value) (x : Ix.Idx), k ≤ texts.length ∧ iv = .int .i64 (k : Int) ∧ dv = .slice AD D.length cD ∧ Hid (D = Ix.docsF (texts.take k)) ∧ Hid (x = Ix.madeF (Ix.stemsD D) ∧ Ix.Canon x ∧ ∀ d ∈ D, d.2.length ≤ 4000) ∧ Hid (Blk wr g3 25 #[a, b]) ∧ Hid (SlR intC M0 wr a x.1 ∧ SlR termC M0 wr b x.2) ∧ Hid (Own docC M0 wr (g3 + 1) 51 dv D) ∧ Hid (Below w.heap.size w wr)) (fun _ iv _ => texts.length - (intOf iv).toNat)
  case atStart => exact ⟨0, none, 0, [], .slice none 0 0, .slice none 0 0, ([], []), Nat.zero_le _, rfl, rfl, Lib.hid rfl, Lib.hid ⟨rfl, Ix.canon_nil, fun d h => by cases h⟩, Hk3, Lib.hid ⟨SlR.nil _ _ _, SlR.nil _ _ _⟩, Lib.hid (Own.nil _ _ _ _ _), Hal⟩
  case round =>
    obtain ⟨wo, rfl⟩ : ∃ W0, W0 = wr := ⟨_, rfl⟩
    obtain ⟨k, AD, cD, D, a, b, x, hk, rfl, rfl, hD, hx, hk3, hrows, hown, hbw⟩ := hrel
    clear Hk3 Hal
    obtain ⟨Aa, ca, hva, _, _⟩ := hrows.out.1.form
    subst hva
    obtain ⟨Ab, cb, hvb, _, _⟩ := hrows.out.2.form
    subst hvb
    obtain ⟨x0, x1, x2, x3, _⟩ := hk3.out.two
    by_cases hlt : k < texts.length
    · skip
      obtain ⟨bt, offt, hA, _, _, p0, htl⟩ := (H0.out.1.ext hbw.out).strAt hlt
      subst hA
      have hst := Ix.texts_step hlt (by omega) (by rw [← hD.out]; exact hx.out.2.2) (by rw [← hD.out, ← hx.out.1]; exact hx.out.2.1)
      rw [← hD.out, ← hx.out.1] at hst
      have hDt := Ix.docsF_take hlt
      rw [← hD.out] at hDt
      obtain ⟨tx, htx⟩ : ∃ y, y = texts[k] := ⟨_, rfl⟩
      rw [← htx] at p0 htl hst hDt
      have hlong : ¬ (Ix.addR x (3 * (k : Int) + 1) tx).2.1 = 0 → 4000 < tx.length := fun hne => Classical.byContradiction fun hle => hne (by rw [(hst (by omega)).1])
      have hshort : (Ix.addR x (3 * (k : Int) + 1) tx).2.1 = 0 → tx.length ≤ 4000 := fun h0 => (Ix.addR_room h0).1
      obtain ⟨r, hr⟩ : ∃ r, Ix.addR x (3 * (k : Int) + 1) tx = r := ⟨_, rfl⟩
      have hki : (k : Int) < (texts.length : Int) := by omega
      have hk0 : (0 : Int) ≤ (k : Int) := by omega
      have hkw : IntKind.i64.wrap (k : Int) = (k : Int) := IntWalk.i64_in _ (by omega)
      have hk3w : IntKind.i64.wrap (3 * (k : Int)) = 3 * (k : Int) := IntWalk.i64_in _ (by omega)
      have hk4w : IntKind.i64.wrap (3 * (k : Int) + 1) = 3 * (k : Int) + 1 := IntWalk.i64_in _ (by omega)
      have hadd := fun W' (hb : Below wo.heap.size wo W') => add_okB (.slice Aa x.1.length ca) (.slice Ab x.2.length cb) x.1 x.2 (3 * (k : Int) + 1) tx W' (hrows.out.1.ext hb) (hrows.out.2.ext hb) hx.out.2.1.sz (H0.out.2.ext (hbw.out.trans (hb.mono hbw.out.size)))
      unfold AddAtB at hadd
      rw [hr] at hadd hst hlong hshort
      have hSS : ∀ W', Below wo.heap.size wo W' → W'.cell? ⟨g3, 0, none⟩ = some (.slice Aa x.1.length ca) ∧ W'.cell? ⟨g3, 1, none⟩ = some (.slice Ab x.2.length cb) ∧ W'.cell? ⟨bt, offt + k, none⟩ = some (.string (bs tx)) := fun W' hb => ⟨cell_ext hb x0, cell_ext hb x1, cell_ext hb p0⟩
      have HS := Lib.hid hSS; have Hadd := Lib.hid hadd; have Hst := Lib.hid (And.intro hst (And.intro hDt (And.intro hlong hshort)))
      have Hp0 := Lib.hid p0
      have hS := HS.out _ (below_drewN' wo.heap.size wo 1)
      clear hSS hadd hst hDt hlong hshort htx hr x0 x1 x2 x3 p0
      go_upto_region 10 with fail
      go_cut [6, 7] from 13 to 51 (fun v6 v7 wx => ∃ g6 g7 a' b', v6 = .pointer (some ⟨g6, 0, none⟩) ∧ v7 = .pointer (some ⟨g7, 0, none⟩) ∧ Hid (TxAt wo r g6 g7 a' b' wx))
      case first =>
        refine wp_region_D (fun W => W.cell? ⟨g3, 0, none⟩ = some (.slice Aa x.1.length ca) ∧ W.cell? ⟨g3, 1, none⟩ = some (.slice Ab x.2.length cb) ∧ W.cell? ⟨bt, offt + k, none⟩ = some (.string (bs tx))) (fun _ => false) (by kernel_rfl) ?_
        change anyD _ _ _ _ _ _ _ _ _ (wo.drewN 1)
        have hbc := below_drewN' wo.heap.size wo 1
        generalize wo.drewN 1 = V0 at hS hbc ⊢
        (refine anyD_light (i := 0) (v := ?_) rfl (by kernel_rfl) (by kernel_rfl) (by kernel_rfl) (by kernel_rfl) (by kernel_rfl) (fun _ _ _ h => h) (.inl ⟨by kernel_rfl, fun W9 hW9 => ?_⟩) hS ?_; rotate_left; · (obtain ⟨hw0, hw1, hw2⟩ := hW9; go_simp; rfl))
        (refine anyD_light (i := 1) (v := ?_) rfl (by kernel_rfl) (by kernel_rfl) (by kernel_rfl) (by kernel_rfl) (by kernel_rfl) (fun _ _ _ h => h) (.inl ⟨by kernel_rfl, fun W9 hW9 => ?_⟩) hS ?_; rotate_left; · (obtain ⟨hw0, hw1, hw2⟩ := hW9; go_simp; rfl))
        (refine anyD_light (i := 2) (v := ?_) rfl (by kernel_rfl) (by kernel_rfl) (by kernel_rfl) (by kernel_rfl) (by kernel_rfl) (fun _ _ _ h => h) (.inl ⟨by kernel_rfl, fun W9 hW9 => ?_⟩) hS ?_; rotate_left; · (obtain ⟨hw0, hw1, hw2⟩ := hW9; go_simp; rfl))
        (refine anyD_light (i := 3) (v := ?_) rfl (by kernel_rfl) (by kernel_rfl) (by kernel_rfl) (by kernel_rfl) (by kernel_rfl) (fun _ _ _ h => h) (.inl ⟨by kernel_rfl, fun W9 hW9 => ?_⟩) hS ?_; rotate_left; · (obtain ⟨hw0, hw1, hw2⟩ := hW9; go_simp; rfl))
        go_simp
        (refine anyD_light (i := 4) (v := ?_) rfl (by kernel_rfl) (by kernel_rfl) (by kernel_rfl) (by kernel_rfl) (by kernel_rfl) (fun _ _ _ h => h) (.inl ⟨by kernel_rfl, fun W9 hW9 => ?_⟩) hS ?_; rotate_left; · (obtain ⟨hw0, hw1, hw2⟩ := hW9; go_simp; rfl))
        (refine anyD_light (i := 5) (v := ?_) rfl (by kernel_rfl) (by kernel_rfl) (by kernel_rfl) (by kernel_rfl) (by kernel_rfl) (fun _ _ _ h => h) (.inl ⟨by kernel_rfl, fun W9 hW9 => ?_⟩) hS ?_; rotate_left; · (obtain ⟨hw0, hw1, hw2⟩ := hW9; go_simp; rfl))
        (refine anyD_light (i := 6) (v := ?_) rfl (by kernel_rfl) (by kernel_rfl) (by kernel_rfl) (by kernel_rfl) (by kernel_rfl) (fun _ _ _ h => h) (.inl ⟨by kernel_rfl, fun W9 hW9 => ?_⟩) hS ?_; rotate_left; · (obtain ⟨hw0, hw1, hw2⟩ := hW9; go_simp; rfl))
        (refine anyD_light (i := 7) (v := ?_) rfl (by kernel_rfl) (by kernel_rfl) (by kernel_rfl) (by kernel_rfl) (by kernel_rfl) (fun _ _ _ h => h) (.inl ⟨by kernel_rfl, fun W9 hW9 => ?_⟩) hS ?_; rotate_left; · (obtain ⟨hw0, hw1, hw2⟩ := hW9; go_simp; rfl))
        go_simp
        go_simp
        refine anyD_pick [8, 12, 13] (by kernel_rfl) (by decide) ?_
        intro j hj
        simp only [List.mem_cons, List.not_mem_nil, or_false] at hj
        rcases hj with rfl | rfl | rfl
        · refine ⟨_, rfl, rfl, fun K hK => ?_⟩
          have HK := Lib.hid hK
          clear hK
          unfold Oper.wp
          go_simp
          refine (Hadd.out V0 hbc).mono ?_
          rintro e V1 ⟨a', b', rfl, ra, rb, hb9⟩
          obtain ⟨A6, c6, rfl, _, _⟩ := ra.form
          obtain ⟨A7, c7, rfl, _, _⟩ := rb.form
          replace ra := ra.mid
          replace rb := rb.mid
          have Hn : Hid (V0.heap.size ≤ V1.heap.size ∧ wo.heap.size ≤ V0.heap.size) := Lib.hid ⟨hb9.size, hbc.size⟩
          replace hbc := hbc.trans (hb9.mono hbc.size)
          clear hb9
          clear hS
          have hS := HS.out _ hbc
          refine HK.out _ _ (fun _ => hS) ?_
          clear HK
          (refine anyD_light (i := 9) (v := ?_) rfl (by kernel_rfl) (by kernel_rfl) (by kernel_rfl) (by kernel_rfl) (by kernel_rfl) (fun _ _ _ h => h) (.inl ⟨by kernel_rfl, fun W9 hW9 => ?_⟩) hS ?_; rotate_left; · (obtain ⟨hw0, hw1, hw2⟩ := hW9; go_simp; rfl))
          (refine anyD_light (i := 10) (v := ?_) rfl (by kernel_rfl) (by kernel_rfl) (by kernel_rfl) (by kernel_rfl) (by kernel_rfl) (fun _ _ _ h => h) (.inl ⟨by kernel_rfl, fun W9 hW9 => ?_⟩) hS ?_; rotate_left; · (obtain ⟨hw0, hw1, hw2⟩ := hW9; go_simp; rfl))
          (refine anyD_light (i := 11) (v := ?_) rfl (by kernel_rfl) (by kernel_rfl) (by kernel_rfl) (by kernel_rfl) (by kernel_rfl) (fun _ _ _ h => h) (.inl ⟨by kernel_rfl, fun W9 hW9 => ?_⟩) hS ?_; rotate_left; · (obtain ⟨hw0, hw1, hw2⟩ := hW9; go_simp; rfl))
          go_simp
          refine anyD_pick [12, 13] (by kernel_rfl) (by decide) ?_
          intro j hj
          simp only [List.mem_cons, List.not_mem_nil, or_false] at hj
          rcases hj with rfl | rfl
          · refine ⟨_, rfl, rfl, fun K hK => ?_⟩
            have HK := Lib.hid hK
            clear hK
            unfold Oper.wp
            go_simp
            obtain ⟨V2, g6, hV, hgg6, hss6, k6, hal⟩ := box1 V1 #[.slice none 0 0, .slice none 0 0] 25
            rw [hV, hgg6]
            have Hg6 : Hid (V1.heap.size = g6 ∧ V2.heap.size = g6 + 1 ∧ wo.heap.size ≤ g6) := Lib.hid ⟨hgg6, hss6, by have := hbc.size; omega⟩
            clear hV hgg6 hss6
            replace ra := ra.ext hal
            replace rb := rb.ext hal
            replace hbc := hbc.trans (hal.mono hbc.size)
            clear hal
            clear hS
            have hS := HS.out _ hbc
            refine HK.out _ _ (fun _ => hS) ?_
            clear HK
            go_simp
            refine anyD_one (i := 13) (by kernel_rfl) rfl rfl (fun K hK => ?_)
            have HK := Lib.hid hK
            clear hK
            unfold Oper.wp
            go_simp
            obtain ⟨V3, g7, hV, hgg7, hss7, k7, hal⟩ := box1 V2 #[.int .i64 0, .int .i64 0] 27
            rw [hV, hgg7]
            have Hg7 : Hid (V2.heap.size = g7 ∧ V3.heap.size = g7 + 1 ∧ wo.heap.size ≤ g7) := Lib.hid ⟨hgg7, hss7, by have := hbc.size; omega⟩
            clear hV hgg7 hss7
            replace k6 := k6.ext hal
            replace ra := ra.ext hal
            replace rb := rb.ext hal
            replace hbc := hbc.trans (hal.mono hbc.size)
            clear hal
            clear hS
            have hS := HS.out _ hbc
            refine HK.out _ _ (fun _ => hS) ?_
            clear HK
            go_simp
            have hne67 : g6 ≠ g7 := by have := Hg6.out; have := Hg7.out; have := Hn.out; omega
            have Hfin := Lib.hid (fun W hW => TxAt.make (wr := wo) (r := r) (W := W) hbc k6 k7 hne67 Hg6.out.2.2 Hg7.out.2.2 Hn.out.2 (n2 := V1.heap.size) (by have := Hg6.out; have := Hg7.out; have := Hn.out; omega) (by have := Hg6.out; have := Hg7.out; have := Hn.out; omega) ra rb hW)
            obtain ⟨u0, u1, u2, u3, _⟩ := k6.two
            go_simp
            refine anyD_one (i := 14) (by kernel_rfl) rfl rfl (fun K hK => ?_)
            have HK := Lib.hid hK
            clear hK
            unfold Oper.wp
            go_simp
            have hbx := (hbc.setCell (p := ⟨g6, 0, none⟩) Hg6.out.2.2 (.slice A6 r.1.1.length c6)).setCell (p := ⟨g6, 1, none⟩) Hg6.out.2.2 (.slice A7 r.1.2.length c7)
            refine HK.out _ _ (fun _ => HS.out _ hbx) ?_
            clear HK
            obtain ⟨y0, y1, y2, y3, _⟩ := ((k7.far (p := ⟨g6, 0, none⟩) (show g7 ≠ g6 from hne67.symm) (.slice A6 r.1.1.length c6)).far (p := ⟨g6, 1, none⟩) (show g7 ≠ g6 from hne67.symm) (.slice A7 r.1.2.length c7)).two
            go_simp
            refine anyD_one (i := 15) (by kernel_rfl) rfl rfl (fun K hK => ?_)
            have HK := Lib.hid hK
            clear hK
            unfold Oper.wp
            go_simp
            refine HK.out _ _ (fun _ => HS.out _ ((hbx.setCell (p := ⟨g7, 0, none⟩) Hg7.out.2.2 _).setCell (p := ⟨g7, 1, none⟩) Hg7.out.2.2 _)) ?_
            clear HK hbx
            go_simp
            refine anyD_done (by kernel_rfl) ?_ _
            clear u0 u1 u2 u3 y0 y1 y2 y3 k6 k7 ra rb hbc
            go_wp2
            go_meet
            exact ⟨g6, g7, _, _, rfl, rfl, Lib.hid (Hfin.out _ rfl)⟩
          · refine ⟨_, rfl, rfl, fun K hK => ?_⟩
            have HK := Lib.hid hK
            clear hK
            unfold Oper.wp
            go_simp
            obtain ⟨V2, g7, hV, hgg7, hss7, k7, hal⟩ := box1 V1 #[.int .i64 0, .int .i64 0] 27
            rw [hV, hgg7]
            have Hg7 : Hid (V1.heap.size = g7 ∧ V2.heap.size = g7 + 1 ∧ wo.heap.size ≤ g7) := Lib.hid ⟨hgg7, hss7, by have := hbc.size; omega⟩
            clear hV hgg7 hss7
            replace ra := ra.ext hal
            replace rb := rb.ext hal
            replace hbc := hbc.trans (hal.mono hbc.size)
            clear hal
            clear hS
            have hS := HS.out _ hbc
            refine HK.out _ _ (fun _ => hS) ?_
            clear HK
            go_simp
            refine anyD_one (i := 12) (by kernel_rfl) rfl rfl (fun K hK => ?_)
            have HK := Lib.hid hK
            clear hK
            unfold Oper.wp
            go_simp
            obtain ⟨V3, g6, hV, hgg6, hss6, k6, hal⟩ := box1 V2 #[.slice none 0 0, .slice none 0 0] 25
            rw [hV, hgg6]
            have Hg6 : Hid (V2.heap.size = g6 ∧ V3.heap.size = g6 + 1 ∧ wo.heap.size ≤ g6) := Lib.hid ⟨hgg6, hss6, by have := hbc.size; omega⟩
            clear hV hgg6 hss6
            replace k7 := k7.ext hal
            replace ra := ra.ext hal
            replace rb := rb.ext hal
            replace hbc := hbc.trans (hal.mono hbc.size)
            clear hal
            clear hS
            have hS := HS.out _ hbc
            refine HK.out _ _ (fun _ => hS) ?_
            clear HK
            go_simp
            have hne67 : g6 ≠ g7 := by have := Hg6.out; have := Hg7.out; have := Hn.out; omega
            have Hfin := Lib.hid (fun W hW => TxAt.make (wr := wo) (r := r) (W := W) hbc k6 k7 hne67 Hg6.out.2.2 Hg7.out.2.2 Hn.out.2 (n2 := V1.heap.size) (by have := Hg6.out; have := Hg7.out; have := Hn.out; omega) (by have := Hg6.out; have := Hg7.out; have := Hn.out; omega) ra rb hW)
            obtain ⟨u0, u1, u2, u3, _⟩ := k6.two
            go_simp
            refine anyD_one (i := 14) (by kernel_rfl) rfl rfl (fun K hK => ?_)
            have HK := Lib.hid hK
            clear hK
            unfold Oper.wp
            go_simp
            have hbx := (hbc.setCell (p := ⟨g6, 0, none⟩) Hg6.out.2.2 (.slice A6 r.1.1.length c6)).setCell (p := ⟨g6, 1, none⟩) Hg6.out.2.2 (.slice A7 r.1.2.length c7)
            refine HK.out _ _ (fun _ => HS.out _ hbx) ?_
            clear HK
            obtain ⟨y0, y1, y2, y3, _⟩ := ((k7.far (p := ⟨g6, 0, none⟩) (show g7 ≠ g6 from hne67.symm) (.slice A6 r.1.1.length c6)).far (p := ⟨g6, 1, none⟩) (show g7 ≠ g6 from hne67.symm) (.slice A7 r.1.2.length c7)).two
            go_simp
            refine anyD_one (i := 15) (by kernel_rfl) rfl rfl (fun K hK => ?_)
            have HK := Lib.hid hK
            clear hK
            unfold Oper.wp
            go_simp
            refine HK.out _ _ (fun _ => HS.out _ ((hbx.setCell (p := ⟨g7, 0, none⟩) Hg7.out.2.2 _).setCell (p := ⟨g7, 1, none⟩) Hg7.out.2.2 _)) ?_
            clear HK hbx
            go_simp
            refine anyD_done (by kernel_rfl) ?_ _
            clear u0 u1 u2 u3 y0 y1 y2 y3 k6 k7 ra rb hbc
            go_wp2
            go_meet
            exact ⟨g6, g7, _, _, rfl, rfl, Lib.hid (Hfin.out _ rfl)⟩
        · refine ⟨_, rfl, rfl, fun K hK => ?_⟩
          have HK := Lib.hid hK
          clear hK
          unfold Oper.wp
          go_simp
          obtain ⟨V1, g6, hV, hgg6, hss6, k6, hal⟩ := box1 V0 #[.slice none 0 0, .slice none 0 0] 25
          rw [hV, hgg6]
          have Hg6 : Hid (V0.heap.size = g6 ∧ V1.heap.size = g6 + 1 ∧ wo.heap.size ≤ g6) := Lib.hid ⟨hgg6, hss6, by have := hbc.size; omega⟩
          clear hV hgg6 hss6
          replace hbc := hbc.trans (hal.mono hbc.size)
          clear hal
          clear hS
          have hS := HS.out _ hbc
          refine HK.out _ _ (fun _ => hS) ?_
          clear HK
          go_simp
          refine anyD_pick [8, 13] (by kernel_rfl) (by decide) ?_
          intro j hj
          simp only [List.mem_cons, List.not_mem_nil, or_false] at hj
          rcases hj with rfl | rfl
          · refine ⟨_, rfl, rfl, fun K hK => ?_⟩
            have HK := Lib.hid hK
            clear hK
            unfold Oper.wp
            go_simp
            refine (Hadd.out V1 hbc).mono ?_
            rintro e V2 ⟨a', b', rfl, ra, rb, hb9⟩
            obtain ⟨A6, c6, rfl, _, _⟩ := ra.form
            obtain ⟨A7, c7, rfl, _, _⟩ := rb.form
            replace ra := ra.mid
            replace rb := rb.mid
            replace k6 := k6.ext hb9
            have Hn : Hid (V1.heap.size ≤ V2.heap.size ∧ wo.heap.size ≤ V1.heap.size) := Lib.hid ⟨hb9.size, hbc.size⟩
            replace hbc := hbc.trans (hb9.mono hbc.size)
            clear hb9
            clear hS
            have hS := HS.out _ hbc
            refine HK.out _ _ (fun _ => hS) ?_
            clear HK
            (refine anyD_light (i := 9) (v := ?_) rfl (by kernel_rfl) (by kernel_rfl) (by kernel_rfl) (by kernel_rfl) (by kernel_rfl) (fun _ _ _ h => h) (.inl ⟨by kernel_rfl, fun W9 hW9 => ?_⟩) hS ?_; rotate_left; · (obtain ⟨hw0, hw1, hw2⟩ := hW9; go_simp; rfl))
            (refine anyD_light (i := 10) (v := ?_) rfl (by kernel_rfl) (by kernel_rfl) (by kernel_rfl) (by kernel_rfl) (by kernel_rfl) (fun _ _ _ h => h) (.inl ⟨by kernel_rfl, fun W9 hW9 => ?_⟩) hS ?_; rotate_left; · (obtain ⟨hw0, hw1, hw2⟩ := hW9; go_simp; rfl))
            (refine anyD_light (i := 11) (v := ?_) rfl (by kernel_rfl) (by kernel_rfl) (by kernel_rfl) (by kernel_rfl) (by kernel_rfl) (fun _ _ _ h => h) (.inl ⟨by kernel_rfl, fun W9 hW9 => ?_⟩) hS ?_; rotate_left; · (obtain ⟨hw0, hw1, hw2⟩ := hW9; go_simp; rfl))
            go_simp
            refine anyD_one (i := 13) (by kernel_rfl) rfl rfl (fun K hK => ?_)
            have HK := Lib.hid hK
            clear hK
            unfold Oper.wp
            go_simp
            obtain ⟨V3, g7, hV, hgg7, hss7, k7, hal⟩ := box1 V2 #[.int .i64 0, .int .i64 0] 27
            rw [hV, hgg7]
            have Hg7 : Hid (V2.heap.size = g7 ∧ V3.heap.size = g7 + 1 ∧ wo.heap.size ≤ g7) := Lib.hid ⟨hgg7, hss7, by have := hbc.size; omega⟩
            clear hV hgg7 hss7
            replace k6 := k6.ext hal
            replace ra := ra.ext hal
            replace rb := rb.ext hal
            replace hbc := hbc.trans (hal.mono hbc.size)
            clear hal
            clear hS
            have hS := HS.out _ hbc
            refine HK.out _ _ (fun _ => hS) ?_
            clear HK
            go_simp
            have hne67 : g6 ≠ g7 := by have := Hg6.out; have := Hg7.out; have := Hn.out; omega
            have Hfin := Lib.hid (fun W hW => TxAt.make (wr := wo) (r := r) (W := W) hbc k6 k7 hne67 Hg6.out.2.2 Hg7.out.2.2 Hn.out.2 (n2 := V2.heap.size) (by have := Hg6.out; have := Hg7.out; have := Hn.out; omega) (by have := Hg6.out; have := Hg7.out; have := Hn.out; omega) ra rb hW)
            obtain ⟨u0, u1, u2, u3, _⟩ := k6.two
            go_simp
            refine anyD_one (i := 14) (by kernel_rfl) rfl rfl (fun K hK => ?_)
            have HK := Lib.hid hK
            clear hK
            unfold Oper.wp
            go_simp
            have hbx := (hbc.setCell (p := ⟨g6, 0, none⟩) Hg6.out.2.2 (.slice A6 r.1.1.length c6)).setCell (p := ⟨g6, 1, none⟩) Hg6.out.2.2 (.slice A7 r.1.2.length c7)
            refine HK.out _ _ (fun _ => HS.out _ hbx) ?_
            clear HK
            obtain ⟨y0, y1, y2, y3, _⟩ := ((k7.far (p := ⟨g6, 0, none⟩) (show g7 ≠ g6 from hne67.symm) (.slice A6 r.1.1.length c6)).far (p := ⟨g6, 1, none⟩) (show g7 ≠ g6 from hne67.symm) (.slice A7 r.1.2.length c7)).two
            go_simp
            refine anyD_one (i := 15) (by kernel_rfl) rfl rfl (fun K hK => ?_)
            have HK := Lib.hid hK
            clear hK
            unfold Oper.wp
            go_simp
            refine HK.out _ _ (fun _ => HS.out _ ((hbx.setCell (p := ⟨g7, 0, none⟩) Hg7.out.2.2 _).setCell (p := ⟨g7, 1, none⟩) Hg7.out.2.2 _)) ?_
            clear HK hbx
            go_simp
            refine anyD_done (by kernel_rfl) ?_ _
            clear u0 u1 u2 u3 y0 y1 y2 y3 k6 k7 ra rb hbc
            go_wp2
            go_meet
            exact ⟨g6, g7, _, _, rfl, rfl, Lib.hid (Hfin.out _ rfl)⟩
          · refine ⟨_, rfl, rfl, fun K hK => ?_⟩
            have HK := Lib.hid hK
            clear hK
            unfold Oper.wp
            go_simp
            obtain ⟨V2, g7, hV, hgg7, hss7, k7, hal⟩ := box1 V1 #[.int .i64 0, .int .i64 0] 27
            rw [hV, hgg7]
            have Hg7 : Hid (V1.heap.size = g7 ∧ V2.heap.size = g7 + 1 ∧ wo.heap.size ≤ g7) := Lib.hid ⟨hgg7, hss7, by have := hbc.size; omega⟩
            clear hV hgg7 hss7
            replace k6 := k6.ext hal
            replace hbc := hbc.trans (hal.mono hbc.size)
            clear hal
            clear hS
            have hS := HS.out _ hbc
            refine HK.out _ _ (fun _ => hS) ?_
            clear HK
            go_simp
            refine anyD_one (i := 8) (by kernel_rfl) rfl rfl (fun K hK => ?_)
            have HK := Lib.hid hK
            clear hK
            unfold Oper.wp
            go_simp
            refine (Hadd.out V2 hbc).mono ?_
            rintro e V3 ⟨a', b', rfl, ra, rb, hb9⟩
            obtain ⟨A6, c6, rfl, _, _⟩ := ra.form
            obtain ⟨A7, c7, rfl, _, _⟩ := rb.form
            replace ra := ra.mid
            replace rb := rb.mid
            replace k6 := k6.ext hb9
            replace k7 := k7.ext hb9
            have Hn : Hid (V2.heap.size ≤ V3.heap.size ∧ wo.heap.size ≤ V2.heap.size) := Lib.hid ⟨hb9.size, hbc.size⟩
            replace hbc := hbc.trans (hb9.mono hbc.size)
            clear hb9
            clear hS
            have hS := HS.out _ hbc
            refine HK.out _ _ (fun _ => hS) ?_
            clear HK
            (refine anyD_light (i := 9) (v := ?_) rfl (by kernel_rfl) (by kernel_rfl) (by kernel_rfl) (by kernel_rfl) (by kernel_rfl) (fun _ _ _ h => h) (.inl ⟨by kernel_rfl, fun W9 hW9 => ?_⟩) hS ?_; rotate_left; · (obtain ⟨hw0, hw1, hw2⟩ := hW9; go_simp; rfl))
            (refine anyD_light (i := 10) (v := ?_) rfl (by kernel_rfl) (by kernel_rfl) (by kernel_rfl) (by kernel_rfl) (by kernel_rfl) (fun _ _ _ h => h) (.inl ⟨by kernel_rfl, fun W9 hW9 => ?_⟩) hS ?_; rotate_left; · (obtain ⟨hw0, hw1, hw2⟩ := hW9; go_simp; rfl))
            (refine anyD_light (i := 11) (v := ?_) rfl (by kernel_rfl) (by kernel_rfl) (by kernel_rfl) (by kernel_rfl) (by kernel_rfl) (fun _ _ _ h => h) (.inl ⟨by kernel_rfl, fun W9 hW9 => ?_⟩) hS ?_; rotate_left; · (obtain ⟨hw0, hw1, hw2⟩ := hW9; go_simp; rfl))
            go_simp
            have hne67 : g6 ≠ g7 := by have := Hg6.out; have := Hg7.out; have := Hn.out; omega
            have Hfin := Lib.hid (fun W hW => TxAt.make (wr := wo) (r := r) (W := W) hbc k6 k7 hne67 Hg6.out.2.2 Hg7.out.2.2 Hn.out.2 (n2 := V3.heap.size) (by have := Hg6.out; have := Hg7.out; have := Hn.out; omega) (by have := Hg6.out; have := Hg7.out; have := Hn.out; omega) ra rb hW)
            obtain ⟨u0, u1, u2, u3, _⟩ := k6.two
            go_simp
            refine anyD_one (i := 14) (by kernel_rfl) rfl rfl (fun K hK => ?_)
            have HK := Lib.hid hK
            clear hK
            unfold Oper.wp
            go_simp
            have hbx := (hbc.setCell (p := ⟨g6, 0, none⟩) Hg6.out.2.2 (.slice A6 r.1.1.length c6)).setCell (p := ⟨g6, 1, none⟩) Hg6.out.2.2 (.slice A7 r.1.2.length c7)
            refine HK.out _ _ (fun _ => HS.out _ hbx) ?_
            clear HK
            obtain ⟨y0, y1, y2, y3, _⟩ := ((k7.far (p := ⟨g6, 0, none⟩) (show g7 ≠ g6 from hne67.symm) (.slice A6 r.1.1.length c6)).far (p := ⟨g6, 1, none⟩) (show g7 ≠ g6 from hne67.symm) (.slice A7 r.1.2.length c7)).two
            go_simp
            refine anyD_one (i := 15) (by kernel_rfl) rfl rfl (fun K hK => ?_)
            have HK := Lib.hid hK
            clear hK
            unfold Oper.wp
            go_simp
            refine HK.out _ _ (fun _ => HS.out _ ((hbx.setCell (p := ⟨g7, 0, none⟩) Hg7.out.2.2 _).setCell (p := ⟨g7, 1, none⟩) Hg7.out.2.2 _)) ?_
            clear HK hbx
            go_simp
            refine anyD_done (by kernel_rfl) ?_ _
            clear u0 u1 u2 u3 y0 y1 y2 y3 k6 k7 ra rb hbc
            go_wp2
            go_meet
            exact ⟨g6, g7, _, _, rfl, rfl, Lib.hid (Hfin.out _ rfl)⟩
        · refine ⟨_, rfl, rfl, fun K hK => ?_⟩
          have HK := Lib.hid hK
          clear hK
          unfold Oper.wp
          go_simp
          obtain ⟨V1, g7, hV, hgg7, hss7, k7, hal⟩ := box1 V0 #[.int .i64 0, .int .i64 0] 27
          rw [hV, hgg7]
          have Hg7 : Hid (V0.heap.size = g7 ∧ V1.heap.size = g7 + 1 ∧ wo.heap.size ≤ g7) := Lib.hid ⟨hgg7, hss7, by have := hbc.size; omega⟩
          clear hV hgg7 hss7
          replace hbc := hbc.trans (hal.mono hbc.size)
          clear hal
          clear hS
          have hS := HS.out _ hbc
          refine HK.out _ _ (fun _ => hS) ?_
          clear HK
          go_simp
          refine anyD_pick [8, 12] (by kernel_rfl) (by decide) ?_
          intro j hj
          simp only [List.mem_cons, List.not_mem_nil, or_false] at hj
          rcases hj with rfl | rfl
          · refine ⟨_, rfl, rfl, fun K hK => ?_⟩
            have HK := Lib.hid hK
            clear hK
            unfold Oper.wp
            go_simp
            refine (Hadd.out V1 hbc).mono ?_
            rintro e V2 ⟨a', b', rfl, ra, rb, hb9⟩
            obtain ⟨A6, c6, rfl, _, _⟩ := ra.form
            obtain ⟨A7, c7, rfl, _, _⟩ := rb.form
            replace ra := ra.mid
            replace rb := rb.mid
            replace k7 := k7.ext hb9
            have Hn : Hid (V1.heap.size ≤ V2.heap.size ∧ wo.heap.size ≤ V1.heap.size) := Lib.hid ⟨hb9.size, hbc.size⟩
            replace hbc := hbc.trans (hb9.mono hbc.size)
            clear hb9
            clear hS
            have hS := HS.out _ hbc
            refine HK.out _ _ (fun _ => hS) ?_
            clear HK
            (refine anyD_light (i := 9) (v := ?_) rfl (by kernel_rfl) (by kernel_rfl) (by kernel_rfl) (by kernel_rfl) (by kernel_rfl) (fun _ _ _ h => h) (.inl ⟨by kernel_rfl, fun W9 hW9 => ?_⟩) hS ?_; rotate_left; · (obtain ⟨hw0, hw1, hw2⟩ := hW9; go_simp; rfl))
            (refine anyD_light (i := 10) (v := ?_) rfl (by kernel_rfl) (by kernel_rfl) (by kernel_rfl) (by kernel_rfl) (by kernel_rfl) (fun _ _ _ h => h) (.inl ⟨by kernel_rfl, fun W9 hW9 => ?_⟩) hS ?_; rotate_left; · (obtain ⟨hw0, hw1, hw2⟩ := hW9; go_simp; rfl))
            (refine anyD_light (i := 11) (v := ?_) rfl (by kernel_rfl) (by kernel_rfl) (by kernel_rfl) (by kernel_rfl) (by kernel_rfl) (fun _ _ _ h => h) (.inl ⟨by kernel_rfl, fun W9 hW9 => ?_⟩) hS ?_; rotate_left; · (obtain ⟨hw0, hw1, hw2⟩ := hW9; go_simp; rfl))
            go_simp
            refine anyD_one (i := 12) (by kernel_rfl) rfl rfl (fun K hK => ?_)
            have HK := Lib.hid hK
            clear hK
            unfold Oper.wp
            go_simp
            obtain ⟨V3, g6, hV, hgg6, hss6, k6, hal⟩ := box1 V2 #[.slice none 0 0, .slice none 0 0] 25
            rw [hV, hgg6]
            have Hg6 : Hid (V2.heap.size = g6 ∧ V3.heap.size = g6 + 1 ∧ wo.heap.size ≤ g6) := Lib.hid ⟨hgg6, hss6, by have := hbc.size; omega⟩
            clear hV hgg6 hss6
            replace k7 := k7.ext hal
            replace ra := ra.ext hal
            replace rb := rb.ext hal
            replace hbc := hbc.trans (hal.mono hbc.size)
            clear hal
            clear hS
            have hS := HS.out _ hbc
            refine HK.out _ _ (fun _ => hS) ?_
            clear HK
            go_simp
            have hne67 : g6 ≠ g7 := by have := Hg6.out; have := Hg7.out; have := Hn.out; omega
            have Hfin := Lib.hid (fun W hW => TxAt.make (wr := wo) (r := r) (W := W) hbc k6 k7 hne67 Hg6.out.2.2 Hg7.out.2.2 Hn.out.2 (n2 := V2.heap.size) (by have := Hg6.out; have := Hg7.out; have := Hn.out; omega) (by have := Hg6.out; have := Hg7.out; have := Hn.out; omega) ra rb hW)
            obtain ⟨u0, u1, u2, u3, _⟩ := k6.two
            go_simp
            refine anyD_one (i := 14) (by kernel_rfl) rfl rfl (fun K hK => ?_)
            have HK := Lib.hid hK
            clear hK
            unfold Oper.wp
            go_simp
            have hbx := (hbc.setCell (p := ⟨g6, 0, none⟩) Hg6.out.2.2 (.slice A6 r.1.1.length c6)).setCell (p := ⟨g6, 1, none⟩) Hg6.out.2.2 (.slice A7 r.1.2.length c7)
            refine HK.out _ _ (fun _ => HS.out _ hbx) ?_
            clear HK
            obtain ⟨y0, y1, y2, y3, _⟩ := ((k7.far (p := ⟨g6, 0, none⟩) (show g7 ≠ g6 from hne67.symm) (.slice A6 r.1.1.length c6)).far (p := ⟨g6, 1, none⟩) (show g7 ≠ g6 from hne67.symm) (.slice A7 r.1.2.length c7)).two
            go_simp
            refine anyD_one (i := 15) (by kernel_rfl) rfl rfl (fun K hK => ?_)
            have HK := Lib.hid hK
            clear hK
            unfold Oper.wp
            go_simp
            refine HK.out _ _ (fun _ => HS.out _ ((hbx.setCell (p := ⟨g7, 0, none⟩) Hg7.out.2.2 _).setCell (p := ⟨g7, 1, none⟩) Hg7.out.2.2 _)) ?_
            clear HK hbx
            go_simp
            refine anyD_done (by kernel_rfl) ?_ _
            clear u0 u1 u2 u3 y0 y1 y2 y3 k6 k7 ra rb hbc
            go_wp2
            go_meet
            exact ⟨g6, g7, _, _, rfl, rfl, Lib.hid (Hfin.out _ rfl)⟩
          · refine ⟨_, rfl, rfl, fun K hK => ?_⟩
            have HK := Lib.hid hK
            clear hK
            unfold Oper.wp
            go_simp
            obtain ⟨V2, g6, hV, hgg6, hss6, k6, hal⟩ := box1 V1 #[.slice none 0 0, .slice none 0 0] 25
            rw [hV, hgg6]
            have Hg6 : Hid (V1.heap.size = g6 ∧ V2.heap.size = g6 + 1 ∧ wo.heap.size ≤ g6) := Lib.hid ⟨hgg6, hss6, by have := hbc.size; omega⟩
            clear hV hgg6 hss6
            replace k7 := k7.ext hal
            replace hbc := hbc.trans (hal.mono hbc.size)
            clear hal
            clear hS
            have hS := HS.out _ hbc
            refine HK.out _ _ (fun _ => hS) ?_
            clear HK
            go_simp
            refine anyD_one (i := 8) (by kernel_rfl) rfl rfl (fun K hK => ?_)
            have HK := Lib.hid hK
            clear hK
            unfold Oper.wp
            go_simp
            refine (Hadd.out V2 hbc).mono ?_
            rintro e V3 ⟨a', b', rfl, ra, rb, hb9⟩
            obtain ⟨A6, c6, rfl, _, _⟩ := ra.form
            obtain ⟨A7, c7, rfl, _, _⟩ := rb.form
            replace ra := ra.mid
            replace rb := rb.mid
            replace k6 := k6.ext hb9
            replace k7 := k7.ext hb9
            have Hn : Hid (V2.heap.size ≤ V3.heap.size ∧ wo.heap.size ≤ V2.heap.size) := Lib.hid ⟨hb9.size, hbc.size⟩
            replace hbc := hbc.trans (hb9.mono hbc.size)
            clear hb9
            clear hS
            have hS := HS.out _ hbc
            refine HK.out _ _ (fun _ => hS) ?_
            clear HK
            (refine anyD_light (i := 9) (v := ?_) rfl (by kernel_rfl) (by kernel_rfl) (by kernel_rfl) (by kernel_rfl) (by kernel_rfl) (fun _ _ _ h => h) (.inl ⟨by kernel_rfl, fun W9 hW9 => ?_⟩) hS ?_; rotate_left; · (obtain ⟨hw0, hw1, hw2⟩ := hW9; go_simp; rfl))
            (refine anyD_light (i := 10) (v := ?_) rfl (by kernel_rfl) (by kernel_rfl) (by kernel_rfl) (by kernel_rfl) (by kernel_rfl) (fun _ _ _ h => h) (.inl ⟨by kernel_rfl, fun W9 hW9 => ?_⟩) hS ?_; rotate_left; · (obtain ⟨hw0, hw1, hw2⟩ := hW9; go_simp; rfl))
            (refine anyD_light (i := 11) (v := ?_) rfl (by kernel_rfl) (by kernel_rfl) (by kernel_rfl) (by kernel_rfl) (by kernel_rfl) (fun _ _ _ h => h) (.inl ⟨by kernel_rfl, fun W9 hW9 => ?_⟩) hS ?_; rotate_left; · (obtain ⟨hw0, hw1, hw2⟩ := hW9; go_simp; rfl))
            go_simp
            have hne67 : g6 ≠ g7 := by have := Hg6.out; have := Hg7.out; have := Hn.out; omega
            have Hfin := Lib.hid (fun W hW => TxAt.make (wr := wo) (r := r) (W := W) hbc k6 k7 hne67 Hg6.out.2.2 Hg7.out.2.2 Hn.out.2 (n2 := V3.heap.size) (by have := Hg6.out; have := Hg7.out; have := Hn.out; omega) (by have := Hg6.out; have := Hg7.out; have := Hn.out; omega) ra rb hW)
            obtain ⟨u0, u1, u2, u3, _⟩ := k6.two
            go_simp
            refine anyD_one (i := 14) (by kernel_rfl) rfl rfl (fun K hK => ?_)
            have HK := Lib.hid hK
            clear hK
            unfold Oper.wp
            go_simp
            have hbx := (hbc.setCell (p := ⟨g6, 0, none⟩) Hg6.out.2.2 (.slice A6 r.1.1.length c6)).setCell (p := ⟨g6, 1, none⟩) Hg6.out.2.2 (.slice A7 r.1.2.length c7)
            refine HK.out _ _ (fun _ => HS.out _ hbx) ?_
            clear HK
            obtain ⟨y0, y1, y2, y3, _⟩ := ((k7.far (p := ⟨g6, 0, none⟩) (show g7 ≠ g6 from hne67.symm) (.slice A6 r.1.1.length c6)).far (p := ⟨g6, 1, none⟩) (show g7 ≠ g6 from hne67.symm) (.slice A7 r.1.2.length c7)).two
            go_simp
            refine anyD_one (i := 15) (by kernel_rfl) rfl rfl (fun K hK => ?_)
            have HK := Lib.hid hK
            clear hK
            unfold Oper.wp
            go_simp
            refine HK.out _ _ (fun _ => HS.out _ ((hbx.setCell (p := ⟨g7, 0, none⟩) Hg7.out.2.2 _).setCell (p := ⟨g7, 1, none⟩) Hg7.out.2.2 _)) ?_
            clear HK hbx
            go_simp
            refine anyD_done (by kernel_rfl) ?_ _
            clear u0 u1 u2 u3 y0 y1 y2 y3 k6 k7 ra rb hbc
            go_wp2
            go_meet
            exact ⟨g6, g7, _, _, rfl, rfl, Lib.hid (Hfin.out _ rfl)⟩
      case rest =>
        obtain ⟨g6, g7, a', b', rfl, rfl, hX⟩ := hcut
        clear hS
        obtain ⟨A6, c6, rfl, _, _⟩ := hX.out.ra.form
        obtain ⟨A7, c7, rfl, _, _⟩ := hX.out.rb.form
        have hbx := hbw.out.trans (hX.out.bel.mono hbw.out.size)
        have p0 := cell_ext hX.out.bel Hp0.out
        obtain ⟨y0, _, _, _, _⟩ := hX.out.k7.two
        by_cases he : r.2.1 = 0
        · skip
          have hshort := Hst.out.2.2.2 he
          obtain ⟨hr1, hcan, hall⟩ := Hst.out.1 hshort
          have hDt := Hst.out.2.1
          rw [he] at y0
          obtain ⟨z0, z1, _, _, _⟩ := hX.out.k6.two
          have k3c := hk3.out.ext hX.out.bel
          obtain ⟨x0, x1, x2, x3, _⟩ := k3c.two
          have hgo := hk3.out.lt
          obtain ⟨W8, hW8⟩ : ∃ W8, (wc.setCell ⟨g3, 0, none⟩ (.slice A6 r.1.1.length c6)).setCell ⟨g3, 1, none⟩ (.slice A7 r.1.2.length c7) = W8 := ⟨_, rfl⟩
          obtain ⟨k38, hoth⟩ := put2 k3c (.slice A6 r.1.1.length c6) (.slice A7 r.1.2.length c7) hW8
          have hs8 : W8.heap.size = wc.heap.size := by rw [← hW8]; simp
          have own8 : Own docC M0 W8 (g3 + 1) 51 (.slice AD D.length cD) D := (hown.out.ext hX.out.bel).flatC (flatC_pair flatC_int flatC_str) fun b hb => hoth b (by have := hown.out.base b hb; omega)
          have ra8 := hX.out.ra.keep (fun b _ hM => hoth b fun e => hM (show b < _ by rw [e]; exact hgo)) (Nat.le_of_eq hs8.symm)
          have rb8 := hX.out.rb.keep (fun b _ hM => hoth b fun e => hM (show b < _ by rw [e]; exact hgo)) (Nat.le_of_eq hs8.symm)
          have hb8 : Below w.heap.size w W8 := by rw [← hW8]; exact (hbx.setCell (p := ⟨g3, 0, none⟩) Hg.out _).setCell (p := ⟨g3, 1, none⟩) Hg.out _
          have p8 : W8.cell? ⟨bt, offt + k, none⟩ = some (.string (bs tx)) := by
            obtain ⟨b9, off9, hA9, _, _, q0, _⟩ := (H0.out.1.ext hb8).strAt hlt
            injection hA9 with hA9
            injection hA9 with hA1 hA2
            subst hA1 hA2
            obtain ⟨b9, off9, hA9, hb9, _⟩ := H0.out.1.strAt hlt
            injection hA9 with hA9
            injection hA9 with hA1 hA2
            subst hA1 hA2
            exact (World.cell?_of_block (a := ⟨bt, offt + k, none⟩) (hoth bt (by have := Hg.out; omega))).trans p0
          have hDl : D.length ≤ 12 := by rw [hD.out, Ix.docsF_len, List.length_take]; omega
          have HX := Lib.hid (And.intro k38 (And.intro ra8 (And.intro rb8 hb8))); have HW8 := Lib.hid hW8; have Hs8 := Lib.hid hs8
          have hs8' : g3 + 1 ≤ W8.heap.size := by have := k38.lt; omega
          have Hown8 := Lib.hid own8
          have Hfin := Lib.hid (And.intro hr1 (And.intro hcan hall))
          have HDt := Lib.hid hDt
          rw [← hW8] at p8
          clear k38 hoth ra8 rb8 hb8 k3c hr1 hcan hall hDt hW8 own8 hbx hs8
          go_wp2_with (at_builtin; rw [HW8.out, ← Hs8.out]; refine wpList_push_Own docC (M := M0) (B := g3 + 1) TDocs rfl (.tmp 41) (.tmp 50) rfl rfl Hown8.out rfl (cs := [.int .i64 (3 * (k : Int) + 1), .string (bs tx)]) (y := (3 * (k : Int) + 1, tx)) ⟨[.int .i64 (3 * (k : Int) + 1)], [.string (bs tx)], rfl, ⟨rfl, by omega, by omega⟩, rfl, htl⟩ (fun _ h => h.elim) ?a1 ?b1 hs8' ?_)
          case a1 => unfold maxLen; omega
          case b1 => omega
          intro A9 c9 D9 W9 hD9 own9 hb9 hgr9 hor9
          have hkeep : ∀ b, b < W8.heap.size → (Value.slice AD D.length cD).ownBlock ≠ some b → W9.heap[b]? = W8.heap[b]? := fun b hb ho => hgr9.block b hb fun e => ho e.symm
          obtain ⟨k38, ra8, rb8, hb8⟩ := HX.out
          have k39 := k38.keep (hkeep g3 k38.lt fun e => by have := Hown8.out.base g3 e; omega)
          have hko : ∀ b, b < W8.heap.size → ¬ Old wo.heap.size b → W9.heap[b]? = W8.heap[b]? := fun b hb hM => hkeep b hb fun e => hM (hown.out.lt b e)
          have Hrel := Lib.hid (And.intro k39 (And.intro (And.intro (ra8.keep hko hgr9.size).weak (rb8.keep hko hgr9.size).weak) (And.intro own9 (hb8.trans (hb9.mono (by have := Hg.out; omega))))))
          have HD9 := Lib.hid (hD9.out.trans HDt.out.symm)
          have Hx9 : Hid (r.1 = Ix.madeF (Ix.stemsD D9) ∧ Ix.Canon r.1 ∧ ∀ d ∈ D9, d.2.length ≤ 4000) := Lib.hid (by
            rw [HD9.out]
            have e : r.1 = Ix.madeF (Ix.stemsD (Ix.docsF (texts.take (k + 1)))) := by rw [Hfin.out.1]
            exact ⟨e, e ▸ Hfin.out.2.1, Hfin.out.2.2⟩)
          clear hkeep k38 ra8 rb8 hb8 k39 hko own9 hb9 hgr9 hor9 hD9
          go_wp2
          go_roundw
          case rel => exact ⟨k + 1, A9, c9, D9, _, _, r.1, by omega, by go_num, rfl, HD9, Hx9, Lib.hid Hrel.out.1, Lib.hid Hrel.out.2.1, Lib.hid Hrel.out.2.2.1, Lib.hid Hrel.out.2.2.2⟩
          case measure => simp [intOf]; omega
        · skip
          have hlong := Hst.out.2.2.1 he
          have hne : (r.2.1 != 0) = true := by simpa using he
          have hd4 : decide ((4000 : Int) < (tx.length : Int)) = true := by simp; omega
          have Hb := Lib.hid hbx
          clear hbx hlong
          go_wp2
          go_ret
          exact ⟨rfl, Hb.out⟩
    · obtain rfl : k = texts.length := by omega
      have hDl : D.length ≤ 12 := by rw [hD.out, Ix.docsF_len, List.length_take]; omega
      have hmd := fun W' (hb : Below wo.heap.size wo W') => refMade_ok (.slice AD D.length cD) D W' (hown.out.read0.ext hb) (by omega) hx.out.2.2 (H0.out.2.ext (hbw.out.trans (hb.mono hbw.out.size)))
      obtain ⟨m, hm⟩ : ∃ m, Ix.madeF (Ix.stemsD D) = m := ⟨_, rfl⟩
      rw [hm] at hmd
      have hsame : ∀ (W' : World) (u v : Value), Below wo.heap.size wo W' → SlR intC M0 W' u m.1 → SlR termC M0 W' v m.2 → Calls Tryz.prog 19 #[.agg #[.slice Aa x.1.length ca, .slice Ab x.2.length cb], .agg #[u, v]] W' fun e w' => e = .returned (.bool true) ∧ Below W'.heap.size W' w' := fun W' u v hb h1 h2 => by
        have := sameIndex_ok _ _ u v x m W' (hrows.out.1.ext hb) (hrows.out.2.ext hb) h1 h2
        rw [show (x == m) = true by rw [hx.out.1, hm]; exact beq_self_eq_true m] at this
        exact this
      have hSS : ∀ W', Below wo.heap.size wo W' → W'.cell? ⟨g3, 0, none⟩ = some (.slice Aa x.1.length ca) ∧ W'.cell? ⟨g3, 1, none⟩ = some (.slice Ab x.2.length cb) := fun W' hb => ⟨cell_ext hb x0, cell_ext hb x1⟩
      have HS := Lib.hid hSS; have Hmd := Lib.hid hmd; have Hsame := Lib.hid hsame
      have hS := HS.out _ (below_drewN' wo.heap.size wo 1)
      clear hSS hmd hsame hm x0 x1 x2 x3
      go_wp2_with fail
      refine wp_region_D (fun W => W.cell? ⟨g3, 0, none⟩ = some (.slice Aa x.1.length ca) ∧ W.cell? ⟨g3, 1, none⟩ = some (.slice Ab x.2.length cb)) (fun _ => false) (by kernel_rfl) ?_
      change anyD _ _ _ _ _ _ _ _ _ (wo.drewN 1)
      have hbV := below_drewN' wo.heap.size wo 1
      generalize wo.drewN 1 = V0 at hS hbV ⊢
      (refine anyD_light (i := 0) (v := ?_) rfl (by kernel_rfl) (by kernel_rfl) (by kernel_rfl) (by kernel_rfl) (by kernel_rfl) (fun _ _ _ h => h) (.inl ⟨by kernel_rfl, fun W9 hW9 => ?_⟩) hS ?_; rotate_left; · (obtain ⟨hw0, hw1⟩ := hW9; go_simp; rfl))
      (refine anyD_light (i := 1) (v := ?_) rfl (by kernel_rfl) (by kernel_rfl) (by kernel_rfl) (by kernel_rfl) (by kernel_rfl) (fun _ _ _ h => h) (.inl ⟨by kernel_rfl, fun W9 hW9 => ?_⟩) hS ?_; rotate_left; · (obtain ⟨hw0, hw1⟩ := hW9; go_simp; rfl))
      go_simp
      refine anyD_one (i := 2) (by kernel_rfl) rfl rfl (fun K hK => ?_)
      have HK := Lib.hid hK
      clear hK
      unfold Oper.wp
      go_simp
      refine ((Hmd.out V0 hbV)).mono ?_
      rintro e w8 ⟨a8, b8, rfl, m0, m1, hb8⟩
      obtain ⟨A8, c8, rfl, _, _⟩ := m0.form
      obtain ⟨A9, c9, rfl, _, _⟩ := m1.form
      have hb18 := hbV.trans (hb8.mono hbV.size)
      clear hS hb8
      have hS := HS.out _ hb18
      refine HK.out _ _ (fun _ => hS) ?_
      clear HK
      go_simp
      refine anyD_one (i := 3) (by kernel_rfl) rfl rfl (fun K hK => ?_)
      have HK := Lib.hid hK
      clear hK
      unfold Oper.wp
      go_simp
      refine ((Hsame.out w8 _ _ hb18 m0 m1)).mono ?_
      rintro e w9 ⟨rfl, hb9⟩
      have hb19 := hb18.trans (hb9.mono hb18.size)
      clear hS hb9 hb18 m0 m1
      have hS := HS.out _ hb19
      refine HK.out _ _ (fun _ => hS) ?_
      clear HK
      (refine anyD_light (i := 4) (v := ?_) rfl (by kernel_rfl) (by kernel_rfl) (by kernel_rfl) (by kernel_rfl) (by kernel_rfl) (fun _ _ _ h => h) (.inl ⟨by kernel_rfl, fun W9 hW9 => ?_⟩) hS ?_; rotate_left; · (obtain ⟨hw0, hw1⟩ := hW9; go_simp; rfl))
      go_simp
      refine anyD_done (by kernel_rfl) ?_ _
      have Hb := Lib.hid (hbw.out.trans (hb19.mono hbw.out.size))
      clear hb19 hS
      go_wp2
      go_ret
      exact ⟨rfl, Hb.out⟩
end Go.Proofs.YtngdfjlodblagaaGreatDoor
/-
  The walk of IndexOfTexts, as its row takes it.
-/
namespace Go.Proofs.YtngdfjlodblagaaGreatDoor
open Go.RowKit
theorem readsTexts : Reads Tryz.prog 48 (sliceC strC) (fun l => 1 + (l.map fun s => s.length + 1).sum) := reads_slice (reads_string Tryz.underlying9 (by kernel_rfl)) Tryz.underlying48 (by kernel_rfl)
end Go.Proofs.YtngdfjlodblagaaGreatDoor

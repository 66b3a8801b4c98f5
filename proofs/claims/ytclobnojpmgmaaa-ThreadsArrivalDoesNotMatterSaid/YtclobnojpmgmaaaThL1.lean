/-
  ThreadsMatchSpec: the law's walk.
-/
import Derived.Test.YtclobnojpmgmaaaThEx
import Derived.Test.YtclobnojpmgmaaaThShR
namespace Go.Proofs.Ytclobnojpmgmaaa
open Go.RowKit
set_option linter.unusedVariables false
theorem faultGo_zero2 (l : List Letter) : ∀ (f k : Nat), (Th.faultGo l f k).1 = 0 → Th.faultGo l f k = (0, 0)
  | 0, _, _ => rfl
  | f + 1, k, h => by
    rw [Th.faultGo] at h ⊢
    cases hk : l[k]? with
    | none => rfl
    | some x =>
      rw [hk] at h
      dsimp only at h ⊢
      split at h
      · rename_i h0
        rw [if_pos h0]
        exact faultGo_zero2 l f (k + 1) h
      · rename_i h0; exact absurd h h0
theorem lettersF_zero2 {l : List Letter} (h : (Th.lettersF l).1 = 0) : Th.lettersF l = (0, 0) := by
  unfold Th.lettersF at h ⊢
  split
  · rename_i h1; rw [if_pos h1] at h; cases h
  · rename_i h1; rw [if_neg h1] at h; exact faultGo_zero2 _ _ _ h
/-- what is answered: either a fault and nothing else, or none -/
theorem answers (l : List Letter) : (∃ g1 g2, g1 ≠ 0 ∧ Th.lettersF l = (g1, g2) ∧ parQ l = ([], g1, g2) ∧ ordQ l = ([], [], g1, g2)) ∨
    (Th.lettersF l = (0, 0) ∧ parQ l = (Th.parentsF l, 0, 0) ∧ ordQ l = ((Th.shownA l (-1) 0).map (fun x => (x.1 : Int)), (Th.shownA l (-1) 0).map (fun x => x.2), 0, 0)) := by
  by_cases h : (Th.lettersF l).1 = 0
  · refine .inr ⟨lettersF_zero2 h, ?_, ?_⟩
    · rw [parQ, if_neg (by simpa using h)]
    · rw [ordQ, if_neg (by simpa using h)]
  · refine .inl ⟨(Th.lettersF l).1, (Th.lettersF l).2, h, rfl, ?_, ?_⟩
    · rw [parQ, if_pos h]
    · rw [ordQ, if_pos h]
set_option maxRecDepth 100000 in
set_option maxHeartbeats 8000000 in
theorem tmatch_walk (v : Value) (l : List Letter) (w : World) (h : SlR letterC M0 w v l) :
    Calls Try.prog 3 #[v] w fun e w' => e = .returned (.bool true) ∧ Below w.heap.size w w' := by
  obtain ⟨A, c, rfl, _, _⟩ := h.form
  obtain ⟨P, O, D, g1, g2, hL, hP, hO, hQ⟩ : ∃ P O D g1 g2, Th.lettersF l = (g1, g2) ∧ parQ l = (P, g1, g2) ∧ ordQ l = (O, D, g1, g2) ∧ ((g1 ≠ 0 ∧ P = [] ∧ O = [] ∧ D = []) ∨ (g1 = 0 ∧ P = Th.parentsF l ∧ O = (Th.shownA l (-1) 0).map (fun x => (x.1 : Int)) ∧ D = (Th.shownA l (-1) 0).map (fun x => x.2))) := by
    rcases answers l with ⟨g1, g2, h1, h2, h3, h4⟩ | ⟨h2, h3, h4⟩
    · exact ⟨_, _, _, g1, g2, h2, h3, h4, .inl ⟨h1, rfl, rfl, rfl⟩⟩
    · exact ⟨_, _, _, 0, 0, h2, h3, h4, .inr ⟨rfl, rfl, rfl, rfl⟩⟩
  have hpar := fun W (hb : Below w.heap.size w W) => tparents_ok _ l W (h.ext hb)
  have hord := fun W (hb : Below w.heap.size w W) => torder_ok _ l W (h.ext hb)
  have href := fun W (hb : Below w.heap.size w W) => lettersFault_ok _ l W (h.ext hb)
  have hval := fun W (hb : Below w.heap.size w W) => tvalidate_ok _ l W (h.ext hb)
  rw [hP] at hpar
  rw [hO] at hord
  rw [hL] at href hval
  have Hpar := Lib.hid hpar; have Hord := Lib.hid hord; have Href := Lib.hid href; have Hval := Lib.hid hval; have HL := Lib.hid hL; have HQ := Lib.hid hQ
  clear hpar hord href hval hL hP hO hQ
  have hbw := Below.refl w.heap.size w
  have hcd := run_code g1 g2
  go_enter Try.func3, Try.ntmps3
  go_wp2_with fail
  refine (Hpar.out _ hbw).mono ?_
  rintro e w1 ⟨vp, rfl, hp, hq1⟩
  dsimp only
  obtain ⟨Ap, cp, rfl, _, _⟩ := hp.form
  have ha1 := (Below.refl w1.heap.size w1).alloc (Nat.le_refl _) (.cells #[.int .i64 g1, .int .i64 g2] 25)
  have hc1 := below2 hq1 ha1
  replace h := h.ext hc1
  replace hbw := hbw.trans (hc1.mono hbw.size)
  have k1 := Blk.new w1 25 #[.int .i64 g1, .int .i64 g2]
  clear hq1 hc1
  replace hp := hp.ext ha1
  go_wp2_with fail
  refine (Hord.out _ hbw).mono ?_
  rintro e w2 ⟨vo, vd, rfl, ho, hd, hq2⟩
  dsimp only
  obtain ⟨Ao, co, rfl, _, _⟩ := ho.form
  obtain ⟨Ad, cd, rfl, _, _⟩ := hd.form
  have ha2 := (Below.refl w2.heap.size w2).alloc (Nat.le_refl _) (.cells #[.int .i64 g1, .int .i64 g2] 25)
  have hc2 := below2 hq2 ha2
  replace h := h.ext hc2
  replace k1 := k1.ext hc2
  replace hp := hp.ext hc2
  replace hbw := hbw.trans (hc2.mono hbw.size)
  have k2 := Blk.new w2 25 #[.int .i64 g1, .int .i64 g2]
  clear hq2 hc2
  replace ho := ho.ext ha2
  replace hd := hd.ext ha2
  go_wp2_with fail
  refine (Href.out _ hbw).mono ?_
  rintro e w3 ⟨rfl, hq3⟩
  have ha3 := (Below.refl w3.heap.size w3).alloc (Nat.le_refl _) (.cells #[.int .i64 g1, .int .i64 g2] 25)
  have hc3 := below2 hq3 ha3
  replace h := h.ext hc3
  replace k1 := k1.ext hc3
  replace hp := hp.ext hc3
  replace k2 := k2.ext hc3
  replace ho := ho.ext hc3
  replace hd := hd.ext hc3
  replace hbw := hbw.trans (hc3.mono hbw.size)
  have k3 := Blk.new w3 25 #[.int .i64 g1, .int .i64 g2]
  clear hq3 hc3
  obtain ⟨W, hW⟩ : ∃ W, W = w3.alloc (.cells #[.int .i64 g1, .int .i64 g2] 25) := ⟨_, rfl⟩
  rw [← hW] at h hp ho hd k1 k2 k3 hbw
  have HW := Lib.hid hW
  clear hW ha1 ha2 ha3
  have hkeep : ∀ W', Below W.heap.size W W' → W'.cell? ⟨w1.heap.size, 0, none⟩ = some (.int .i64 g1) ∧ W'.cell? ⟨w1.heap.size, 1, none⟩ = some (.int .i64 g2) ∧ W'.cell? ⟨w2.heap.size, 0, none⟩ = some (.int .i64 g1) ∧ W'.cell? ⟨w2.heap.size, 1, none⟩ = some (.int .i64 g2) ∧ W'.cell? ⟨w3.heap.size, 0, none⟩ = some (.int .i64 g1) ∧ W'.cell? ⟨w3.heap.size, 1, none⟩ = some (.int .i64 g2) := fun W' h => ⟨(k1.ext h).two.1, (k1.ext h).two.2.1, (k2.ext h).two.1, (k2.ext h).two.2.1, (k3.ext h).two.1, (k3.ext h).two.2.1⟩
  have hS0 := hkeep _ (below_drewN' W.heap.size W 1)
  have HK := Lib.hid hkeep; have Hbw := Lib.hid hbw
  clear hkeep
  go_wp2_with fail
  rw [← HW.out]
  go_region_held3 (fun W' => W'.cell? ⟨w1.heap.size, 0, none⟩ = some (.int .i64 g1) ∧ W'.cell? ⟨w1.heap.size, 1, none⟩ = some (.int .i64 g2) ∧ W'.cell? ⟨w2.heap.size, 0, none⟩ = some (.int .i64 g1) ∧ W'.cell? ⟨w2.heap.size, 1, none⟩ = some (.int .i64 g2) ∧ W'.cell? ⟨w3.heap.size, 0, none⟩ = some (.int .i64 g1) ∧ W'.cell? ⟨w3.heap.size, 1, none⟩ = some (.int .i64 g2)) (first | exact hS0 | exact hS1 | exact hS2) (first
    | (go_at_call 10; refine (texample_ok _).mono ?_; rintro e w5 ⟨rfl, hb5⟩; have hb05 : Below W.heap.size W w5 := Below.trans (below_drewN' W.heap.size W 1) hb5; have hS1 := HK.out _ hb05)
    | (go_at_call 11; refine (Hval.out _ (Hbw.out.trans (hb05.mono Hbw.out.size))).mono ?_; rintro e w6 ⟨rfl, hb6⟩; have hb06 : Below W.heap.size W w6 := Below.trans hb05 (hb6.mono hb05.size); have hS2 := HK.out _ hb06))
  clear hS0 hS1 hS2
  replace h := h.ext hb06
  replace k1 := k1.ext hb06
  replace hp := hp.ext hb06
  replace k2 := k2.ext hb06
  replace ho := ho.ext hb06
  replace hd := hd.ext hb06
  replace k3 := k3.ext hb06
  replace hbw := hbw.trans (hb06.mono hbw.size)
  clear hb5 hb05 hb6 hb06 HW HK Hbw Hpar Hord Href Hval
  clear W w5
  obtain ⟨c30, c31, _, _, _⟩ := k3.two
  rcases HQ.out with ⟨hg, hP, hO, hD⟩ | ⟨hg, hP, hO, hD⟩
  · subst hP hO hD
    have hgb : (g1 != 0) = true := by simpa using hg
    clear hg HQ HL
    go_wp2
    go_ret
    exact ⟨rfl, hbw⟩
  · subst hg
    have hLc : (Th.lettersF l).1 = 0 := by rw [HL.out]
    have hn := short_of hLc
    have hd9 := distinct_of hLc
    have hPl : P.length = l.length := by rw [hP]; simp [Th.parentsF]
    have hpk : ∀ k (hk : k < P.length), P[k] = Th.parentOf l (l[k]'(by omega)) := fun k hk => by subst hP; simp [Th.parentsF]
    have hsl := shown_len hd9
    have HO := Lib.hid hO; have HD := Lib.hid hD; have HLc := Lib.hid hLc; have Hsl := Lib.hid hsl; have Hpk := Lib.hid hpk; have Hd9 := Lib.hid hd9
    clear hO hD hP HQ HL hLc hsl hpk hd9 hcd
    rw [hPl] at hp ⊢
    go_wp2
    go_loopw [9] (fun i wr => ∃ k : Nat, k ≤ l.length ∧ i = .int .i64 (k : Int) ∧ Below w6.heap.size w6 wr) (fun i _ => l.length - (intOf i).toNat)
    case atStart => exact ⟨0, Nat.zero_le _, rfl, Below.refl _ _⟩
    case round =>
      obtain ⟨k, hk, rfl, hbr⟩ := hrel
      have h := h.ext hbr
      have hp := hp.ext hbr
      have ho := ho.ext hbr
      have hd := hd.ext hbr
      have hbw := hbw.trans (hbr.mono hbw.size)
      by_cases hlt : k < l.length
      · obtain ⟨b, off, rfl, _, _, q0, _, _⟩ := hp.intAt (k := k) (by omega)
        have hpc := fun W (hb : Below wr.heap.size wr W) => refParent_ok _ l k W (h.ext hb) (by omega) hlt
        rw [refParent_eq HLc.out, ← Hpk.out k (by omega)] at hpc
        obtain ⟨q, hq⟩ : ∃ q, P[k] = q := ⟨_, rfl⟩
        rw [hq] at hpc q0
        have hil : (k : Int) < (l.length : Int) := by omega
        have hi0 : (0 : Int) ≤ (k : Int) := by omega
        have hiw : IntKind.i64.wrap (k : Int) = (k : Int) := IntWalk.i64_in _ (by omega)
        have hSS : ∀ W, Below wr.heap.size wr W → W.cell? ⟨b, off + k, none⟩ = some (.int .i64 q) := fun W hW => cell_ext hW q0
        have HS := Lib.hid hSS
        have hS0 := HS.out _ (below_drewN' wr.heap.size wr 1)
        have Hpc := Lib.hid hpc
        clear hSS hpc q0
        go_wp2_with fail
        go_region_held3 (fun W => W.cell? ⟨b, off + k, none⟩ = some (.int .i64 q)) (first | exact hS0 | exact hS2) ((go_at_call 12; refine (Hpc.out _ (below_drewN' wr.heap.size wr 1)).mono ?_; rintro e w8 ⟨rfl, hb8⟩; have hb08 : Below wr.heap.size wr w8 := Below.trans (below_drewN' wr.heap.size wr 1) hb8; have hS2 := HS.out _ hb08))
        clear hS0 hS2
        have hb68 := hbr.trans (hb08.mono hbr.size)
        clear hbr hb08 hb8 h hp ho hd hbw
        go_wp2
        go_roundw
        case rel => exact ⟨k + 1, by omega, by go_num, hb68⟩
        case measure => simp [intOf]; omega
      · obtain rfl : k = l.length := by omega
        have hrs := refShown_ok l HLc.out A c (l.length + 1) (-1) 0 wr (.inl ⟨by omega, by omega⟩) (by omega) (by omega) (by omega) (by rw [Hsl.out]; omega) h
        rw [← HO.out, ← HD.out] at hrs
        have Hrs := Lib.hid hrs
        clear hrs hbr hlt
        go_wp2_with fail
        refine Hrs.out.mono ?_
        rintro e w8 ⟨A1, c1, M1, A2, c2, M2, rfl, hM1, hM2, o1, o2, _, hb8⟩
        have e1 := hM1.out
        have e2 := hM2.out
        subst e1 e2
        have ho := ho.ext hb8
        have hd := hd.ext hb8
        have hbw := hbw.trans (hb8.mono hbw.size)
        have i1 := ints_ok _ _ M1 M1 w8 ho o1.read0
        rw [beq_self_eq_true] at i1
        have I1 := Lib.hid i1
        clear Hrs hb8 i1 h hp
        go_wp2_with fail
        refine I1.out.mono ?_
        rintro e w9 ⟨rfl, hb9⟩
        have i2 := ints_ok _ _ M2 M2 w9 (hd.ext hb9) (o2.read0.ext hb9)
        rw [beq_self_eq_true] at i2
        have I2 := Lib.hid i2
        have hbw := hbw.trans (hb9.mono hbw.size)
        clear I1 i2 hb9 ho hd o1 o2
        go_wp2_with fail
        refine I2.out.mono ?_
        rintro e w10 ⟨rfl, hb10⟩
        have hbw := hbw.trans (hb10.mono hbw.size)
        clear I2 hb10
        go_wp2
        go_ret
        exact ⟨rfl, hbw⟩
end Go.Proofs.Ytclobnojpmgmaaa

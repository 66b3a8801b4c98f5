/-
  RightsMatchSpec: its walk.
-/
import Derived.Test.YtopldghfphgjoaaRgEx
import Derived.Test.YtopldghfphgjoaaRgLP
import Derived.Deep.CutBlock
import Derived.Deep.DeepCutAuto
namespace Go.Proofs.Ytopldghfphgjoaa
open Go.RowKit

set_option maxRecDepth 100000 in
set_option maxHeartbeats 8000000 in
theorem rmatch_walk (v0 v1 : Value) (gs : List Group) (l : List Grant) (user : Str) (x : Grant) (w : World) (h0 : SlR groupC M0 w v0 gs) (h1 : SlR grantC M0 w v1 l) (hu : user.length ≤ maxLen) (hx1 : x.1.length ≤ maxLen) (hx2 : -9223372036854775808 ≤ x.2.2) (hx3 : x.2.2 ≤ 9223372036854775807) :
    Calls Try.prog 7 #[v0, v1, .string (bs user), gv x] w fun e w' => e = .returned (.bool true) ∧ Below w.heap.size w w' := by
  obtain ⟨A0, c0, rfl, _, _⟩ := h0.form
  obtain ⟨A1, c1, rfl, _, _⟩ := h1.form
  obtain ⟨xs, xn, xr⟩ := x
  dsimp only at hx1 hx2 hx3
  obtain ⟨⟨on, o1, o2⟩, hO⟩ : ∃ r, ofR gs l user = r := ⟨_, rfl⟩
  obtain ⟨⟨sl, s1, s2⟩, hS⟩ : ∃ r, setR l (xs, xn, xr) = r := ⟨_, rfl⟩
  obtain ⟨⟨a1, a2⟩, hGa⟩ : ∃ r, groupsF gs = r := ⟨_, rfl⟩
  obtain ⟨⟨b1, b2⟩, hGb⟩ : ∃ r, grantsF l = r := ⟨_, rfl⟩
  have kx := Blk.new w 47 #[.string (bs xs), .bool xn, .int .i64 xr]
  have bx := (Below.refl w.heap.size w).alloc (Nat.le_refl _) (.cells #[.string (bs xs), .bool xn, .int .i64 xr] 47)
  have hof := of_ok _ _ gs l user _ (h0.ext bx) (h1.ext bx) hu
  rw [hO] at hof
  have HO := Lib.hid hO; have HS := Lib.hid hS; have Ha := Lib.hid hGa; have Hb := Lib.hid hGb; have H0 := Lib.hid h0; have H1 := Lib.hid h1
  clear hO hS hGa hGb h0 h1
  unfold gv
  dsimp only
  go_enter Try.func7, Try.ntmps7
  go_wp2_with fail
  refine hof.mono ?_
  rintro e w1 ⟨rfl, hb1⟩
  have k1 := Blk.new w1 24 #[.int .i64 o1, .int .i64 o2]
  have kx1 := kx.ext hb1
  have hbx1 := bx.trans (hb1.mono bx.size)
  have bo1 := (Below.refl w1.heap.size w1).alloc (Nat.le_refl _) (.cells #[.int .i64 o1, .int .i64 o2] 24)
  have kx2 := kx1.ext bo1
  have hbx2 := hbx1.trans (bo1.mono hbx1.size)
  clear hof kx bx hb1 kx1 bo1
  obtain ⟨x0, x1, x2, _, _, _, xb⟩ := kx2.three
  have hset := set_ok _ l (xs, xn, xr) _ (H1.out.ext hbx2) hx1 hx2 hx3
  rw [HS.out] at hset
  go_wp2_with fail
  refine hset.mono ?_
  rintro e w2 ⟨v2, rfl, hr2, hb2⟩
  obtain ⟨A2, c2, rfl, _, _⟩ := hr2.form
  have k1b := k1.ext hb2
  have kx3 := kx2.ext hb2
  have hbx3 := hbx2.trans (hb2.mono hbx2.size)
  have k2 := Blk.new w2 24 #[.int .i64 s1, .int .i64 s2]
  have bo2 := (Below.refl w2.heap.size w2).alloc (Nat.le_refl _) (.cells #[.int .i64 s1, .int .i64 s2] 24)
  have kx4 := kx3.ext bo2
  have hbx4 := hbx3.trans (bo2.mono hbx3.size)
  have k1c := k1b.ext bo2
  have hr3 := hr2.ext bo2
  have hg := groupsFault_ok _ gs _ (H0.out.ext hbx4)
  rw [Ha.out] at hg
  clear hset k1 kx2 hbx2 hbx1 hb2 k1b kx3 hbx3 bo2 hr2 x0 x1 x2 xb
  go_wp2_with fail
  refine hg.mono ?_
  rintro e w3 ⟨rfl, hb3⟩
  have k1d := k1c.ext hb3
  have k2b := k2.ext hb3
  have kx5 := kx4.ext hb3
  have hr4 := hr3.ext hb3
  have hbx5 := hbx4.trans (hb3.mono hbx4.size)
  have k3 := Blk.new w3 24 #[.int .i64 a1, .int .i64 a2]
  have bo3 := (Below.refl w3.heap.size w3).alloc (Nat.le_refl _) (.cells #[.int .i64 a1, .int .i64 a2] 24)
  have kx6 := kx5.ext bo3
  have hbx6 := hbx5.trans (bo3.mono hbx5.size)
  have k1e := k1d.ext bo3
  have k2c := k2b.ext bo3
  have hr5 := hr4.ext bo3
  have hg := grantsFault_ok _ l _ (H1.out.ext hbx6)
  rw [Hb.out] at hg
  clear k1c k2 kx4 hr3 hbx4 hb3 k1d k2b kx5 hr4 hbx5 bo3
  go_wp2_with fail
  refine hg.mono ?_
  rintro e w4 ⟨rfl, hb4⟩
  have k1f := k1e.ext hb4
  have k2d := k2c.ext hb4
  have k3b := k3.ext hb4
  have kx7 := kx6.ext hb4
  have hr6 := hr5.ext hb4
  have hbx7 := hbx6.trans (hb4.mono hbx6.size)
  have k4 := Blk.new w4 24 #[.int .i64 b1, .int .i64 b2]
  have bo4 := (Below.refl w4.heap.size w4).alloc (Nat.le_refl _) (.cells #[.int .i64 b1, .int .i64 b2] 24)
  have kx8 := kx7.ext bo4
  have hbx8 := hbx7.trans (bo4.mono hbx7.size)
  have k1g := k1f.ext bo4
  have k2e := k2d.ext bo4
  have k3c := k3b.ext bo4
  have hr7 := hr6.ext bo4
  clear k1e k2c k3 kx6 hr5 hbx6 hb4 k1f k2d k3b kx7 hr6 hbx7 bo4 hg
  obtain ⟨W, hW⟩ : ∃ W, W = w4.alloc (.cells #[.int .i64 b1, .int .i64 b2] 24) := ⟨_, rfl⟩
  rw [← hW] at k4 kx8 hbx8 k1g k2e k3c hr7
  have HW := Lib.hid hW
  clear hW
  have hkeep : ∀ W', Below W.heap.size W W' → W'.cell? ⟨w3.heap.size, 0, none⟩ = some (.int .i64 a1) ∧ W'.cell? ⟨w3.heap.size, 1, none⟩ = some (.int .i64 a2) ∧ W'.cell? ⟨w4.heap.size, 0, none⟩ = some (.int .i64 b1) ∧ W'.cell? ⟨w4.heap.size, 1, none⟩ = some (.int .i64 b2) := fun W' h =>
    ⟨(k3c.ext h).two.1, (k3c.ext h).two.2.1, (k4.ext h).two.1, (k4.ext h).two.2.1⟩
  have hS0 := hkeep _ (below_drewN' W.heap.size W 1)
  have hgr := fun W' (h : Below W.heap.size W W') => groups_ok _ gs W' (H0.out.ext (hbx8.trans (h.mono hbx8.size)))
  have hgt := fun W' (h : Below W.heap.size W W') => grants_ok _ l W' (H1.out.ext (hbx8.trans (h.mono hbx8.size)))
  rw [Ha.out] at hgr
  rw [Hb.out] at hgt
  have HK := Lib.hid hkeep; have HR := Lib.hid hgr; have HT := Lib.hid hgt
  clear hkeep hgr hgt
  go_wp2_with fail
  rw [← HW.out]
  go_region_held3 (fun W' => W'.cell? ⟨w3.heap.size, 0, none⟩ = some (.int .i64 a1) ∧ W'.cell? ⟨w3.heap.size, 1, none⟩ = some (.int .i64 a2) ∧ W'.cell? ⟨w4.heap.size, 0, none⟩ = some (.int .i64 b1) ∧ W'.cell? ⟨w4.heap.size, 1, none⟩ = some (.int .i64 b2)) (first | exact hS0 | exact hS1 | exact hS2 | exact hS3) (first
    | (go_at_call 28; refine (rexample_ok _).mono ?_; rintro e w5 ⟨rfl, hb5⟩; have hb05 : Below W.heap.size W w5 := Below.trans (below_drewN' W.heap.size W 1) hb5; have hS1 := HK.out _ hb05)
    | (go_at_call 29; refine (HR.out _ hb05).mono ?_; rintro e w6 ⟨rfl, hb6⟩; have hb06 : Below W.heap.size W w6 := Below.trans hb05 (hb6.mono hb05.size); have hS2 := HK.out _ hb06)
    | (go_at_call 30; refine (HT.out _ hb06).mono ?_; rintro e w7 ⟨rfl, hb7⟩; have hb07 : Below W.heap.size W w7 := Below.trans hb06 (hb7.mono hb06.size); have hS3 := HK.out _ hb07))
  clear hS0 hS1 hS2 hS3 hg
  replace hr7 := hr7.ext hb07
  replace k1g := k1g.ext hb07
  replace k2e := k2e.ext hb07
  replace k3c := k3c.ext hb07
  replace k4 := k4.ext hb07
  replace kx8 := kx8.ext hb07
  replace hbx8 := hbx8.trans (hb07.mono hbx8.size)
  clear hb5 hb05 hb6 hb06 hb7 hb07 HW HK HR HT
  clear W w5 w6
  obtain ⟨⟨f1, f2⟩, hf⟩ : ∃ r, (if a1 = 0 then (b1, b2) else (a1, a2)) = r := ⟨_, rfl⟩
  have Hf := Lib.hid hf
  clear hf
  obtain ⟨p0, p1, _, _, pb⟩ := k3c.two
  obtain ⟨q0, q1, _, _, qb⟩ := k4.two
  go_upto_if 53 with fail
  go_cut [] (fun wc => Below w7.heap.size w7 wc ∧ Blk wc w7.heap.size 24 #[.int .i64 f1, .int .i64 f2])
  case first =>
    by_cases ha : a1 = 0
    · subst ha
      go_wp2_with fail
      go_meet
      case rel =>
        have e := Hf.out
        simp only [if_true, Prod.mk.injEq] at e
        obtain ⟨rfl, rfl⟩ := e
        exact ⟨(Below.refl _ _).alloc (Nat.le_refl _) _, Blk.new _ _ _⟩
    · have hab : (a1 == 0) = false := by simpa using ha
      have Hn := Lib.hid ha
      clear ha
      go_wp2_with fail
      go_meet
      case rel =>
        have e := Hf.out
        rw [if_neg Hn.out] at e
        injection e with e1 e2
        subst e1 e2
        exact ⟨(Below.refl _ _).alloc (Nat.le_refl _) _, Blk.new _ _ _⟩
  case rest =>
  obtain ⟨hb8, kf⟩ := hcut
  have hsz8 := hb8.size
  clear p0 p1 pb q0 q1 qb
  obtain ⟨⟨g1, g2⟩, hg⟩ : ∃ r, (if f1 = 0 ∧ userF user = false then (10, -3) else (f1, f2)) = r := ⟨_, rfl⟩
  have Hg := Lib.hid hg
  clear hg
  obtain ⟨p0, p1, z0, z1, pb⟩ := kf.two
  obtain ⟨ut, hut⟩ : ∃ t, userF user = t := ⟨_, rfl⟩
  have hus := user_ok user hu wc
  rw [hut] at hus
  have Hut := Lib.hid hut
  clear hut
  go_upto_region 10 with fail
  go_cut [62] (fun v wc2 => wc = wc2 ∧ v = .bool (decide (f1 = 0) && !ut))
  case first =>
    by_cases ha : f1 = 0
    · subst ha
      go_wp2_with (go_at_call 31; refine hus.mono ?_; rintro e w' ⟨rfl, rfl⟩)
      go_meet
      case rel => exact ⟨rfl, by simp⟩
    · have hab : (f1 == 0) = false := by simpa using ha
      have Hn := Lib.hid ha
      clear ha
      go_wp2_with fail
      go_meet
      case rel => exact ⟨rfl, by simp [Hn.out]⟩
  case rest =>
  obtain ⟨rfl, rfl⟩ := hcut
  obtain ⟨tb, htb⟩ : ∃ t, (decide (f1 = 0) && !ut) = t := ⟨_, rfl⟩
  rw [htb]
  have Htb := Lib.hid htb
  clear htb
  go_upto_if 62 with fail
  go_cut [] (fun wc2 => Below w7.heap.size wc wc2 ∧ Blk wc2 w7.heap.size 24 #[.int .i64 g1, .int .i64 g2])
  case first =>
    cases tb with
    | true =>
      go_wp2_with fail
      refine (at_ok _ _ _).mono ?_
      rintro e w8 ⟨rfl, hb8⟩
      have k8 := kf.ext hb8
      obtain ⟨c0, c1, z0, z1, s1⟩ := k8.two
      go_wp2_with fail
      go_meet
      case rel =>
        have e := Hg.out
        have ht := Htb.out
        simp only [Bool.and_eq_true, decide_eq_true_eq, Bool.not_eq_true'] at ht
        rw [if_pos ⟨ht.1, Hut.out.trans ht.2⟩] at e
        injection e with e1 e2
        subst e1 e2
        refine ⟨below_set2 (hb8.mono (by omega)) (Nat.le_refl _) _ _, ?_⟩
        simpa using (k8.set_ 0 (.int .i64 10)).set_ 1 (.int .i64 (-3))
    | false =>
      go_wp2_with fail
      go_meet
      case rel =>
        have e := Hg.out
        have ht := Htb.out
        rw [if_neg (by
          rintro ⟨h1, h2⟩
          rw [← Hut.out, h1, h2] at ht
          simp at ht)] at e
        injection e with e1 e2
        subst e1 e2
        exact ⟨Below.refl _ _, kf⟩
  case rest =>
  obtain ⟨hb9, kg⟩ := hcut
  replace hb9 := hb8.trans hb9
  clear hb8 kf hus p0 p1 z0 z1 pb
  obtain ⟨e1, e2, e3, e4⟩ := of_parts HO.out Ha.out Hb.out Hf.out Hg.out
  have HO1 := Lib.hid e1; have HO2 := Lib.hid e2; have HO3 := Lib.hid e3; have HO4 := Lib.hid e4
  clear e1 e2 e3 e4 Hf Hg Htb Hut
  obtain ⟨p0, p1, _, _, pb⟩ := kg.two
  go_upto_if 66 with fail
  go_cut [16] (fun v wc3 => wc = wc3 ∧ v = .int .i64 on)
  case first =>
    by_cases hg : g1 = 0
    · subst hg
      obtain ⟨q1, q2, q3⟩ := HO4.out rfl
      have hrt := rightsOf_ok _ _ gs l user wc (H0.out.ext (hbx8.trans (hb9.mono hbx8.size))) (H1.out.ext (hbx8.trans (hb9.mono hbx8.size))) (fun g hg => by have := ((groups_user q2).2 g hg).2.1; omega) (small64_of q3)
      rw [← q1] at hrt
      clear q1 q2 q3
      go_wp2_with fail
      refine hrt.mono ?_
      rintro e w' ⟨rfl, rfl⟩
      go_wp2_with fail
      go_meet
      case rel => exact ⟨rfl, rfl⟩
    · have hgb : (g1 == 0) = false := by simpa using hg
      have Hn := Lib.hid hg
      clear hg
      go_wp2_with fail
      go_meet
      case rel => exact ⟨rfl, by rw [HO3.out Hn.out]⟩
  case rest =>
  obtain ⟨rfl, rfl⟩ := hcut
  have hg1 := HO1.out
  have hg2 := HO2.out
  subst hg1 hg2
  obtain ⟨q0, q1, _, _, qb⟩ := (k1g.ext hb9).two
  clear HO HO1 HO2 HO3 HO4
  go_upto_region 15 with fail
  go_upto_if 78 with fail
  go_upto_region 17 with fail
  clear p0 p1 pb q0 q1 qb kg
  have hb9s := hb9.size
  obtain ⟨q0, q1, _, _, qb⟩ := (k4.ext hb9).two
  obtain ⟨⟨h1, h2⟩, hh1⟩ : ∃ r, (if b1 = 0 ∧ whoF xs = false then (10, -3) else (b1, b2)) = r := ⟨_, rfl⟩
  obtain ⟨⟨i1, i2⟩, hi1⟩ : ∃ r, (if h1 = 0 ∧ ¬ (0 ≤ xr ∧ xr ≤ 63) then (3, -3) else (h1, h2)) = r := ⟨_, rfl⟩
  obtain ⟨e1, e2⟩ := set_parts HS.out Hb.out hh1 hi1
  have HP1 := Lib.hid e1; have HP2 := Lib.hid e2; have Hh := Lib.hid hh1; have Hi := Lib.hid hi1
  clear e1 e2 hh1 hi1
  have kf := Blk.new wc 24 #[.int .i64 b1, .int .i64 b2]
  have bA := (Below.refl wc.heap.size wc).alloc (Nat.le_refl _) (.cells #[.int .i64 b1, .int .i64 b2] 24)
  obtain ⟨wd, hwd⟩ : ∃ wd, wd = wc.alloc (.cells #[.int .i64 b1, .int .i64 b2] 24) := ⟨_, rfl⟩
  rw [← hwd] at kf bA
  have hbd := hb9.trans (bA.mono hb9.size)
  obtain ⟨D, hD⟩ : ∃ D, D = wc.heap.size := ⟨_, rfl⟩
  have hDlt : w7.heap.size ≤ D := hD ▸ hb9.size
  have hDd : D < wd.heap.size := by rw [hD]; exact kf.lt
  rw [← hD] at kf bA
  have hDw : Below w7.heap.size w7 wd := hbd
  obtain ⟨wt, hwt⟩ : ∃ t, whoF xs = t := ⟨_, rfl⟩
  have hwho := Who_ok xs hx1 wd
  rw [hwt] at hwho
  have Hwt := Lib.hid hwt
  clear hwt
  obtain ⟨p0, p1, z0, z1, pb⟩ := kf.two
  obtain ⟨x0, x1, x2, _, _, _, xb⟩ := (kx8.ext hbd).three
  have HD := Lib.hid hD; have Hwd := Lib.hid hwd
  clear hD hwd
  go_upto_region 18 with fail
  rw [← Hwd.out, ← HD.out]
  go_cut [88] (fun v wc2 => wd = wc2 ∧ v = .bool (decide (b1 = 0) && !wt))
  case first =>
    by_cases ha : b1 = 0
    · subst ha
      go_wp2_with (go_at_call 33; refine hwho.mono ?_; rintro e w' ⟨rfl, rfl⟩)
      go_meet
      case rel => exact ⟨rfl, by simp⟩
    · have hab : (b1 == 0) = false := by simpa using ha
      have Hn := Lib.hid ha
      clear ha
      go_wp2_with fail
      go_meet
      case rel => exact ⟨rfl, by simp [Hn.out]⟩
  case rest =>
  obtain ⟨rfl, rfl⟩ := hcut
  obtain ⟨tb, htb⟩ : ∃ t, (decide (b1 = 0) && !wt) = t := ⟨_, rfl⟩
  rw [htb]
  have Htb := Lib.hid htb
  clear htb hwho
  go_upto_if 88 with fail
  go_cut [] (fun wc2 => Below D wd wc2 ∧ Blk wc2 D 24 #[.int .i64 h1, .int .i64 h2])
  case first =>
    cases tb with
    | true =>
      go_wp2_with fail
      refine (at_ok _ _ _).mono ?_
      rintro e w8 ⟨rfl, hb8⟩
      have k8 := kf.ext hb8
      obtain ⟨c0, c1, z0, z1, s1⟩ := k8.two
      go_wp2_with fail
      go_meet
      case rel =>
        have e := Hh.out
        have ht := Htb.out
        simp only [Bool.and_eq_true, decide_eq_true_eq, Bool.not_eq_true'] at ht
        rw [if_pos ⟨ht.1, Hwt.out.trans ht.2⟩] at e
        injection e with e1 e2
        subst e1 e2
        refine ⟨below_set2 (hb8.mono (by omega)) (Nat.le_refl _) _ _, ?_⟩
        simpa using (k8.set_ 0 (.int .i64 10)).set_ 1 (.int .i64 (-3))
    | false =>
      go_wp2_with fail
      go_meet
      case rel =>
        have e := Hh.out
        have ht := Htb.out
        rw [if_neg (by
          rintro ⟨h1, h2⟩
          rw [← Hwt.out, h1, h2] at ht
          simp at ht)] at e
        injection e with e1 e2
        subst e1 e2
        exact ⟨Below.refl _ _, kf⟩
  case rest =>
  obtain ⟨hbe, kh⟩ := hcut
  have hbE := hbd.trans (hbe.mono hDlt)
  clear kf p0 p1 z0 z1 pb x0 x1 x2 xb hDw
  clear hbd hbe bA hDd Hwd HD
  obtain ⟨p0, p1, z0, z1, pb⟩ := kh.two
  obtain ⟨x0, x1, x2, _, _, _, xb⟩ := (kx8.ext hbE).three
  obtain ⟨it, hit⟩ : ∃ t, (decide (0 ≤ xr) && decide (xr ≤ 63)) = t := ⟨_, rfl⟩
  have hin := in_ok xr 0 63 wc
  rw [hit] at hin
  have Hit := Lib.hid hit
  clear hit
  go_upto_region 20 with fail
  go_cut [98] (fun v wc2 => wc = wc2 ∧ v = .bool (decide (h1 = 0) && !it))
  case first =>
    by_cases ha : h1 = 0
    · subst ha
      go_wp2_with (go_at_call 23; refine hin.mono ?_; rintro e w' ⟨rfl, rfl⟩)
      go_meet
      case rel => exact ⟨rfl, by simp⟩
    · have hab : (h1 == 0) = false := by simpa using ha
      have Hn := Lib.hid ha
      clear ha
      go_wp2_with fail
      go_meet
      case rel => exact ⟨rfl, by simp [Hn.out]⟩
  case rest =>
  obtain ⟨rfl, rfl⟩ := hcut
  obtain ⟨tb, htb⟩ : ∃ t, (decide (h1 = 0) && !it) = t := ⟨_, rfl⟩
  rw [htb]
  have Htb := Lib.hid htb
  clear htb hin
  go_upto_if 98 with fail
  go_cut [] (fun wc2 => Below D wc wc2 ∧ Blk wc2 D 24 #[.int .i64 i1, .int .i64 i2])
  case first =>
    cases tb with
    | true =>
      go_wp2_with fail
      refine (at_ok _ _ _).mono ?_
      rintro e w8 ⟨rfl, hb8⟩
      have k8 := kh.ext hb8
      obtain ⟨c0, c1, z0, z1, s1⟩ := k8.two
      go_wp2_with fail
      go_meet
      case rel =>
        have e := Hi.out
        have ht := Htb.out
        simp only [Bool.and_eq_true, decide_eq_true_eq, Bool.not_eq_true'] at ht
        rw [if_pos ⟨ht.1, fun hq => by
          have h3 := Hit.out
          rw [ht.2, decide_eq_true hq.1, decide_eq_true hq.2] at h3
          cases h3⟩] at e
        injection e with e1 e2
        subst e1 e2
        refine ⟨below_set2 (hb8.mono (by omega)) (Nat.le_refl _) _ _, ?_⟩
        simpa using (k8.set_ 0 (.int .i64 3)).set_ 1 (.int .i64 (-3))
    | false =>
      go_wp2_with fail
      go_meet
      case rel =>
        have e := Hi.out
        have ht := Htb.out
        rw [if_neg (by
          rintro ⟨h1, h2⟩
          rw [h1] at ht
          simp only [decide_true, Bool.true_and, Bool.not_eq_false'] at ht
          have h3 := Hit.out
          rw [ht, Bool.and_eq_true, decide_eq_true_eq, decide_eq_true_eq] at h3
          exact h2 h3)] at e
        injection e with e1 e2
        subst e1 e2
        exact ⟨Below.refl _ _, kh⟩
  case rest =>
  obtain ⟨hbe, ki⟩ := hcut
  replace hbE := hbE.trans (hbe.mono hDlt)
  clear kh p0 p1 z0 z1 pb x0 x1 x2 xb hbe
  obtain ⟨p0, p1, z0, z1, pb⟩ := ki.two
  obtain ⟨x0, x1, x2, _, _, _, xb⟩ := (kx8.ext hbE).three
  go_upto_if 102 with fail
  go_cut [18] (fun v wc2 => Below D wc wc2 ∧ Blk wc2 D 24 #[.int .i64 s1, .int .i64 s2] ∧ SlR grantC M0 wc2 v sl)
  case first =>
    by_cases hi : i1 = 0
    · subst hi
      obtain ⟨q1, q2⟩ := HP2.out rfl
      have Hq := Lib.hid q2
      have hln := (grants_small q1).1
      have hgr := granted_ok l (xs, xn, xr) _ wc (H1.out.ext (hbx8.trans (hbE.mono hbx8.size))) (by omega) hx1 hx2 hx3
      clear q1 q2
      obtain ⟨G, hG⟩ : ∃ G, grantedF l (xs, xn, xr) = G := ⟨_, rfl⟩
      rw [hG] at hgr
      have HG := Lib.hid hG
      clear hG
      go_wp2_with fail
      refine hgr.mono ?_
      rintro e w8 ⟨v8, rfl, hr8, hb8⟩
      obtain ⟨A8, c8, rfl, _, _⟩ := hr8.form
      clear hgr
      have k8 := ki.ext hb8
      by_cases h60 : 60 < G.length
      · go_wp2_with fail
        refine (at_ok _ _ _).mono ?_
        rintro e w9 ⟨rfl, hb9'⟩
        have k9 := k8.ext hb9'
        obtain ⟨c0, c1, z0, z1, s1⟩ := k9.two
        go_wp2_with fail
        go_meet
        case rel =>
          have e := Hq.out
          rw [HG.out, if_pos h60] at e
          injection e with e1 e2
          injection e2 with e2 e3
          subst e1 e2 e3
          refine ⟨below_set2 ((below2 hb8 hb9').mono (by omega)) (Nat.le_refl _) _ _, ?_, SlR.nil _ _ _⟩
          simpa using (k9.set_ 0 (.int .i64 2)).set_ 1 (.int .i64 (-2))
      · go_wp2_with fail
        go_meet
        case rel =>
          have e := Hq.out
          rw [HG.out, if_neg h60] at e
          injection e with e1 e2
          injection e2 with e2 e3
          subst e1 e2 e3
          exact ⟨hb8.mono (by omega), k8, hr8⟩
    · have hib : (i1 == 0) = false := by simpa using hi
      obtain ⟨rfl, rfl, rfl⟩ := HP1.out hi
      clear hi
      go_wp2_with fail
      go_meet
      case rel => exact ⟨Below.refl _ _, ki, SlR.nil _ _ _⟩
  case rest =>
  obtain ⟨hbe, kj, hrj⟩ := hcut
  replace hbE := hbE.trans (hbe.mono hDlt)
  obtain ⟨A9, c9, rfl, _, _⟩ := hrj.form
  clear ki p0 p1 z0 z1 pb x0 x1 x2 xb hbe
  obtain ⟨p0, p1, _, _, pb⟩ := kj.two
  obtain ⟨r0, r1, _, _, rb⟩ := (k2e.ext hbE).two
  have hsm := sameGrants_ok _ _ sl sl wc (hr7.ext hbE) hrj
  rw [beq_self_eq_true] at hsm
  go_wp2_with fail
  refine hsm.mono ?_
  rintro e w9 ⟨rfl, hb9'⟩
  go_wp2
  go_ret
  exact ⟨rfl, (hbx8.trans (hbE.mono hbx8.size)).trans (hb9'.mono (by have := hbE.size; have := hbx8.size; omega))⟩
end Go.Proofs.Ytopldghfphgjoaa

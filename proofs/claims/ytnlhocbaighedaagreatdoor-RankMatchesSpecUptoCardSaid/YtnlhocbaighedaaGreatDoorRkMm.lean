/-
  slices.symMergeCmpFunc on ints: the function.
-/
import Derived.Test.YtnlhocbaighedaaGreatDoorRkMg
import Derived.StillTailTactics
import Derived.Deep.CutRange
namespace Go.Proofs.YtnlhocbaighedaaGreatDoor
open Go.RowKit
set_option linter.unusedVariables false
/-- what a symmetric merge of two parts does -/
def SymAt (w0 : World) (g c gx gl N : Nat) (cf : Int → Int → Int) (k : Int → Int) (U V : List Int) : Prop :=
 ∀ (P R : List Int) (a m b : Nat) (w : World), (P ++ U ++ V ++ R).length = N → P.length = a → a + U.length = m → m + V.length = b → w0.grownBy w (some g) → RowI g (P ++ U ++ V ++ R) w →
  Calls Tryz.prog 71 #[.slice (some ⟨g, 0, none⟩) N c, .int .i64 a, .int .i64 m, .int .i64 b, .func (.func 26) #[] #[.pointer (some ⟨gx, 0, none⟩), .pointer (some ⟨gl, 0, none⟩)]] w fun e w' => e = .returned (.tuple #[]) ∧ w0.grownBy w' (some g) ∧ ∃ M, Rk.SS k (U ++ V) M ∧ RowI g (P ++ M ++ R) w'
theorem SymAt.nil {w0 : World} {g c gx gl N : Nat} {cf : Int → Int → Int} {k : Int → Int} {U V : List Int} (hU : Rk.Up k U) (hV : Rk.Up k V) (h : U = [] ∨ V = []) : Rk.SS k (U ++ V) (U ++ V) := by
 rcases h with rfl | rfl
 ·exact Rk.SS.self hV
 ·rw [List.append_nil]; exact Rk.SS.self hU
set_option maxRecDepth 100000 in
set_option maxHeartbeats 8000000 in
theorem symMid_ok (w0 : World) (g c gx gl N : Nat) (cf : Int → Int → Int) (k : Int → Int) (hk : ∀ i j, cf i j < 0 ↔ k i < k j) (hcmp : CmpAt w0 g gx gl cf) (hln : N ≤ 1000000) (U V : List Int) (hU : Rk.Up k U) (hV : Rk.Up k V) (hU1 : 1 < U.length) (hV1 : 1 < V.length)
  (ih : ∀ U' V', U'.length + V'.length < U.length + V.length → 0 < U'.length → 0 < V'.length → Rk.Up k U' → Rk.Up k V' → SymAt w0 g c gx gl N cf k U' V') : SymAt w0 g c gx gl N cf k U V := by
 intro P R a m b w hN ha hm hb hf hr
 obtain ⟨L, hL⟩ : ∃ L, P ++ U ++ V ++ R = L := ⟨_, rfl⟩
 rw [hL] at hN hr
 have hbN : b ≤ N := by
  rw [← hN, ← hL]
  simp only [List.length_append]
  omega
 obtain ⟨d, hd⟩ : ∃ d, (a + b) / 2 = d := ⟨_, rfl⟩
 obtain ⟨n, hn⟩ : ∃ n, d + m = n := ⟨_, rfl⟩
 obtain ⟨Lo, hLo⟩ : ∃ lo, (if d < m then n - b else a) = lo := ⟨_, rfl⟩
 obtain ⟨Hi, hHi⟩ : ∃ hi, (if d < m then d else m) = hi := ⟨_, rfl⟩
 have hdab : a < d ∧ d < b ∧ d ≤ N := by omega
 have hari : a ≤ Lo ∧ Lo ≤ Hi ∧ Hi ≤ m ∧ (Lo = a ∨ n - Lo = b) ∧ (Hi = m ∨ n - Hi = m) ∧ m ≤ n - Hi ∧ n - Lo ≤ b ∧ Hi ≤ n ∧ Hi ≤ d := by
  by_cases h : d < m
  ·rw [if_pos h] at hLo hHi; omega
  ·rw [if_neg h] at hLo hHi; omega
 have hmonoU : ∀ x y, a ≤ x → x ≤ y → y < m → k (L.getD x 0) ≤ k (L.getD y 0) := fun x y h1 h2 h3 => by
  rw [← hL]
  have := Rk.up_at (A := P) (R := V ++ R) hU (c := x) (c' := y) (by omega) h2 (by omega)
  simpa using this
 have hmonoV : ∀ x y, m ≤ x → x ≤ y → y < b → k (L.getD x 0) ≤ k (L.getD y 0) := fun x y h1 h2 h3 => by
  rw [← hL]
  have hl : (P ++ U).length = m := by simp; omega
  exact Rk.up_at hV (by omega) h2 (by omega)
 have hsplit := fun st h2 h3 => Rk.mid_split (k := k) (P := P) (R := R) hU hV (a := a) (m := m) (b := b) (n := n) (lo := Lo) (hi := Hi) (st := st) ha hm hb hari.1 h2 h3 hari.2.2.1 hari.2.2.2.1 hari.2.2.2.2.1 (.inl hari.2.2.2.2.2.1) hari.2.2.2.2.2.2.1 hari.2.2.2.2.2.2.2.1
 rw [hL] at hsplit
 have hma : IntKind.i64.wrap ((m : Int) - (a : Int)) = ((m - a : Nat) : Int) := by rw [show (m : Int) - (a : Int) = ((m - a : Nat) : Int) by omega]; exact IntWalk.i64_in _ (by omega)
 have hma1 : (((m - a : Nat) : Int) == 1) = false := by rw [beq_eq_false_iff_ne]; omega
 have hbm : IntKind.i64.wrap ((b : Int) - (m : Int)) = ((b - m : Nat) : Int) := by rw [show (b : Int) - (m : Int) = ((b - m : Nat) : Int) by omega]; exact IntWalk.i64_in _ (by omega)
 have hbm1 : (((b - m : Nat) : Int) == 1) = false := by rw [beq_eq_false_iff_ne]; omega
 have hq1 : IntKind.i64.wrap (d : Int) = (d : Int) := IntWalk.i64_in _ (by omega)
 have hme : ((a : Int) + (b : Int)) / 2 = (d : Int) := by omega
 have hnw : IntKind.i64.wrap ((d : Int) + (m : Int)) = (n : Int) := by rw [show (d : Int) + (m : Int) = (n : Int) by omega]; exact IntWalk.i64_in _ (by omega)
 have hn1 : IntKind.i64.wrap ((n : Int) - 1) = ((n - 1 : Nat) : Int) := by rw [show (n : Int) - 1 = ((n - 1 : Nat) : Int) by omega]; exact IntWalk.i64_in _ (by omega)
 have hari2 : a ≤ Lo ∧ Lo ≤ Hi ∧ Hi ≤ m ∧ Hi ≤ d ∧ m ≤ n - Hi ∧ n - Lo ≤ b ∧ a ≤ m ∧ m ≤ b := by omega
 have Hsplit := Lib.hid hsplit; have HmU := Lib.hid hmonoU; have HmV := Lib.hid hmonoV; have Hk := Lib.hid hk
 have Hc := Lib.hid hcmp; have Hf := Lib.hid hf; have Hr := Lib.hid hr; have HL := Lib.hid hN; have HLL := Lib.hid hL; have HP := Lib.hid ha
 have Hm := Lib.hid hm; have Hb := Lib.hid hb; have Hn := Lib.hid hn; have HU := Lib.hid hU; have HV := Lib.hid hV; have Hih := Lib.hid ih; have HUV := Lib.hid (And.intro hU1 hV1)
 have eg : ∀ args w, (callFunc 26 args).run Tryz.prog w = .ok (.enter 26 args) w := enters_of Tryz.func26 (by kernel_rfl) rfl
 clear hsplit hmonoU hmonoV hk hcmp hf hr hN hL hU hV ih ha hd hU1 hV1 hari
 have Hari := Lib.hid hari2; have Hdab := Lib.hid hdab; have HbN := Lib.hid hbN; have Hln := Lib.hid hln
 go_enter Tryz.func71, Tryz.ntmps71
 go_upto_if 140 with fail
 go_cut [20, 21] from 138 to 146 (fun sv rv wc => sv = .int .i64 (Lo : Int) ∧ rv = .int .i64 (Hi : Int) ∧ wc = w)
 case first =>
  by_cases hdm : d < m
  ·have hdi : (d : Int) < (m : Int) := by omega
   rw [if_pos hdm] at hLo hHi
   have hlw : IntKind.i64.wrap ((n : Int) - (b : Int)) = (Lo : Int) := by rw [show (n : Int) - (b : Int) = (Lo : Int) by omega]; exact IntWalk.i64_in _ (by omega)
   have HLo := Lib.hid hLo; have HHi := Lib.hid hHi
   clear hLo hHi hm hb hn
   go_wp2_with fail
   go_meet
   case rel => exact ⟨rfl, by rw [HHi.out], rfl⟩
  ·have hdi : ¬ (d : Int) < (m : Int) := by omega
   rw [if_neg hdm] at hLo hHi
   have HLo := Lib.hid hLo; have HHi := Lib.hid hHi
   clear hLo hHi hm hb hn
   go_wp2_with fail
   go_meet
   case rel => exact ⟨by rw [HLo.out], by rw [HHi.out], rfl⟩
 case rest =>
 obtain ⟨rfl, rfl, rfl⟩ := hcut
 clear hma hma1 hbm hbm1 hq1 hme hLo hHi hm hb hnw
 go_wp2_with fail
 go_loopw [20, 21] (fun iv jv wr => ∃ (i j : Nat), iv = .int .i64 (i : Int) ∧ jv = .int .i64 (j : Int) ∧ Lo ≤ i ∧ i ≤ j ∧ j ≤ Hi ∧ Hid (∀ x, Lo ≤ x → x < i → k (L.getD x 0) ≤ k (L.getD (n - 1 - x) 0)) ∧ Hid (∀ x, j ≤ x → x < Hi → k (L.getD (n - 1 - x) 0) < k (L.getD x 0)) ∧ w0.grownBy wr (some g) ∧ RowI g L wr) (fun iv jv _ => (intOf jv - intOf iv).toNat)
 case atStart => exact ⟨Lo, Hi, rfl, rfl, Nat.le_refl _, hari2.2.1, Nat.le_refl _, Lib.hid fun c h1 h2 => absurd h1 (by omega), Lib.hid fun c h1 h2 => absurd h1 (by omega), Hf.out, Hr.out⟩
 case round =>
  obtain ⟨i, j, rfl, rfl, hmi, hij, hjb, Hlo, Hhi, hf, hr⟩ := hrel
  obtain ⟨wo, rfl⟩ : ∃ W, W = wr := ⟨_, rfl⟩
  by_cases hlt : i < j
  ·obtain ⟨h, hh⟩ : ∃ h, h = (i + j) / 2 := ⟨_, rfl⟩
   have hq1 : IntKind.i64.wrap (h : Int) = (h : Int) := IntWalk.i64_in _ (by omega)
   have hme : ((i : Int) + (j : Int)) / 2 = (h : Int) := by omega
   have hih : i ≤ h := by omega
   have hhj : h < j := by omega
   have hii : (i : Int) < (j : Int) := by omega
   have hh0 : (0 : Int) ≤ (h : Int) := by omega
   have hh1 : (h : Int) < (N : Int) := by omega
   obtain ⟨q, hq⟩ : ∃ q, n - 1 - h = q := ⟨_, rfl⟩
   have hqw : IntKind.i64.wrap (((n - 1 : Nat) : Int) - (h : Int)) = (q : Int) := by rw [show ((n - 1 : Nat) : Int) - (h : Int) = (q : Int) by omega]; exact IntWalk.i64_in _ (by omega)
   have hqm : m ≤ q ∧ q < b := by omega
   have hq0 : (0 : Int) ≤ (q : Int) := by omega
   have hqN : (q : Int) < (N : Int) := by omega
   obtain ⟨x, hx⟩ : ∃ x, L.getD q 0 = x := ⟨_, rfl⟩
   obtain ⟨y, hy⟩ : ∃ y, L.getD h 0 = y := ⟨_, rfl⟩
   have Hx := Lib.hid hx; have Hy := Lib.hid hy; have Hq := Lib.hid hq
   have hSS : ∀ W, Below wo.heap.size wo W → W.cell? ⟨g, q, none⟩ = some (.int .i64 x) ∧ W.cell? ⟨g, h, none⟩ = some (.int .i64 y) := fun W hW => by
    have h1 := ((hr.ext hW).at_ (j := q) (by rw [HL.out]; omega)).1
    have h2 := ((hr.ext hW).at_ (j := h) (by rw [HL.out]; omega)).1
    rw [hx] at h1; rw [hy] at h2
    exact ⟨h1, h2⟩
   have hcm := fun V (hV : Below wo.heap.size wo V) => Hc.out V x y (grownBy_below hf hV)
   have HS := Lib.hid hSS; have Hcm := Lib.hid hcm; have Hf2 := Lib.hid hf; have Hr2 := Lib.hid hr
   have hS := HS.out _ (below_drewN' wo.heap.size wo 1)
   have Hij := Lib.hid (show Lo ≤ i ∧ i ≤ h ∧ h < j ∧ j ≤ Hi ∧ m ≤ q ∧ q < b ∧ n - 1 - h = q from by omega)
   have hjN : j ≤ N := by omega
   clear hSS hcm hf hr hx hy hq hh hqm hari2 hdab hij Hf Hr hn
   go_wp2_with fail
   refine wp_region_D (fun W => W.cell? ⟨g, q, none⟩ = some (.int .i64 x) ∧ W.cell? ⟨g, h, none⟩ = some (.int .i64 y)) (fun _ => false) (by kernel_rfl) ?_
   change anyD _ _ _ _ _ _ _ _ _ (wo.drewN 1)
   have hbV := below_drewN' wo.heap.size wo 1
   generalize wo.drewN 1 = V0 at hS hbV ⊢
   have HBV := Lib.hid hbV
   (refine anyD_l5 (i := 0) (v := ?_) rfl (by kernel_rfl) (fun _ _ _ h => h) (.inl ⟨by kernel_rfl, fun W9 hW9 => ?_⟩) hS ?_; rotate_left; · (obtain ⟨hw0, hw1⟩ := hW9; go_simp; rfl))
   (refine anyD_l5 (i := 1) (v := ?_) rfl (by kernel_rfl) (fun _ _ _ h => h) (.inl ⟨by kernel_rfl, fun W9 hW9 => ?_⟩) hS ?_; rotate_left; · (obtain ⟨hw0, hw1⟩ := hW9; go_simp; rfl))
   (refine anyD_l5 (i := 2) (v := ?_) rfl (by kernel_rfl) (fun _ _ _ h => h) (.inl ⟨by kernel_rfl, fun W9 hW9 => ?_⟩) hS ?_; rotate_left; · (obtain ⟨hw0, hw1⟩ := hW9; go_simp; rfl))
   (refine anyD_l5 (i := 3) (v := ?_) rfl (by kernel_rfl) (fun _ _ _ h => h) (.inl ⟨by kernel_rfl, fun W9 hW9 => ?_⟩) hS ?_; rotate_left; · (obtain ⟨hw0, hw1⟩ := hW9; go_simp; rfl))
   (refine anyD_l5 (i := 4) (v := ?_) rfl (by kernel_rfl) (fun _ _ _ h => h) (.inl ⟨by kernel_rfl, fun W9 hW9 => ?_⟩) hS ?_; rotate_left; · (obtain ⟨hw0, hw1⟩ := hW9; go_simp; rfl))
   (refine anyD_l5 (i := 5) (v := ?_) rfl (by kernel_rfl) (fun _ _ _ h => h) (.inl ⟨by kernel_rfl, fun W9 hW9 => ?_⟩) hS ?_; rotate_left; · (obtain ⟨hw0, hw1⟩ := hW9; go_simp; rfl))
   go_simp
   (refine anyD_l5 (i := 6) (v := ?_) rfl (by kernel_rfl) (fun _ _ _ h => h) (.inl ⟨by kernel_rfl, fun W9 hW9 => ?_⟩) hS ?_; rotate_left; · (obtain ⟨hw0, hw1⟩ := hW9; go_simp; rfl))
   (refine anyD_l5 (i := 7) (v := ?_) rfl (by kernel_rfl) (fun _ _ _ h => h) (.inl ⟨by kernel_rfl, fun W9 hW9 => ?_⟩) hS ?_; rotate_left; · (obtain ⟨hw0, hw1⟩ := hW9; go_simp; rfl))
   (refine anyD_l5 (i := 8) (v := ?_) rfl (by kernel_rfl) (fun _ _ _ h => h) (.inl ⟨by kernel_rfl, fun W9 hW9 => ?_⟩) hS ?_; rotate_left; · (obtain ⟨hw0, hw1⟩ := hW9; go_simp; rfl))
   (refine anyD_l5 (i := 9) (v := ?_) rfl (by kernel_rfl) (fun _ _ _ h => h) (.inl ⟨by kernel_rfl, fun W9 hW9 => ?_⟩) hS ?_; rotate_left; · (obtain ⟨hw0, hw1⟩ := hW9; go_simp; rfl))
   (refine anyD_l5 (i := 10) (v := ?_) rfl (by kernel_rfl) (fun _ _ _ h => h) (.inl ⟨by kernel_rfl, fun W9 hW9 => ?_⟩) hS ?_; rotate_left; · (obtain ⟨hw0, hw1⟩ := hW9; go_simp; rfl))
   go_simp
   refine anyD_one (i := 11) (by kernel_rfl) rfl rfl (fun K hK => ?_)
   have HK := Lib.hid hK
   clear hK
   unfold Oper.wp
   go_simp
   refine (Hcm.out _ (HBV.out)).mono ?_
   rintro e w5 ⟨rfl, hb5⟩
   have hb05 := HBV.out.trans (hb5.mono HBV.out.size)
   have hS := HS.out _ hb05
   refine HK.out _ _ (fun _ => hS) ?_
   clear HK
   (refine anyD_l5 (i := 12) (v := ?_) rfl (by kernel_rfl) (fun _ _ _ h => h) (.inl ⟨by kernel_rfl, fun W9 hW9 => ?_⟩) hS ?_; rotate_left; · (obtain ⟨hw0, hw1⟩ := hW9; go_simp; rfl))
   (refine anyD_l5 (i := 13) (v := ?_) rfl (by kernel_rfl) (fun _ _ _ h => h) (.inl ⟨by kernel_rfl, fun W9 hW9 => ?_⟩) hS ?_; rotate_left; · (obtain ⟨hw0, hw1⟩ := hW9; go_simp; rfl))
   go_simp
   refine anyD_done (by kernel_rfl) ?_ _
   have hf5 := grownBy_below Hf2.out hb05
   have hr5 := Hr2.out.ext hb05
   have hkx := Hk.out x y
   have Hf5 := Lib.hid hf5; have Hr5 := Lib.hid hr5
   clear hf5 hr5 hb5 hb05 hbV hS
   by_cases hneg : cf x y < 0
   ·have Hneg := Lib.hid (hkx.1 hneg)
    rw [show (!decide (cf x y < 0)) = false by rw [decide_eq_true hneg]; rfl]
    clear hkx hneg
    go_wp2_with fail
    go_roundw
    case rel => exact ⟨i, h, rfl, rfl, hmi, hih, by have := Hij.out; omega, Hlo, Lib.hid fun c h1 h2 => by
     have hij := Hij.out
     have har := Hari.out
     have h3 := HmU.out h c (by omega) h1 (by omega)
     have h4 := HmV.out (n - 1 - c) q (by omega) (by omega) (by omega)
     rw [Hx.out] at h4
     rw [Hy.out] at h3
     have h5 := Hneg.out
     omega, Hf5.out, Hr5.out⟩
    case measure => simp [intOf]; omega
   ·have Hneg := Lib.hid (show k y ≤ k x from Int.not_lt.1 fun h' => hneg (hkx.2 h'))
    rw [show (!decide (cf x y < 0)) = true by rw [decide_eq_false hneg]; rfl]
    have hiw : IntKind.i64.wrap ((h : Int) + 1) = (h : Int) + 1 := IntWalk.i64_in _ (by have := Hij.out; have := HbN.out; have := Hln.out; omega)
    clear hkx hneg
    go_wp2_with fail
    go_roundw
    case rel => exact ⟨h + 1, j, by go_num, rfl, by omega, by omega, hjb, Lib.hid fun c h1 h2 => by
     have hij := Hij.out
     have har := Hari.out
     have h3 := HmU.out c h (by omega) (by omega) (by omega)
     have h4 := HmV.out q (n - 1 - c) (by omega) (by omega) (by omega)
     rw [Hx.out] at h4
     rw [Hy.out] at h3
     have h5 := Hneg.out
     omega, Hhi, Hf5.out, Hr5.out⟩
    case measure => simp [intOf]; omega
  ·obtain rfl : i = j := by omega
   have hii : ¬ (i : Int) < (i : Int) := by omega
   obtain ⟨h1, h2⟩ := Hsplit.out i hmi hjb Hlo.out Hhi.out
   obtain ⟨e, he⟩ : ∃ e, n - i = e := ⟨_, rfl⟩
   have hew : IntKind.i64.wrap ((n : Int) - (i : Int)) = (e : Int) := by rw [show (n : Int) - (i : Int) = (e : Int) by omega]; exact IntWalk.i64_in _ (by omega)
   rw [he] at h1 h2
   obtain ⟨U1, hU1⟩ : ∃ l, U.take (i - a) = l := ⟨_, rfl⟩
   obtain ⟨U2, hU2⟩ : ∃ l, U.drop (i - a) = l := ⟨_, rfl⟩
   obtain ⟨V1, hV1⟩ : ∃ l, V.take (e - m) = l := ⟨_, rfl⟩
   obtain ⟨V2, hV2⟩ : ∃ l, V.drop (e - m) = l := ⟨_, rfl⟩
   rw [hU1, hV2] at h1
   rw [hV1, hU2] at h2
   have eU : U1 ++ U2 = U := by rw [← hU1, ← hU2]; exact List.take_append_drop _ _
   have eV : V1 ++ V2 = V := by rw [← hV1, ← hV2]; exact List.take_append_drop _ _
   have hm := Hm.out
   have hb := Hb.out
   have lU1 : U1.length = i - a := by rw [← hU1, List.length_take]; omega
   have lU2 : U2.length = m - i := by rw [← hU2, List.length_drop]; omega
   have lV1 : V1.length = e - m := by rw [← hV1, List.length_take]; omega
   have lV2 : V2.length = b - e := by rw [← hV2, List.length_drop]; omega
   have hUp := HU.out
   have hVp := HV.out
   rw [← eU] at hUp
   rw [← eV] at hVp
   obtain ⟨uU1, uU2, _⟩ := List.pairwise_append.1 hUp
   obtain ⟨uV1, uV2, _⟩ := List.pairwise_append.1 hVp
   have hjoin := fun M1 M2 (hM1 : Rk.SS k (U1 ++ V1) M1) (hM2 : Rk.SS k (U2 ++ V2) M2) => Rk.SS.join hUp hVp h1 h2 hM1 hM2
   rw [eU, eV] at hjoin
   have hrow : RowI g (P ++ U1 ++ U2 ++ V1 ++ V2 ++ R) wo := by
    have := hr
    rw [← HLL.out, ← eU, ← eV] at this
    simpa using this
   have hlen : (P ++ U1 ++ U2 ++ V1 ++ V2 ++ R).length = N := by
    have := HL.out
    rw [← HLL.out, ← eU, ← eV] at this
    simpa using this
   have har2 : a ≤ i ∧ i ≤ m ∧ m ≤ e ∧ e ≤ b ∧ i ≤ d ∧ d ≤ e ∧ (e - m) + (i - a) = d - a ∧ (b - e) + (m - i) = b - d := by have := Hn.out; omega
   have Hih1 := Lib.hid (fun (h0 : 0 < U1.length) (h1 : 0 < V1.length) => Hih.out U1 V1 (by have := HUV.out; omega) h0 h1 uU1 uV1)
   have Hih2 := Lib.hid (fun (h0 : 0 < U2.length) (h1 : 0 < V2.length) => Hih.out U2 V2 (by have := HUV.out; omega) h0 h1 uU2 uV2)
   have Hjoin := Lib.hid hjoin; have Hrow := Lib.hid hrow; have Hlen := Lib.hid hlen; have Hf2 := Lib.hid hf
   have Hself1 := Lib.hid (fun h => SymAt.nil (w0 := w0) (g := g) (c := c) (gx := gx) (gl := gl) (N := N) (cf := cf) (k := k) (U := U1) (V := V1) uU1 uV1 h)
   have Hself2 := Lib.hid (fun h => SymAt.nil (w0 := w0) (g := g) (c := c) (gx := gx) (gl := gl) (N := N) (cf := cf) (k := k) (U := U2) (V := V2) uU2 uV2 h)
   have Hl := Lib.hid (show U1.length = i - a ∧ U2.length = m - i ∧ V1.length = e - m ∧ V2.length = b - e from ⟨lU1, lU2, lV1, lV2⟩)
   have Har2 := Lib.hid har2
   clear h1 h2 hU1 hU2 hV1 hV2 eU eV hm hb lU1 lU2 lV1 lV2 hUp hVp uU1 uU2 uV1 uV2 hjoin hrow hlen hf hr Hlo Hhi Hih Hsplit HmU HmV hij he hmi hjb hari2 hn1 hn
   go_upto_region 39 with fail
   go_cut [185] from 178 to 185 (fun bv wc => bv = .bool (decide (i < m ∧ m < e)) ∧ wc = wo)
   case first =>
    by_cases c1 : i < m
    ·have hc1 : (i : Int) < (m : Int) := by omega
     by_cases c2 : m < e
     ·have hc2 : (m : Int) < (e : Int) := by omega
      go_wp2_with fail
      go_meet
      case rel => exact ⟨congrArg Value.bool (decide_eq_true ⟨c1, c2⟩).symm, rfl⟩
     ·have hc2 : ¬ (m : Int) < (e : Int) := by omega
      go_wp2_with fail
      go_meet
      case rel => exact ⟨congrArg Value.bool (decide_eq_false fun h => c2 h.2).symm, rfl⟩
    ·have hc1 : ¬ (i : Int) < (m : Int) := by omega
     go_wp2_with fail
     go_meet
     case rel => exact ⟨congrArg Value.bool (decide_eq_false fun h => c1 h.1).symm, rfl⟩
   case rest =>
   obtain ⟨rfl, hw9⟩ := hcut
   obtain rfl : wo = wc := hw9.symm
   clear hew
   go_upto_if 185 with fail
   go_cut [] from 178 to 191 (fun wc => w0.grownBy wc (some g) ∧ RowI g (P ++ U1 ++ V1 ++ U2 ++ V2 ++ R) wc)
   case first =>
    by_cases hcc : i < m ∧ m < e
    ·rw [show decide (i < m ∧ m < e) = true from decide_eq_true hcc]
     have Hro := Lib.hid (rotate_ok w0 g c N (.func (.func 26) #[] #[.pointer (some ⟨gx, 0, none⟩), .pointer (some ⟨gl, 0, none⟩)]) (P ++ U1) U2 V1 (V2 ++ R) (by have := Hlen.out; simpa using this) hln i m e (by have := Hl.out; have := HP.out; have := Har2.out; rw [List.length_append]; omega) (by have := Hl.out; omega) (by have := Hl.out; omega) (by have := Hl.out; omega) (by have := Hl.out; omega) wo Hf2.out (by have := Hrow.out; simpa using this))
     go_wp2_with fail
     refine Hro.out.mono ?_
     clear Hro
     rintro e9 w1 ⟨rfl, hf1, hr1⟩
     have Hf1 := Lib.hid hf1; have Hr1 := Lib.hid hr1
     clear hf1 hr1
     go_wp2_with fail
     go_meet
     case rel => exact ⟨Hf1.out, by have := Hr1.out; simpa using this⟩
    ·rw [show decide (i < m ∧ m < e) = false from decide_eq_false hcc]
     go_wp2_with fail
     go_meet
     case rel =>
      have : U2 = [] ∨ V1 = [] := by
       have := Hl.out
       have := Har2.out
       by_cases h : i < m
       ·exact .inr (List.eq_nil_of_length_eq_zero (by omega))
       ·exact .inl (List.eq_nil_of_length_eq_zero (by omega))
      refine ⟨Hf2.out, ?_⟩
      rcases this with rfl | rfl
      ·have := Hrow.out; simpa using this
      ·have := Hrow.out; simpa using this
   case rest =>
   clear Hrow Hf2
   obtain ⟨hf3, hr3⟩ := hcut
   have Hf3 := Lib.hid hf3; have Hr3 := Lib.hid hr3
   obtain ⟨wa, rfl⟩ : ∃ W, W = wc := ⟨_, rfl⟩
   clear hf3 hr3
   go_upto_region 41 with fail
   go_cut [199] from 192 to 199 (fun bv wc => bv = .bool (decide (a < i ∧ i < d)) ∧ wc = wa)
   case first =>
    by_cases c1 : a < i
    ·have hc1 : (a : Int) < (i : Int) := by omega
     by_cases c2 : i < d
     ·have hc2 : (i : Int) < (d : Int) := by omega
      go_wp2_with fail
      go_meet
      case rel => exact ⟨congrArg Value.bool (decide_eq_true ⟨c1, c2⟩).symm, rfl⟩
     ·have hc2 : ¬ (i : Int) < (d : Int) := by omega
      go_wp2_with fail
      go_meet
      case rel => exact ⟨congrArg Value.bool (decide_eq_false fun h => c2 h.2).symm, rfl⟩
    ·have hc1 : ¬ (a : Int) < (i : Int) := by omega
     go_wp2_with fail
     go_meet
     case rel => exact ⟨congrArg Value.bool (decide_eq_false fun h => c1 h.1).symm, rfl⟩
   case rest =>
   obtain ⟨rfl, hw9⟩ := hcut
   obtain rfl : wa = wc := hw9.symm
   go_upto_if 199 with fail
   go_cut [] from 192 to 205 (fun wc => ∃ M1, Rk.SS k (U1 ++ V1) M1 ∧ w0.grownBy wc (some g) ∧ RowI g (P ++ M1 ++ U2 ++ V2 ++ R) wc)
   case first =>
    by_cases hcc : a < i ∧ i < d
    ·rw [show decide (a < i ∧ i < d) = true from decide_eq_true hcc]
     have Hro := Lib.hid (Hih1.out (by have := Hl.out; omega) (by have := Hl.out; have := Har2.out; omega) P (U2 ++ V2 ++ R) a i d wa (by
      have h1 := Hlen.out
      simp only [List.length_append] at h1 ⊢
      omega) HP.out (by have := Hl.out; omega) (by have := Hl.out; have := Har2.out; omega) Hf3.out (by have := Hr3.out; simpa using this))
     clear Hih1 Hself1
     go_wp2_with fail
     refine Hro.out.mono ?_
     clear Hro
     rintro e9 w1 ⟨rfl, hf1, M1, hM1, hr1⟩
     have Hf1 := Lib.hid hf1; have Hr1 := Lib.hid hr1; have HM1 := Lib.hid hM1
     clear hf1 hr1 hM1
     go_wp2_with fail
     go_meet
     case rel => exact ⟨M1, HM1.out, Hf1.out, by have := Hr1.out; simpa using this⟩
    ·rw [show decide (a < i ∧ i < d) = false from decide_eq_false hcc]
     go_wp2_with fail
     go_meet
     case rel =>
      have : U1 = [] ∨ V1 = [] := by
       have := Hl.out
       have := Har2.out
       by_cases h : a < i
       ·exact .inr (List.eq_nil_of_length_eq_zero (by omega))
       ·exact .inl (List.eq_nil_of_length_eq_zero (by omega))
      exact ⟨U1 ++ V1, Hself1.out this, Hf3.out, by have := Hr3.out; simpa using this⟩
   case rest =>
   clear Hr3 Hf3 Hih1 Hself1
   obtain ⟨M1, hM1, hf3, hr3⟩ := hcut
   have Hf3 := Lib.hid hf3; have Hr3 := Lib.hid hr3; have HM1 := Lib.hid hM1
   have hlM : M1.length = d - a := by have := hM1.1.perm.length_eq; rw [List.length_append] at this; have := Hl.out; have := Har2.out; omega
   have HlM := Lib.hid hlM
   obtain ⟨wb, rfl⟩ : ∃ W, W = wc := ⟨_, rfl⟩
   clear hf3 hr3 hM1 hlM
   by_cases c1 : d < e
   ·have hc1 : (d : Int) < (e : Int) := by omega
    by_cases c2 : e < b
    ·have hc2 : (e : Int) < (b : Int) := by omega
     have Hro := Lib.hid (Hih2.out (by have := Hl.out; have := Har2.out; omega) (by have := Hl.out; have := Har2.out; omega) (P ++ M1) R d e b wb (by
      have h1 := Hlen.out
      have h2 := Hl.out
      have h3 := HlM.out
      have h4 := Har2.out
      simp only [List.length_append] at h1 ⊢
      omega) (by have := HlM.out; have := HP.out; have := Hdab.out; rw [List.length_append]; omega) (by have := Hl.out; have := Har2.out; omega) (by have := Hl.out; omega) Hf3.out (by have := Hr3.out; simpa using this))
     clear Hih2 Hself2
     go_wp2_with fail
     refine Hro.out.mono ?_
     clear Hro
     rintro e9 w1 ⟨rfl, hf1, M2, hM2, hr1⟩
     have Hf1 := Lib.hid hf1; have Hr1 := Lib.hid hr1; have HM2 := Lib.hid hM2
     clear hf1 hr1 hM2
     go_wp2_with fail
     refine bodyPost_end (results_none rfl _ _ _) rfl ?_
     exact ⟨rfl, Hf1.out, M1 ++ M2, Hjoin.out _ _ HM1.out HM2.out, by have := Hr1.out; simpa using this⟩
    ·have hc2 : ¬ (e : Int) < (b : Int) := by omega
     go_wp2_with fail
     refine bodyPost_end (results_none rfl _ _ _) rfl ?_
     exact ⟨rfl, Hf3.out, M1 ++ (U2 ++ V2), Hjoin.out _ _ HM1.out (Hself2.out (.inr (List.eq_nil_of_length_eq_zero (by have := Hl.out; omega)))), by have := Hr3.out; simpa using this⟩
   ·have hc1 : ¬ (d : Int) < (e : Int) := by omega
    go_wp2_with fail
    refine bodyPost_end (results_none rfl _ _ _) rfl ?_
    exact ⟨rfl, Hf3.out, M1 ++ (U2 ++ V2), Hjoin.out _ _ HM1.out (Hself2.out (.inl (List.eq_nil_of_length_eq_zero (by have := Hl.out; have := Har2.out; omega)))), by have := Hr3.out; simpa using this⟩
theorem symMerge_ok (w0 : World) (g c gx gl N : Nat) (cf : Int → Int → Int) (k : Int → Int) (hk : ∀ i j, cf i j < 0 ↔ k i < k j) (hcmp : CmpAt w0 g gx gl cf) (hln : N ≤ 1000000) : ∀ (s : Nat) (U V : List Int), U.length + V.length < s → 0 < U.length → 0 < V.length → Rk.Up k U → Rk.Up k V → SymAt w0 g c gx gl N cf k U V
 | 0, U, V, hs, _, _, _, _ => absurd hs (Nat.not_lt_zero _)
 | s + 1, U, V, hs, hU0, hV0, hU, hV => by
  by_cases hU1 : U.length = 1
  ·obtain ⟨u, rfl⟩ := List.length_eq_one_iff.1 hU1
   intro P R a m b w hN ha hm hb hf hr
   obtain rfl : a + 1 = m := by simpa using hm
   exact symLeft_ok w0 g c gx gl N cf k hk hcmp P V R u hN hln a b ha hb hV w hf hr
  ·by_cases hV1 : V.length = 1
   ·obtain ⟨v, rfl⟩ := List.length_eq_one_iff.1 hV1
    intro P R a m b w hN ha hm hb hf hr
    obtain rfl : m + 1 = b := by simpa using hb
    have e : P ++ U ++ [v] ++ R = P ++ U ++ v :: R := by simp
    rw [e] at hN hr
    exact symRight_ok w0 g c gx gl N cf k hk hcmp P U R v hN hln a m ha hm (by omega) hU w hf hr
   ·exact symMid_ok w0 g c gx gl N cf k hk hcmp hln U V hU hV (by omega) (by omega) fun U' V' h1 h2 h3 h4 h5 => symMerge_ok w0 g c gx gl N cf k hk hcmp hln s U' V' (by omega) h2 h3 h4 h5
end Go.Proofs.YtnlhocbaighedaaGreatDoor

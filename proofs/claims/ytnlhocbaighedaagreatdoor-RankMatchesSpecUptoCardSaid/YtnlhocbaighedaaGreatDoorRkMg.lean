/-
  slices.symMergeCmpFunc on ints.
-/
import Derived.Test.YtnlhocbaighedaaGreatDoorRkRo
import Derived.Test.YtnlhocbaighedaaGreatDoorRkY
import Derived.BigRegion
namespace Go.Proofs.YtnlhocbaighedaaGreatDoor
open Go.RowKit
set_option linter.unusedVariables false
namespace Rk
theorem getD_at (A V R : List Int) {c : Nat} (h1 : A.length ≤ c) (h2 : c < A.length + V.length) : ∃ h : c - A.length < V.length, (A ++ V ++ R).getD c 0 = V[c - A.length] := by
 refine ⟨by omega, ?_⟩
 rw [List.getD_eq_getElem?_getD, List.append_assoc, List.getElem?_append_right h1, List.getElem?_append_left (by omega), List.getElem?_eq_getElem (by omega)]
 rfl
theorem up_at {k : Int → Int} {A V R : List Int} (h : Up k V) {c c' : Nat} (h1 : A.length ≤ c) (h2 : c ≤ c') (h3 : c' < A.length + V.length) : k ((A ++ V ++ R).getD c 0) ≤ k ((A ++ V ++ R).getD c' 0) := by
 obtain ⟨g1, e1⟩ := getD_at A V R h1 (by omega)
 obtain ⟨g2, e2⟩ := getD_at A V R (Nat.le_trans h1 h2) h3
 rw [e1, e2]
 by_cases e : c = c'
 ·subst e; exact Int.le_refl _
 ·exact List.pairwise_iff_getElem.1 h _ _ g1 g2 (by omega)
theorem mem_take {V : List Int} {t : Nat} {v : Int} (h : v ∈ V.take t) : ∃ j, ∃ h : j < V.length, j < t ∧ V[j] = v := by
 obtain ⟨j, hj, rfl⟩ := List.mem_iff_getElem.1 h
 rw [List.length_take] at hj
 exact ⟨j, by omega, by omega, by rw [List.getElem_take]⟩
theorem mem_drop {V : List Int} {t : Nat} {v : Int} (h : v ∈ V.drop t) : ∃ j, ∃ h : j < V.length, t ≤ j ∧ V[j] = v := by
 obtain ⟨j, hj, rfl⟩ := List.mem_iff_getElem.1 h
 rw [List.length_drop] at hj
 exact ⟨t + j, by omega, by omega, by rw [List.getElem_drop]⟩
theorem getD_of (A V R : List Int) (j : Nat) (h : j < V.length) : (A ++ V ++ R).getD (A.length + j) 0 = V[j] := by
 obtain ⟨g, e⟩ := getD_at A V R (c := A.length + j) (by omega) (by omega)
 rw [e]
 congr 1
 omega
/-- one element ahead of a sorted part -/
theorem one_left {k : Int → Int} {P V R : List Int} {u : Int} (hV : Up k V) {m s : Nat} (hm : P.length + 1 = m) (h0 : m ≤ s) (h1 : s ≤ m + V.length) (hlo : ∀ c, m ≤ c → c < s → k ((P ++ [u] ++ V ++ R).getD c 0) < k u) (hhi : ∀ c, s ≤ c → c < m + V.length → k u ≤ k ((P ++ [u] ++ V ++ R).getD c 0)) : SS k ([u] ++ V) (V.take (s - m) ++ u :: V.drop (s - m)) := by
 have hl : (P ++ [u]).length = m := by simp; omega
 have e : V = V.take (s - m) ++ V.drop (s - m) := (List.take_append_drop _ _).symm
 have hV2 : Up k (V.take (s - m) ++ V.drop (s - m)) := by rw [← e]; exact hV
 have hd : Up k (V.drop (s - m)) := (List.pairwise_append.1 hV2).2.1
 have ht : Up k (V.take (s - m)) := (List.pairwise_append.1 hV2).1
 have hu2 : ∀ v ∈ V.drop (s - m), k u ≤ k v := fun v hv => by
  obtain ⟨j, hj, hsj, rfl⟩ := mem_drop hv
  have := hhi (m + j) (by omega) (by omega)
  rw [← hl, getD_of _ _ _ _ hj] at this
  omega
 have := SS.join (k := k) (U1 := []) (U2 := [u]) (V1 := V.take (s - m)) (V2 := V.drop (s - m)) (M1 := V.take (s - m)) (M2 := u :: V.drop (s - m)) (by simp [Up]) hV2 (fun _ h => by cases h) (fun v hv x hx => by
  rw [List.mem_singleton] at hx
  subst hx
  obtain ⟨j, hj, hsj, rfl⟩ := mem_take hv
  have := hlo (m + j) (by omega) (by omega)
  rwa [← hl, getD_of _ _ _ _ hj] at this) (SS.self ht) (SS.self (List.pairwise_cons.2 ⟨hu2, hd⟩))
 rw [← e] at this
 simpa using this
/-- one element behind a sorted part -/
theorem one_right {k : Int → Int} {P U R : List Int} {v : Int} (hU : Up k U) {a s : Nat} (ha : P.length = a) (h0 : a ≤ s) (h1 : s ≤ a + U.length) (hlo : ∀ c, a ≤ c → c < s → k ((P ++ U ++ v :: R).getD c 0) ≤ k v) (hhi : ∀ c, s ≤ c → c < a + U.length → k v < k ((P ++ U ++ v :: R).getD c 0)) : SS k (U ++ [v]) (U.take (s - a) ++ v :: U.drop (s - a)) := by
 have e : U = U.take (s - a) ++ U.drop (s - a) := (List.take_append_drop _ _).symm
 have hU2 : Up k (U.take (s - a) ++ U.drop (s - a)) := by rw [← e]; exact hU
 have hd : Up k (U.drop (s - a)) := (List.pairwise_append.1 hU2).2.1
 have ht : Up k (U.take (s - a)) := (List.pairwise_append.1 hU2).1
 have hle : ∀ u ∈ U.take (s - a), k u ≤ k v := fun u hu => by
  obtain ⟨j, hj, hsj, rfl⟩ := mem_take hu
  have := hlo (a + j) (by omega) (by omega)
  rw [← ha, getD_of _ _ _ _ hj] at this
  omega
 have := SS.join (k := k) (U1 := U.take (s - a)) (U2 := U.drop (s - a)) (V1 := [v]) (V2 := []) (M1 := U.take (s - a) ++ [v]) (M2 := U.drop (s - a)) hU2 (by simp [Up]) (fun _ _ _ h => by cases h) (fun x hx u hu => by
  rw [List.mem_singleton] at hx
  subst hx
  obtain ⟨j, hj, hsj, rfl⟩ := mem_drop hu
  have := hhi (a + j) (by omega) (by omega)
  rwa [← ha, getD_of _ _ _ _ hj] at this) (SS.self (ht.append (by simp [Up]) fun x hx y hy => by rw [List.mem_singleton] at hy; subst hy; exact hle x hx)) (by rw [List.append_nil]; exact SS.self hd)
 rw [← e] at this
 simpa using this
/-- where a symmetric merge parts the two sorted parts -/
theorem mid_split {k : Int → Int} {P U V R : List Int} (hU : Up k U) (hV : Up k V) {a m b n lo hi st : Nat} (ha : P.length = a) (hm : a + U.length = m) (hb : m + V.length = b) (h1 : a ≤ lo) (h2 : lo ≤ st) (h3 : st ≤ hi) (h4 : hi ≤ m) (h5 : lo = a ∨ n - lo = b) (h6 : hi = m ∨ n - hi = m) (h7 : m ≤ n - hi ∨ hi = lo) (h8 : n - lo ≤ b) (h9 : hi ≤ n)
  (hno : ∀ c, lo ≤ c → c < st → k ((P ++ U ++ V ++ R).getD c 0) ≤ k ((P ++ U ++ V ++ R).getD (n - 1 - c) 0)) (hyes : ∀ c, st ≤ c → c < hi → k ((P ++ U ++ V ++ R).getD (n - 1 - c) 0) < k ((P ++ U ++ V ++ R).getD c 0)) :
  (∀ u ∈ U.take (st - a), ∀ v ∈ V.drop (n - st - m), k u ≤ k v) ∧ (∀ v ∈ V.take (n - st - m), ∀ u ∈ U.drop (st - a), k v < k u) := by
 have hl : (P ++ U).length = m := by simp; omega
 have gU : ∀ j (h : j < U.length), (P ++ U ++ V ++ R).getD (a + j) 0 = U[j] := fun j h => by
  have := getD_of P U (V ++ R) j h
  rw [ha] at this
  rw [← this]
  simp
 have gV : ∀ j (h : j < V.length), (P ++ U ++ V ++ R).getD (m + j) 0 = V[j] := fun j h => by
  have := getD_of (P ++ U) V R j h
  rwa [hl] at this
 have mU : ∀ i j (hi : i < U.length) (hj : j < U.length), i ≤ j → k U[i] ≤ k U[j] := fun i j hi hj hij => by
  by_cases e : i = j
  ·subst e; exact Int.le_refl _
  ·exact List.pairwise_iff_getElem.1 hU i j hi hj (by omega)
 have mV : ∀ i j (hi : i < V.length) (hj : j < V.length), i ≤ j → k V[i] ≤ k V[j] := fun i j hi hj hij => by
  by_cases e : i = j
  ·subst e; exact Int.le_refl _
  ·exact List.pairwise_iff_getElem.1 hV i j hi hj (by omega)
 constructor
 ·intro u hu v hv
  obtain ⟨i, hi', hsi, rfl⟩ := mem_take hu
  obtain ⟨j, hj, hsj, rfl⟩ := mem_drop hv
  have hlt : lo < st := by omega
  have h0 := hno (st - 1) (by omega) (by omega)
  have e1 : (P ++ U ++ V ++ R).getD (st - 1) 0 = U[st - 1 - a] := by
   rw [← gU (st - 1 - a) (by omega)]; congr 1; omega
  have e2 : (P ++ U ++ V ++ R).getD (n - 1 - (st - 1)) 0 = V[n - st - m] := by
   rw [← gV (n - st - m) (by omega)]; congr 1; omega
  rw [e1, e2] at h0
  have a1 := mU i (st - 1 - a) hi' (by omega) (by omega)
  have a2 := mV (n - st - m) j (by omega) hj (by omega)
  omega
 ·intro v hv u hu
  obtain ⟨i, hi', hsi, rfl⟩ := mem_drop hu
  obtain ⟨j, hj, hsj, rfl⟩ := mem_take hv
  have hlt : st < hi := by omega
  have h0 := hyes st (by omega) hlt
  have e1 : (P ++ U ++ V ++ R).getD st 0 = U[st - a] := by
   rw [← gU (st - a) (by omega)]; congr 1; omega
  have e2 : (P ++ U ++ V ++ R).getD (n - 1 - st) 0 = V[n - 1 - st - m] := by
   rw [← gV (n - 1 - st - m) (by omega)]; congr 1; omega
  rw [e1, e2] at h0
  have a1 := mU (st - a) i (by omega) hi' (by omega)
  have a2 := mV j (n - 1 - st - m) hj (by omega) (by omega)
  omega
end Rk
set_option maxRecDepth 100000 in
set_option maxHeartbeats 8000000 in
theorem symLeft_ok (w0 : World) (g c gx gl N : Nat) (cf : Int → Int → Int) (k : Int → Int) (hk : ∀ i j, cf i j < 0 ↔ k i < k j) (hcmp : CmpAt w0 g gx gl cf) (P V R : List Int) (u : Int) (hN : (P ++ [u] ++ V ++ R).length = N) (hln : N ≤ 1000000) (a b : Nat) (ha : P.length = a) (hb : a + 1 + V.length = b) (hV : Rk.Up k V) (w : World) (hf : w0.grownBy w (some g)) (hr : RowI g (P ++ [u] ++ V ++ R) w) :
  Calls Tryz.prog 71 #[.slice (some ⟨g, 0, none⟩) N c, .int .i64 a, .int .i64 (a + 1 : Nat), .int .i64 b, .func (.func 26) #[] #[.pointer (some ⟨gx, 0, none⟩), .pointer (some ⟨gl, 0, none⟩)]] w fun e w' => e = .returned (.tuple #[]) ∧ w0.grownBy w' (some g) ∧ ∃ M, Rk.SS k ([u] ++ V) M ∧ RowI g (P ++ M ++ R) w' := by
 obtain ⟨L, hL⟩ : ∃ L, P ++ [u] ++ V ++ R = L := ⟨_, rfl⟩
 rw [hL] at hN hr
 have hbN : b ≤ N := by
  rw [← hN, ← hL]
  simp only [List.length_append, List.length_cons, List.length_nil]
  omega
 obtain ⟨m, hm⟩ : ∃ m, a + 1 = m := ⟨_, rfl⟩
 rw [hm]
 have hmb : m + V.length = b := by omega
 have hmono : ∀ c c', m ≤ c → c ≤ c' → c' < b → k (L.getD c 0) ≤ k (L.getD c' 0) := fun c c' h1 h2 h3 => by
  rw [← hL]
  have hl : (P ++ [u]).length = m := by simp; omega
  exact Rk.up_at hV (by omega) h2 (by omega)
 have hua : L.getD a 0 = u := by rw [← hL, ← ha]; simp [List.getD_eq_getElem?_getD]
 have hone := fun s h0 h1 => Rk.one_left (k := k) (P := P) (R := R) (u := u) hV (m := m) (s := s) (by omega) h0 h1
 have hma : IntKind.i64.wrap ((m : Int) - (a : Int)) = 1 := by rw [show (m : Int) - (a : Int) = 1 by omega]; rfl
 have haN : (a : Int) < (N : Int) := by omega
 have ha0 : (0 : Int) ≤ (a : Int) := by omega
 rw [hL] at hone
 have Hone := Lib.hid hone; have Hmono := Lib.hid hmono; have Hk := Lib.hid hk
 have Hc := Lib.hid hcmp; have Hf := Lib.hid hf; have Hr := Lib.hid hr; have HL := Lib.hid hN; have HLL := Lib.hid hL; have Hu := Lib.hid hua; have HP := Lib.hid ha; have Hm := Lib.hid hm; have HVb := Lib.hid hmb
 have eg : ∀ args w, (callFunc 26 args).run Tryz.prog w = .ok (.enter 26 args) w := enters_of Tryz.func26 (by kernel_rfl) rfl
 clear hcmp hf hr hN hL hua hone hmono hk hV ha hb
 go_enter Tryz.func71, Tryz.ntmps71
 go_wp2_with fail
 clear hma
 go_loopw [10, 11] (fun iv jv wr => ∃ (i j : Nat), iv = .int .i64 (i : Int) ∧ jv = .int .i64 (j : Int) ∧ m ≤ i ∧ i ≤ j ∧ j ≤ b ∧ Hid (∀ c, m ≤ c → c < i → k (L.getD c 0) < k u) ∧ Hid (∀ c, j ≤ c → c < b → k u ≤ k (L.getD c 0)) ∧ w0.grownBy wr (some g) ∧ RowI g L wr) (fun iv jv _ => (intOf jv - intOf iv).toNat)
 case atStart => exact ⟨m, b, rfl, rfl, Nat.le_refl _, by omega, Nat.le_refl _, Lib.hid fun c h1 h2 => absurd h1 (by omega), Lib.hid fun c h1 h2 => absurd h1 (by omega), Hf.out, Hr.out⟩
 case round =>
  obtain ⟨i, j, rfl, rfl, hmi, hij, hjb, Hlo, Hhi, hf, hr⟩ := hrel
  obtain ⟨wo, rfl⟩ : ∃ W, W = wr := ⟨_, rfl⟩
  by_cases hlt : i < j
  ·
   obtain ⟨h, hh⟩ : ∃ h, h = (i + j) / 2 := ⟨_, rfl⟩
   have hq1 : IntKind.i64.wrap (h : Int) = (h : Int) := IntWalk.i64_in _ (by omega)
   have hme : ((i : Int) + (j : Int)) / 2 = (h : Int) := by omega
   have hih : i ≤ h := by omega
   have hhj : h < j := by omega
   have hii : (i : Int) < (j : Int) := by omega
   have hh0 : (0 : Int) ≤ (h : Int) := by omega
   have hh1 : (h : Int) < (N : Int) := by omega
   obtain ⟨x, hx⟩ : ∃ x, L.getD h 0 = x := ⟨_, rfl⟩
   have Hx := Lib.hid hx
   clear hx hh hij Hf Hr
   have hSS : ∀ W, Below wo.heap.size wo W → W.cell? ⟨g, h, none⟩ = some (.int .i64 x) ∧ W.cell? ⟨g, a, none⟩ = some (.int .i64 u) := fun W hW => by
    have h1 := ((hr.ext hW).at_ (j := h) (by rw [HL.out]; omega)).1
    have h2 := ((hr.ext hW).at_ (j := a) (by rw [HL.out]; omega)).1
    rw [Hx.out] at h1; rw [Hu.out] at h2
    exact ⟨h1, h2⟩
   have hcm := fun V (hV : Below wo.heap.size wo V) => Hc.out V x u (grownBy_below hf hV)
   have HS := Lib.hid hSS; have Hcm := Lib.hid hcm; have Hf2 := Lib.hid hf; have Hr2 := Lib.hid hr
   have hS := HS.out _ (below_drewN' wo.heap.size wo 1)
   clear hSS hcm hf hr
   go_wp2_with fail
   refine wp_region_D (fun W => W.cell? ⟨g, h, none⟩ = some (.int .i64 x) ∧ W.cell? ⟨g, a, none⟩ = some (.int .i64 u)) (fun _ => false) (by kernel_rfl) ?_
   change anyD _ _ _ _ _ _ _ _ _ (wo.drewN 1)
   have hbV := below_drewN' wo.heap.size wo 1
   generalize wo.drewN 1 = V0 at hS hbV ⊢
   have HBV := Lib.hid hbV
   (refine anyD_l5 (i := 0) (v := ?_) rfl (by kernel_rfl) (fun _ _ _ h => h) (.inl ⟨by kernel_rfl, fun W9 hW9 => ?_⟩) hS ?_; rotate_left; · (obtain ⟨hw0, hw1⟩ := hW9; go_simp; rfl))
   (refine anyD_l5 (i := 1) (v := ?_) rfl (by kernel_rfl) (fun _ _ _ h => h) (.inl ⟨by kernel_rfl, fun W9 hW9 => ?_⟩) hS ?_; rotate_left; · (obtain ⟨hw0, hw1⟩ := hW9; go_simp; rfl))
   (refine anyD_l5 (i := 2) (v := ?_) rfl (by kernel_rfl) (fun _ _ _ h => h) (.inl ⟨by kernel_rfl, fun W9 hW9 => ?_⟩) hS ?_; rotate_left; · (obtain ⟨hw0, hw1⟩ := hW9; go_simp; rfl))
   (refine anyD_l5 (i := 3) (v := ?_) rfl (by kernel_rfl) (fun _ _ _ h => h) (.inl ⟨by kernel_rfl, fun W9 hW9 => ?_⟩) hS ?_; rotate_left; · (obtain ⟨hw0, hw1⟩ := hW9; go_simp; rfl))
   (refine anyD_l5 (i := 4) (v := ?_) rfl (by kernel_rfl) (fun _ _ _ h => h) (.inl ⟨by kernel_rfl, fun W9 hW9 => ?_⟩) hS ?_; rotate_left; · (obtain ⟨hw0, hw1⟩ := hW9; go_simp; rfl))
   (refine anyD_l5 (i := 5) (v := ?_) rfl (by kernel_rfl) (fun _ _ _ h => h) (.inl ⟨by kernel_rfl, fun W9 hW9 => ?_⟩) hS ?_; rotate_left; · (obtain ⟨hw0, hw1⟩ := hW9; go_simp; rfl))
   go_simp
   (refine anyD_l5 (i := 6) (v := ?_) rfl (by kernel_rfl) (fun _ _ _ h => h) (.inl ⟨by kernel_rfl, fun W9 hW9 => ?_⟩) hS ?_; rotate_left; · (obtain ⟨hw0, hw1⟩ := hW9; go_simp; rfl))
   (refine anyD_l5 (i := 7) (v := ?_) rfl (by kernel_rfl) (fun _ _ _ h => h) (.inl ⟨by kernel_rfl, fun W9 hW9 => ?_⟩) hS ?_; rotate_left; · (obtain ⟨hw0, hw1⟩ := hW9; go_simp; rfl))
   (refine anyD_l5 (i := 8) (v := ?_) rfl (by kernel_rfl) (fun _ _ _ h => h) (.inl ⟨by kernel_rfl, fun W9 hW9 => ?_⟩) hS ?_; rotate_left; · (obtain ⟨hw0, hw1⟩ := hW9; go_simp; rfl))
   go_simp
   refine anyD_one (i := 9) (by kernel_rfl) rfl rfl (fun K hK => ?_)
   have HK := Lib.hid hK
   clear hK
   unfold Oper.wp
   go_simp
   refine (Hcm.out _ (HBV.out)).mono ?_
   rintro e w5 ⟨rfl, hb5⟩
   have hb05 := HBV.out.trans (hb5.mono HBV.out.size)
   have hS := HS.out _ hb05
   refine HK.out _ _ (fun _ => hS) ?_
   clear HK
   (refine anyD_l5 (i := 10) (v := ?_) rfl (by kernel_rfl) (fun _ _ _ h => h) (.inl ⟨by kernel_rfl, fun W9 hW9 => ?_⟩) hS ?_; rotate_left; · (obtain ⟨hw0, hw1⟩ := hW9; go_simp; rfl))
   go_simp
   refine anyD_done (by kernel_rfl) ?_ _
   have hf5 := grownBy_below Hf2.out hb05
   have hr5 := Hr2.out.ext hb05
   have hkx := Hk.out x u
   have Hf5 := Lib.hid hf5; have Hr5 := Lib.hid hr5
   clear hf5 hr5 hb5 hb05 hbV hS
   by_cases hneg : cf x u < 0
   ·have Hneg := Lib.hid (hkx.1 hneg)
    have hiw : IntKind.i64.wrap ((h : Int) + 1) = (h : Int) + 1 := IntWalk.i64_in _ (by omega)
    clear hkx
    go_wp2_with fail
    go_roundw
    case rel => exact ⟨h + 1, j, by go_num, rfl, by omega, by omega, hjb, Lib.hid fun c h1 h2 => by
     have := Hmono.out c h h1 (by omega) (by omega)
     rw [Hx.out] at this
     have := Hneg.out
     omega, Hhi, Hf5.out, Hr5.out⟩
    case measure => simp [intOf]; omega
   ·have Hneg := Lib.hid (show k u ≤ k x from Int.not_lt.1 fun h' => hneg (hkx.2 h'))
    clear hkx
    go_wp2_with fail
    go_roundw
    case rel => exact ⟨i, h, rfl, rfl, hmi, by omega, by omega, Hlo, Lib.hid fun c h1 h2 => by
     have := Hmono.out h c (by omega) h1 h2
     rw [Hx.out] at this
     have := Hneg.out
     omega, Hf5.out, Hr5.out⟩
    case measure => simp [intOf]; omega
  ·obtain rfl : i = j := by omega
   have hii : ¬ (i : Int) < (i : Int) := by omega
   have hiw : IntKind.i64.wrap ((i : Int) - 1) = ((i - 1 : Nat) : Int) := by rw [show (i : Int) - 1 = ((i - 1 : Nat) : Int) by omega]; exact IntWalk.i64_in _ (by omega)
   have hss := Hone.out i hmi (by rw [HVb.out]; exact hjb) Hlo.out (fun c h1 h2 => Hhi.out c h1 (by rw [← HVb.out]; exact h2))
   have hrow : RowI g (P ++ V.take (a - a) ++ u :: V.drop (a - a) ++ R) wo := by
    rw [← HLL.out] at hr
    simpa using hr
   have Hss := Lib.hid hss; have Hrow := Lib.hid hrow; have Hf2 := Lib.hid hf
   have hlen : (P ++ u :: V ++ R).length = N := by have := HL.out; rw [← HLL.out] at this; simpa using this
   have Hlen := Lib.hid hlen
   clear hss hr hf Hlo Hhi Hone Hmono Hf Hr hrow hij hlt hlen
   go_wp2_with fail
   go_loopw [13] (fun kv wr => ∃ kk : Nat, kv = .int .i64 (kk : Int) ∧ a ≤ kk ∧ kk + 1 ≤ i ∧ w0.grownBy wr (some g) ∧ RowI g (P ++ V.take (kk - a) ++ u :: V.drop (kk - a) ++ R) wr) (fun kv _ => i - (intOf kv).toNat)
   case atStart => exact ⟨a, rfl, Nat.le_refl _, by have := Hm.out; omega, Hf2.out, Hrow.out⟩
   case round =>
    obtain ⟨kk, rfl, hak, hki, hf, hr⟩ := hrel
    obtain ⟨wi, rfl⟩ : ∃ W, W = wr := ⟨_, rfl⟩
    by_cases hkl : kk + 1 < i
    ·have hkc : (kk : Int) < ((i - 1 : Nat) : Int) := by omega
     have htV : kk - a < V.length := by have := HVb.out; have := Hm.out; omega
     obtain ⟨x, hx⟩ : ∃ x, V[kk - a] = x := ⟨_, rfl⟩
     have hA : (P ++ V.take (kk - a)).length = kk := by rw [List.length_append, List.length_take, HP.out]; omega
     have hd : V.drop (kk - a) = x :: V.drop (kk - a + 1) := by rw [List.drop_eq_getElem_cons htV, hx]
     have e1 : P ++ V.take (kk - a) ++ u :: V.drop (kk - a) ++ R = (P ++ V.take (kk - a)) ++ u :: [] ++ x :: (V.drop (kk - a + 1) ++ R) := by rw [hd]; simp
     have e2 : (P ++ V.take (kk - a)) ++ x :: [] ++ u :: (V.drop (kk - a + 1) ++ R) = P ++ V.take (kk + 1 - a) ++ u :: V.drop (kk + 1 - a) ++ R := by
      rw [show kk + 1 - a = kk - a + 1 by omega, List.take_succ_eq_append_getElem htV, hx]; simp
     have hsw := Rk.swp_mid (P ++ V.take (kk - a)) u [] x (V.drop (kk - a + 1) ++ R)
     rw [e1] at hr
     have hll : ((P ++ V.take (kk - a)) ++ u :: [] ++ x :: (V.drop (kk - a + 1) ++ R)).length = N := by
      rw [← e1, ← Hlen.out]
      simp only [List.length_append, List.length_cons, List.length_take, List.length_drop]
      omega
     have hkN : kk + 1 < N := by rw [← hll]; simp only [List.length_append, List.length_cons, List.length_nil] at hA ⊢; omega
     obtain ⟨c1, f1⟩ := hr.at_ (j := kk) (by rw [hll]; omega)
     obtain ⟨c2, f2⟩ := hr.at_ (j := kk + 1) (by rw [hll]; omega)
     have e0 : (P ++ V.take (kk - a)) ++ u :: [] ++ x :: (V.drop (kk - a + 1) ++ R) = (P ++ V.take (kk - a)) ++ u :: x :: (V.drop (kk - a + 1) ++ R) := by simp
     have g1 := Rk.getD_mid (P ++ V.take (kk - a)) u (x :: (V.drop (kk - a + 1) ++ R))
     have g2 := Rk.getD_mid2 (P ++ V.take (kk - a)) u x (V.drop (kk - a + 1) ++ R)
     rw [hA, ← e0] at g1 g2
     have hswr := hr.swp kk (kk + 1)
     rw [hA, List.length_nil, Nat.add_zero] at hsw
     rw [hsw, e2, g1, g2] at hswr
     rw [g1] at c1; rw [g2] at c2
     have hk0 : (0 : Int) ≤ (kk : Int) := by omega
     have hk1 : (kk : Int) < (N : Int) := by omega
     have hk2 : (0 : Int) ≤ (kk : Int) + 1 := by omega
     have hk3 : (kk : Int) + 1 < (N : Int) := by omega
     have hkw : IntKind.i64.wrap ((kk : Int) + 1) = (kk : Int) + 1 := IntWalk.i64_in _ (by omega)
     have hkt : ((kk : Int) + 1).toNat = kk + 1 := by omega
     have hnk : kk ≠ kk + 1 := by omega
     have Hsw := Lib.hid hswr; have Hf3 := Lib.hid hf
     clear hr hf hswr hsw e0 e1 e2 hd hA hll g1 g2 hx htV
     go_wp2_with fail
     go_region
     obtain ⟨V9, hV9⟩ : ∃ W, (wi.setCell ⟨g, kk, none⟩ (.int .i64 x)).setCell ⟨g, kk + 1, none⟩ (.int .i64 u) = W := ⟨_, rfl⟩
     have hswV := Hsw.out
     rw [hV9] at hswV ⊢
     have hfV : w0.grownBy V9 (some g) := by rw [← hV9]; exact grownBy_set (grownBy_set Hf3.out _ _) _ _
     have HswV := Lib.hid hswV; have HfV := Lib.hid hfV
     clear hswV hfV hV9 Hsw c1 c2 f1 f2
     go_wp2_with fail
     go_roundw
     case rel => exact ⟨kk + 1, by go_num, by omega, by omega, grownBy_below HfV.out (Below.refl _ _).drew, HswV.out.ext (Below.refl _ _).drew⟩
     case measure => simp [intOf]; omega
    ·have hkc : ¬ (kk : Int) < ((i - 1 : Nat) : Int) := by omega
     have hke : kk - a = i - m := by have := Hm.out; omega
     rw [hke] at hr
     have Hr9 := Lib.hid hr; have Hf9 := Lib.hid hf
     clear hr hf
     go_wp2_with fail
     refine bodyPost_ret (v := .tuple #[]) (results_none rfl _ _ _) rfl ?_
     exact ⟨rfl, Hf9.out, _, Hss.out, by have := Hr9.out; simpa using this⟩
set_option maxRecDepth 100000 in
set_option maxHeartbeats 8000000 in
theorem symRight_ok (w0 : World) (g c gx gl N : Nat) (cf : Int → Int → Int) (k : Int → Int) (hk : ∀ i j, cf i j < 0 ↔ k i < k j) (hcmp : CmpAt w0 g gx gl cf) (P U R : List Int) (v : Int) (hN : (P ++ U ++ v :: R).length = N) (hln : N ≤ 1000000) (a m : Nat) (ha : P.length = a) (hm : a + U.length = m) (hU1 : 1 < U.length) (hU : Rk.Up k U) (w : World) (hf : w0.grownBy w (some g)) (hr : RowI g (P ++ U ++ v :: R) w) :
  Calls Tryz.prog 71 #[.slice (some ⟨g, 0, none⟩) N c, .int .i64 a, .int .i64 m, .int .i64 (m + 1 : Nat), .func (.func 26) #[] #[.pointer (some ⟨gx, 0, none⟩), .pointer (some ⟨gl, 0, none⟩)]] w fun e w' => e = .returned (.tuple #[]) ∧ w0.grownBy w' (some g) ∧ ∃ M, Rk.SS k (U ++ [v]) M ∧ RowI g (P ++ M ++ R) w' := by
 obtain ⟨L, hL⟩ : ∃ L, P ++ U ++ v :: R = L := ⟨_, rfl⟩
 rw [hL] at hN hr
 have hmN : m + 1 ≤ N := by
  rw [← hN, ← hL]
  simp only [List.length_append, List.length_cons]
  omega
 obtain ⟨b, hb⟩ : ∃ b, m + 1 = b := ⟨_, rfl⟩
 rw [hb]
 have hmono : ∀ c c', a ≤ c → c ≤ c' → c' < m → k (L.getD c 0) ≤ k (L.getD c' 0) := fun c c' h1 h2 h3 => by
  rw [← hL]
  exact Rk.up_at hU (by omega) h2 (by omega)
 have hvm : L.getD m 0 = v := by
  have hl : (P ++ U).length = m := by simp; omega
  rw [← hL, ← hl, Rk.getD_mid]
 have hone := fun s h0 h1 => Rk.one_right (k := k) (P := P) (R := R) (v := v) hU (a := a) (s := s) ha h0 h1
 have hma : IntKind.i64.wrap ((m : Int) - (a : Int)) = ((m - a : Nat) : Int) := by rw [show (m : Int) - (a : Int) = ((m - a : Nat) : Int) by omega]; exact IntWalk.i64_in _ (by omega)
 have hma1 : (((m - a : Nat) : Int) == 1) = false := by rw [beq_eq_false_iff_ne]; omega
 have hbm : IntKind.i64.wrap ((b : Int) - (m : Int)) = 1 := by rw [show (b : Int) - (m : Int) = 1 by omega]; rfl
 have hvN : (m : Int) < (N : Int) := by omega
 have hv0 : (0 : Int) ≤ (m : Int) := by omega
 rw [hL] at hone
 have Hone := Lib.hid hone; have Hmono := Lib.hid hmono; have Hk := Lib.hid hk
 have Hc := Lib.hid hcmp; have Hf := Lib.hid hf; have Hr := Lib.hid hr; have HL := Lib.hid hN; have HLL := Lib.hid hL; have Hv := Lib.hid hvm; have HP := Lib.hid ha; have Hm := Lib.hid hm
 have ham : a ≤ m := by omega
 have eg : ∀ args w, (callFunc 26 args).run Tryz.prog w = .ok (.enter 26 args) w := enters_of Tryz.func26 (by kernel_rfl) rfl
 clear hcmp hf hr hN hL hvm hone hmono hk hU ha hm hb
 go_enter Tryz.func71, Tryz.ntmps71
 go_wp2_with fail
 clear hma hma1 hbm
 go_loopw [14, 15] (fun iv jv wr => ∃ (i j : Nat), iv = .int .i64 (i : Int) ∧ jv = .int .i64 (j : Int) ∧ a ≤ i ∧ i ≤ j ∧ j ≤ m ∧ Hid (∀ c, a ≤ c → c < i → k (L.getD c 0) ≤ k v) ∧ Hid (∀ c, j ≤ c → c < m → k v < k (L.getD c 0)) ∧ w0.grownBy wr (some g) ∧ RowI g L wr) (fun iv jv _ => (intOf jv - intOf iv).toNat)
 case atStart => exact ⟨a, m, rfl, rfl, Nat.le_refl _, ham, Nat.le_refl _, Lib.hid fun c h1 h2 => absurd h1 (by omega), Lib.hid fun c h1 h2 => absurd h1 (by omega), Hf.out, Hr.out⟩
 case round =>
  obtain ⟨i, j, rfl, rfl, hmi, hij, hjb, Hlo, Hhi, hf, hr⟩ := hrel
  obtain ⟨wo, rfl⟩ : ∃ W, W = wr := ⟨_, rfl⟩
  by_cases hlt : i < j
  ·
   obtain ⟨h, hh⟩ : ∃ h, h = (i + j) / 2 := ⟨_, rfl⟩
   have hq1 : IntKind.i64.wrap (h : Int) = (h : Int) := IntWalk.i64_in _ (by omega)
   have hme : ((i : Int) + (j : Int)) / 2 = (h : Int) := by omega
   have hih : i ≤ h := by omega
   have hhj : h < j := by omega
   have hii : (i : Int) < (j : Int) := by omega
   have hh0 : (0 : Int) ≤ (h : Int) := by omega
   have hh1 : (h : Int) < (N : Int) := by omega
   obtain ⟨x, hx⟩ : ∃ x, L.getD h 0 = x := ⟨_, rfl⟩
   have Hx := Lib.hid hx
   clear hx hh hij Hf Hr
   have hSS : ∀ W, Below wo.heap.size wo W → W.cell? ⟨g, m, none⟩ = some (.int .i64 v) ∧ W.cell? ⟨g, h, none⟩ = some (.int .i64 x) := fun W hW => by
    have h1 := ((hr.ext hW).at_ (j := m) (by rw [HL.out]; omega)).1
    have h2 := ((hr.ext hW).at_ (j := h) (by rw [HL.out]; omega)).1
    rw [Hv.out] at h1; rw [Hx.out] at h2
    exact ⟨h1, h2⟩
   have hcm := fun V (hV : Below wo.heap.size wo V) => Hc.out V v x (grownBy_below hf hV)
   have HS := Lib.hid hSS; have Hcm := Lib.hid hcm; have Hf2 := Lib.hid hf; have Hr2 := Lib.hid hr
   have hS := HS.out _ (below_drewN' wo.heap.size wo 1)
   clear hSS hcm hf hr
   go_wp2_with fail
   refine wp_region_D (fun W => W.cell? ⟨g, m, none⟩ = some (.int .i64 v) ∧ W.cell? ⟨g, h, none⟩ = some (.int .i64 x)) (fun _ => false) (by kernel_rfl) ?_
   change anyD _ _ _ _ _ _ _ _ _ (wo.drewN 1)
   have hbV := below_drewN' wo.heap.size wo 1
   generalize wo.drewN 1 = V0 at hS hbV ⊢
   have HBV := Lib.hid hbV
   (refine anyD_l5 (i := 0) (v := ?_) rfl (by kernel_rfl) (fun _ _ _ h => h) (.inl ⟨by kernel_rfl, fun W9 hW9 => ?_⟩) hS ?_; rotate_left; · (obtain ⟨hw0, hw1⟩ := hW9; go_simp; rfl))
   (refine anyD_l5 (i := 1) (v := ?_) rfl (by kernel_rfl) (fun _ _ _ h => h) (.inl ⟨by kernel_rfl, fun W9 hW9 => ?_⟩) hS ?_; rotate_left; · (obtain ⟨hw0, hw1⟩ := hW9; go_simp; rfl))
   (refine anyD_l5 (i := 2) (v := ?_) rfl (by kernel_rfl) (fun _ _ _ h => h) (.inl ⟨by kernel_rfl, fun W9 hW9 => ?_⟩) hS ?_; rotate_left; · (obtain ⟨hw0, hw1⟩ := hW9; go_simp; rfl))
   (refine anyD_l5 (i := 3) (v := ?_) rfl (by kernel_rfl) (fun _ _ _ h => h) (.inl ⟨by kernel_rfl, fun W9 hW9 => ?_⟩) hS ?_; rotate_left; · (obtain ⟨hw0, hw1⟩ := hW9; go_simp; rfl))
   (refine anyD_l5 (i := 4) (v := ?_) rfl (by kernel_rfl) (fun _ _ _ h => h) (.inl ⟨by kernel_rfl, fun W9 hW9 => ?_⟩) hS ?_; rotate_left; · (obtain ⟨hw0, hw1⟩ := hW9; go_simp; rfl))
   (refine anyD_l5 (i := 5) (v := ?_) rfl (by kernel_rfl) (fun _ _ _ h => h) (.inl ⟨by kernel_rfl, fun W9 hW9 => ?_⟩) hS ?_; rotate_left; · (obtain ⟨hw0, hw1⟩ := hW9; go_simp; rfl))
   go_simp
   (refine anyD_l5 (i := 6) (v := ?_) rfl (by kernel_rfl) (fun _ _ _ h => h) (.inl ⟨by kernel_rfl, fun W9 hW9 => ?_⟩) hS ?_; rotate_left; · (obtain ⟨hw0, hw1⟩ := hW9; go_simp; rfl))
   (refine anyD_l5 (i := 7) (v := ?_) rfl (by kernel_rfl) (fun _ _ _ h => h) (.inl ⟨by kernel_rfl, fun W9 hW9 => ?_⟩) hS ?_; rotate_left; · (obtain ⟨hw0, hw1⟩ := hW9; go_simp; rfl))
   (refine anyD_l5 (i := 8) (v := ?_) rfl (by kernel_rfl) (fun _ _ _ h => h) (.inl ⟨by kernel_rfl, fun W9 hW9 => ?_⟩) hS ?_; rotate_left; · (obtain ⟨hw0, hw1⟩ := hW9; go_simp; rfl))
   go_simp
   refine anyD_one (i := 9) (by kernel_rfl) rfl rfl (fun K hK => ?_)
   have HK := Lib.hid hK
   clear hK
   unfold Oper.wp
   go_simp
   refine (Hcm.out _ (HBV.out)).mono ?_
   rintro e w5 ⟨rfl, hb5⟩
   have hb05 := HBV.out.trans (hb5.mono HBV.out.size)
   have hS := HS.out _ hb05
   refine HK.out _ _ (fun _ => hS) ?_
   clear HK
   (refine anyD_l5 (i := 10) (v := ?_) rfl (by kernel_rfl) (fun _ _ _ h => h) (.inl ⟨by kernel_rfl, fun W9 hW9 => ?_⟩) hS ?_; rotate_left; · (obtain ⟨hw0, hw1⟩ := hW9; go_simp; rfl))
   (refine anyD_l5 (i := 11) (v := ?_) rfl (by kernel_rfl) (fun _ _ _ h => h) (.inl ⟨by kernel_rfl, fun W9 hW9 => ?_⟩) hS ?_; rotate_left; · (obtain ⟨hw0, hw1⟩ := hW9; go_simp; rfl))
   go_simp
   refine anyD_done (by kernel_rfl) ?_ _
   have hf5 := grownBy_below Hf2.out hb05
   have hr5 := Hr2.out.ext hb05
   have hkx := Hk.out v x
   have Hf5 := Lib.hid hf5; have Hr5 := Lib.hid hr5
   clear hf5 hr5 hb5 hb05 hbV hS
   by_cases hneg : cf v x < 0
   ·have Hneg := Lib.hid (hkx.1 hneg)
    have hnd : decide (cf v x < 0) = true := decide_eq_true hneg
    rw [show (!decide (cf v x < 0)) = false by rw [hnd]; rfl]
    clear hkx hnd
    go_wp2_with fail
    go_roundw
    case rel => exact ⟨i, h, rfl, rfl, hmi, by omega, by omega, Hlo, Lib.hid fun c h1 h2 => by
     have := Hmono.out h c (by omega) h1 h2
     rw [Hx.out] at this
     have := Hneg.out
     omega, Hf5.out, Hr5.out⟩
    case measure => simp [intOf]; omega
   ·have Hneg := Lib.hid (show k x ≤ k v from Int.not_lt.1 fun h' => hneg (hkx.2 h'))
    have hnd : decide (cf v x < 0) = false := decide_eq_false hneg
    rw [show (!decide (cf v x < 0)) = true by rw [hnd]; rfl]
    have hiw : IntKind.i64.wrap ((h : Int) + 1) = (h : Int) + 1 := IntWalk.i64_in _ (by omega)
    clear hkx
    go_wp2_with fail
    go_roundw
    case rel => exact ⟨h + 1, j, by go_num, rfl, by omega, by omega, hjb, Lib.hid fun c h1 h2 => by
     have := Hmono.out c h h1 (by omega) (by omega)
     rw [Hx.out] at this
     have := Hneg.out
     omega, Hhi, Hf5.out, Hr5.out⟩
    case measure => simp [intOf]; omega
  ·obtain rfl : i = j := by omega
   have hii : ¬ (i : Int) < (i : Int) := by omega
   have hss := Hone.out i hmi (by rw [Hm.out]; exact hjb) Hlo.out (fun c h1 h2 => Hhi.out c h1 (by rw [← Hm.out]; exact h2))
   have hrow : RowI g (P ++ U.take (m - a) ++ v :: U.drop (m - a) ++ R) wo := by
    rw [← HLL.out] at hr
    rw [show m - a = U.length by have := Hm.out; omega, List.take_length, List.drop_length]
    simpa using hr
   have Hss := Lib.hid hss; have Hrow := Lib.hid hrow; have Hf2 := Lib.hid hf
   have hlen : (P ++ U ++ v :: R).length = N := by have := HL.out; rw [← HLL.out] at this; exact this
   have Hlen := Lib.hid hlen
   clear hss hr hf Hlo Hhi Hone Hmono Hf Hr hrow hij hlt hlen
   go_wp2_with fail
   go_loopw [17] (fun kv wr => ∃ kk : Nat, kv = .int .i64 (kk : Int) ∧ i ≤ kk ∧ kk ≤ m ∧ w0.grownBy wr (some g) ∧ RowI g (P ++ U.take (kk - a) ++ v :: U.drop (kk - a) ++ R) wr) (fun kv _ => (intOf kv).toNat)
   case atStart => exact ⟨m, rfl, hjb, Nat.le_refl _, Hf2.out, Hrow.out⟩
   case round =>
    obtain ⟨kk, rfl, hak, hki, hf, hr⟩ := hrel
    obtain ⟨wi, rfl⟩ : ∃ W, W = wr := ⟨_, rfl⟩
    by_cases hkl : i < kk
    ·obtain ⟨q, rfl⟩ : ∃ q, kk = q + 1 := ⟨kk - 1, by omega⟩
     have hkc : (i : Int) < (q : Int) + 1 := by omega
     have htU : q - a < U.length := by have := Hm.out; omega
     obtain ⟨x, hx⟩ : ∃ x, U[q - a] = x := ⟨_, rfl⟩
     have hA : (P ++ U.take (q - a)).length = q := by rw [List.length_append, List.length_take, HP.out]; omega
     have e1 : P ++ U.take (q + 1 - a) ++ v :: U.drop (q + 1 - a) ++ R = (P ++ U.take (q - a)) ++ x :: v :: (U.drop (q + 1 - a) ++ R) := by
      rw [show q + 1 - a = q - a + 1 by omega, List.take_succ_eq_append_getElem htU, hx]; simp
     have hd : U.drop (q - a) = x :: U.drop (q - a + 1) := by rw [List.drop_eq_getElem_cons htU, hx]
     have e2 : (P ++ U.take (q - a)) ++ v :: x :: (U.drop (q + 1 - a) ++ R) = P ++ U.take (q - a) ++ v :: U.drop (q - a) ++ R := by
      rw [hd, show q + 1 - a = q - a + 1 by omega]; simp
     have hsw := Rk.swapL_mid (P ++ U.take (q - a)) x v (U.drop (q + 1 - a) ++ R)
     have hll : (P ++ U.take (q + 1 - a) ++ v :: U.drop (q + 1 - a) ++ R).length = N := by
      rw [← Hlen.out]
      simp only [List.length_append, List.length_cons, List.length_take, List.length_drop]
      omega
     rw [e1] at hr hll
     have hkN : q + 1 < N := by rw [← hll]; simp only [List.length_append, List.length_cons] at hA ⊢; omega
     obtain ⟨c1, f1⟩ := hr.at_ (j := q) (by rw [hll]; omega)
     obtain ⟨c2, f2⟩ := hr.at_ (j := q + 1) (by rw [hll]; omega)
     have g1 := Rk.getD_mid (P ++ U.take (q - a)) x (v :: (U.drop (q + 1 - a) ++ R))
     have g2 := Rk.getD_mid2 (P ++ U.take (q - a)) x v (U.drop (q + 1 - a) ++ R)
     rw [hA] at g1 g2
     have hswr := hr.swap q
     rw [hA] at hsw
     rw [hsw, e2, g1, g2] at hswr
     rw [g1] at c1; rw [g2] at c2
     have hk0 : (0 : Int) ≤ (q : Int) := by omega
     have hk1 : (q : Int) < (N : Int) := by omega
     have hk2 : (0 : Int) ≤ (q : Int) + 1 := by omega
     have hk3 : (q : Int) + 1 < (N : Int) := by omega
     have hkw : IntKind.i64.wrap (q : Int) = (q : Int) := IntWalk.i64_in _ (by omega)
     have hkt : ((q : Int) + 1).toNat = q + 1 := by omega
     have hnk : q ≠ q + 1 := by omega
     have Hsw := Lib.hid hswr; have Hf3 := Lib.hid hf
     clear hr hf hswr hsw e1 e2 hd hA hll g1 g2 hx htU
     go_wp2_with fail
     go_region
     obtain ⟨V9, hV9⟩ : ∃ W, (wi.setCell ⟨g, q + 1, none⟩ (.int .i64 x)).setCell ⟨g, q, none⟩ (.int .i64 v) = W := ⟨_, rfl⟩
     have hswV := Hsw.out
     rw [hV9] at hswV ⊢
     have hfV : w0.grownBy V9 (some g) := by rw [← hV9]; exact grownBy_set (grownBy_set Hf3.out _ _) _ _
     have HswV := Lib.hid hswV; have HfV := Lib.hid hfV
     clear hswV hfV hV9 Hsw c1 c2 f1 f2
     go_wp2_with fail
     go_roundw
     case rel => exact ⟨q, by go_num, by omega, by omega, grownBy_below HfV.out (Below.refl _ _).drew, HswV.out.ext (Below.refl _ _).drew⟩
     case measure => simp [intOf]
    ·have hkc : ¬ (i : Int) < (kk : Int) := by omega
     obtain rfl : kk = i := by omega
     have Hr9 := Lib.hid hr; have Hf9 := Lib.hid hf
     clear hr hf
     go_wp2_with fail
     refine bodyPost_ret (v := .tuple #[]) (results_none rfl _ _ _) rfl ?_
     exact ⟨rfl, Hf9.out, _, Hss.out, by have := Hr9.out; simpa using this⟩
end Go.Proofs.YtnlhocbaighedaaGreatDoor

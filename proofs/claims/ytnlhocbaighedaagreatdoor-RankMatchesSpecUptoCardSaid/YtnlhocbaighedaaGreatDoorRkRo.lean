/-
  slices.rotateCmpFunc on ints.
-/
import Derived.Test.YtnlhocbaighedaaGreatDoorRkSw
namespace Go.Proofs.YtnlhocbaighedaaGreatDoor
open Go.RowKit
set_option linter.unusedVariables false
set_option maxRecDepth 100000 in
set_option maxHeartbeats 8000000 in
theorem rotate_ok (w0 : World) (g c N : Nat) (f : Value) (P U V R : List Int) (hN : (P ++ U ++ V ++ R).length = N) (hln : N ≤ 1000000) (a m b : Nat) (ha : P.length = a) (hm : a + U.length = m) (hb : m + V.length = b) (hU : 0 < U.length) (hV : 0 < V.length) (w : World) (hf : w0.grownBy w (some g)) (hr : RowI g (P ++ U ++ V ++ R) w) :
  Calls Tryz.prog 101 #[.slice (some ⟨g, 0, none⟩) N c, .int .i64 a, .int .i64 m, .int .i64 b, f] w fun e w' => e = .returned (.tuple #[]) ∧ w0.grownBy w' (some g) ∧ RowI g (P ++ V ++ U ++ R) w' := by
 have hbN : b ≤ N := by
  rw [← hN, ← hb, ← hm, ← ha]
  simp only [List.length_append]
  omega
 have hma : IntKind.i64.wrap ((m : Int) - (a : Int)) = ((m - a : Nat) : Int) := by rw [show (m : Int) - (a : Int) = ((m - a : Nat) : Int) by omega]; exact IntWalk.i64_in _ (by omega)
 have hbm : IntKind.i64.wrap ((b : Int) - (m : Int)) = ((b - m : Nat) : Int) := by rw [show (b : Int) - (m : Int) = ((b - m : Nat) : Int) by omega]; exact IntWalk.i64_in _ (by omega)
 obtain ⟨F, hF⟩ : ∃ F, P ++ V ++ U ++ R = F := ⟨_, rfl⟩
 rw [hF]
 have hI0 : ∃ (A B U1 V1 : List Int), U1.length = m - a ∧ V1.length = b - m ∧ P.length + A.length + (m - a) = m ∧ P ++ U ++ V ++ R = P ++ A ++ U1 ++ V1 ++ B ++ R ∧ P ++ A ++ V1 ++ U1 ++ B ++ R = F := ⟨[], [], U, V, by omega, by omega, by simp; omega, by simp, by simp [← hF]⟩
 have hUV : 0 < m - a ∧ 0 < b - m := by omega
 have hlen := hN
 obtain ⟨L, hL⟩ : ∃ L, P ++ U ++ V ++ R = L := ⟨_, rfl⟩
 rw [hL] at hI0 hr hlen
 have Hf := Lib.hid hf; have Hr := Lib.hid hr; have HI0 := Lib.hid hI0; have HL := Lib.hid hlen
 clear hf hr hI0 hN hlen hL hF ha hm hb
 go_enter Tryz.func101, Tryz.ntmps101
 go_wp2_with fail
 go_loopw [10, 11] (fun iv jv wr => ∃ (i j : Nat) (A B U1 V1 : List Int), iv = .int .i64 (i : Int) ∧ jv = .int .i64 (j : Int) ∧ 0 < i ∧ 0 < j ∧ U1.length = i ∧ V1.length = j ∧ P.length + A.length + i = m ∧ m + j ≤ N ∧ Hid (P ++ A ++ V1 ++ U1 ++ B ++ R = F) ∧ (P ++ A ++ U1 ++ V1 ++ B ++ R).length = N ∧ w0.grownBy wr (some g) ∧ RowI g (P ++ A ++ U1 ++ V1 ++ B ++ R) wr) (fun iv jv _ => (intOf iv).toNat + (intOf jv).toNat)
 case atStart =>
  obtain ⟨A, B, U1, V1, h1, h2, h3, h4, h5⟩ := HI0.out
  refine ⟨m - a, b - m, A, B, U1, V1, rfl, rfl, hUV.1, hUV.2, h1, h2, h3, by omega, Lib.hid h5, ?_, Hf.out, ?_⟩
  ·rw [← h4]; exact HL.out
  ·rw [← h4]; exact Hr.out
 case round =>
  obtain ⟨i, j, A, B, U1, V1, rfl, rfl, hi0, hj0, hu, hv, hPA, hmj, HF, hlN, hf, hr⟩ := hrel
  obtain ⟨wo, rfl⟩ : ∃ W, W = wr := ⟨_, rfl⟩
  have hmi : IntKind.i64.wrap ((m : Int) - (i : Int)) = ((m - i : Nat) : Int) := by rw [show (m : Int) - (i : Int) = ((m - i : Nat) : Int) by omega]; exact IntWalk.i64_in _ (by omega)
  clear hma hbm hUV HI0 HL Hf Hr
  by_cases hlt : j < i
  ·have hne : (i : Int) ≠ (j : Int) := by omega
   have hneb : ((i : Int) != (j : Int)) = true := by simpa using hne
   have hgt : (j : Int) < (i : Int) := by omega
   have hij : IntKind.i64.wrap ((i : Int) - (j : Int)) = ((i - j : Nat) : Int) := by rw [show (i : Int) - (j : Int) = ((i - j : Nat) : Int) by omega]; exact IntWalk.i64_in _ (by omega)
   have e : P ++ A ++ U1 ++ V1 ++ B ++ R = (P ++ A) ++ U1.take j ++ U1.drop j ++ V1 ++ (B ++ R) := by
    simp only [List.append_assoc]
    rw [← List.append_assoc (U1.take j) (U1.drop j), List.take_append_drop]
   have Hs := Lib.hid (swapRange_ok w0 g c N f (P ++ A) (U1.take j) (U1.drop j) V1 (B ++ R) (by rw [List.length_take]; omega) (by rw [← e]; exact hlN) hln (m - i) m j (by rw [List.length_append]; omega) (by rw [List.length_take, List.length_drop]; omega) (by rw [List.length_take]; omega) wo hf (by rw [← e]; exact hr))
   have hl2 : ((P ++ A) ++ V1 ++ U1.drop j ++ U1.take j ++ (B ++ R)).length = N := by
    have h1 := hlN
    simp only [List.length_append, List.length_take, List.length_drop] at h1 ⊢
    omega
   have HL2 := Lib.hid hl2
   clear hl2 e hr hf hlN
   go_wp2_with fail
   refine Hs.out.mono ?_
   clear Hs
   rintro e w1 ⟨rfl, hf1, hr1⟩
   have Hf1 := Lib.hid hf1; have Hr1 := Lib.hid hr1
   clear hf1 hr1
   go_wp2_with fail
   go_roundw
   case rel =>
    have hl3 := HL2.out
    refine ⟨i - j, j, A ++ V1, B, U1.drop j, U1.take j, rfl, rfl, by omega, hj0, by rw [List.length_drop]; omega, by rw [List.length_take]; omega, by rw [List.length_append]; omega, hmj, Lib.hid ?_, by simpa using hl3, Hf1.out, by simpa using Hr1.out⟩
    rw [← HF.out]
    simp only [List.append_assoc]
    rw [← List.append_assoc (U1.take j) (U1.drop j), List.take_append_drop]
   case measure => simp [intOf]; omega
  ·by_cases heq : i = j
   ·subst heq
    have hneb : ((i : Int) != (i : Int)) = false := by simp
    have Hs := Lib.hid (swapRange_ok w0 g c N f (P ++ A) U1 [] V1 (B ++ R) (by omega) (by simpa using hlN) hln (m - i) m i (by rw [List.length_append]; omega) (by simp; omega) hu wo hf (by simpa using hr))
    clear hr hf hlN
    go_wp2_with fail
    refine Hs.out.mono ?_
    clear Hs
    rintro e w1 ⟨rfl, hf1, hr1⟩
    have Hf1 := Lib.hid hf1; have Hr1 := Lib.hid hr1
    clear hf1 hr1
    go_wp2_with fail
    refine bodyPost_end (results_none rfl _ _ _) rfl ⟨rfl, Hf1.out, ?_⟩
    rw [← HF.out]
    simpa using Hr1.out
   ·have hne : (i : Int) ≠ (j : Int) := by omega
    have hneb : ((i : Int) != (j : Int)) = true := by simpa using hne
    have hgt : ¬ (j : Int) < (i : Int) := by omega
    have hij : IntKind.i64.wrap ((j : Int) - (i : Int)) = ((j - i : Nat) : Int) := by rw [show (j : Int) - (i : Int) = ((j - i : Nat) : Int) by omega]; exact IntWalk.i64_in _ (by omega)
    have hmji : IntKind.i64.wrap ((m : Int) + (j : Int) - (i : Int)) = ((m + j - i : Nat) : Int) := by rw [show (m : Int) + (j : Int) - (i : Int) = ((m + j - i : Nat) : Int) by omega]; exact IntWalk.i64_in _ (by omega)
    have e : P ++ A ++ U1 ++ V1 ++ B ++ R = (P ++ A) ++ U1 ++ V1.take (j - i) ++ V1.drop (j - i) ++ (B ++ R) := by
     simp only [List.append_assoc]
     rw [← List.append_assoc (V1.take (j - i)) (V1.drop (j - i)), List.take_append_drop]
    have Hs := Lib.hid (swapRange_ok w0 g c N f (P ++ A) U1 (V1.take (j - i)) (V1.drop (j - i)) (B ++ R) (by rw [List.length_drop]; omega) (by rw [← e]; exact hlN) hln (m - i) (m + j - i) i (by rw [List.length_append]; omega) (by rw [List.length_take]; omega) hu wo hf (by rw [← e]; exact hr))
    have hl2 : ((P ++ A) ++ V1.drop (j - i) ++ V1.take (j - i) ++ U1 ++ (B ++ R)).length = N := by
     have h1 := hlN
     simp only [List.length_append, List.length_take, List.length_drop] at h1 ⊢
     omega
    have HL2 := Lib.hid hl2
    clear hl2 e hr hf hlN
    go_wp2_with fail
    refine Hs.out.mono ?_
    clear Hs
    rintro e w1 ⟨rfl, hf1, hr1⟩
    have Hf1 := Lib.hid hf1; have Hr1 := Lib.hid hr1
    clear hf1 hr1
    go_wp2_with fail
    go_roundw
    case rel =>
     have hl3 := HL2.out
     refine ⟨i, j - i, A, U1 ++ B, V1.drop (j - i), V1.take (j - i), rfl, rfl, hi0, by omega, by rw [List.length_drop]; omega, by rw [List.length_take]; omega, hPA, by omega, Lib.hid ?_, by simpa using hl3, Hf1.out, by simpa using Hr1.out⟩
     rw [← HF.out]
     simp only [List.append_assoc]
     rw [← List.append_assoc (V1.take (j - i)) (V1.drop (j - i)), List.take_append_drop]
    case measure => simp [intOf]; omega
end Go.Proofs.YtnlhocbaighedaaGreatDoor

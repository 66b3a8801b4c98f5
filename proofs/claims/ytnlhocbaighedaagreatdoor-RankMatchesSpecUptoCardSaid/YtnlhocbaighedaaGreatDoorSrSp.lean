/-
  The reference's Split and isWord.
-/
import Derived.Test.YtnlhocbaighedaaGreatDoorR19
import Derived.Test.YtnlhocbaighedaaGreatDoorR9
import Derived.Test.YtnlhocbaighedaaGreatDoorR2
import Derived.Test.YtnlhocbaighedaaGreatDoorR10
namespace Go.Proofs.YtnlhocbaighedaaGreatDoor
open Go.RowKit
set_option linter.unusedVariables false
theorem splitS_size (s : Str) : (splitS s).length ≤ s.length + 1 := by
 rw [splitS_len]
 have : s.count 32 ≤ s.length := List.count_le_length
 omega
theorem splitS_lens {s x : Str} (h : x ∈ splitS s) : x.length ≤ s.length := (splitS_mem s x h).2
set_option maxRecDepth 100000 in
set_option maxHeartbeats 4000000 in
theorem refSplit_ok (s : Str) (hs : s.length ≤ 4398046511104) (w : World) : Calls Tryz.prog 28 #[.string (bs s)] w fun e w' => ∃ (A : Option Addr) (c : Nat) (L : List Str), e = .returned (.slice A L.length c) ∧ Hid (L = splitS s) ∧ Own strC M0 w' w.heap.size 9 (.slice A L.length c) L ∧ Below w.heap.size w w' := by
 go_enter Tryz.func28, Tryz.ntmps28
 go_wp2
 go_loopw [3, 4] (fun o i wr => ∃ (k : Nat) (A : Option Addr) (c : Nat) (L : List Str), k ≤ s.length ∧ i = .int .i64 (k : Int) ∧ o = .slice A L.length c ∧ Hid (L = splitS (s.take k)) ∧ Own strC M0 wr w.heap.size 9 (.slice A L.length c) L ∧ Below w.heap.size w wr) (fun _ i _ => s.length - (intOf i).toNat)
 case atStart => exact ⟨0, _, 1, [[]], Nat.zero_le _, rfl, rfl, Lib.hid rfl, Own.built (M := M0) (B := w.heap.size) (C := strC) 9 (cs := [.string ⟨#[]⟩]) (l := [[]]) (Els.single (C := strC) ⟨rfl, Nat.zero_le _⟩) (Nat.le_refl _) (by simp [maxLen]), (Below.refl _ _).alloc (Nat.le_refl _) _⟩
 case round =>
  obtain ⟨k, A, c, L, hk, rfl, rfl, hL, own, hb⟩ := hrel
  have hLl : L.length ≤ k + 1 := by
   have := splitS_size (s.take k)
   rw [← hL.out, List.length_take] at this
   omega
  have hL1 : 0 < L.length := by rw [hL.out]; exact List.length_pos_iff.2 (splitS_ne _)
  have hk0 : (0 : Int) ≤ (k : Int) := by omega
  by_cases hlt : k < s.length
  ·have hget : (bs s)[k]'(by simpa using hlt) = s[k] := bs_get s k (by simpa using hlt)
   have htk : s.take (k + 1) = s.take k ++ [s[k]] := List.take_succ_eq_append_getElem hlt
   obtain ⟨x, hx⟩ : ∃ x, s[k] = x := ⟨_, rfl⟩
   rw [hx] at hget htk
   have Htk := Lib.hid htk
   have hki : (k : Int) < (s.length : Int) := by omega
   clear htk hx
   by_cases hc : x = 32
   ·subst hc
    have hst := splitS_space (s.take k)
    have Hst := Lib.hid hst
    clear hst
    have hbs := hb.size
    go_wp2_with (at_builtin; refine wpList_push_Own strC (M := M0) (B := w.heap.size) TStrs rfl (.tmp 16) (.tmp 17) rfl rfl own rfl (cs := [.string ⟨#[]⟩]) (y := []) ⟨rfl, Nat.zero_le _⟩ (fun _ h => h.elim) ?a1 ?b1 hbs ?_)
    case a1 => unfold maxLen; omega
    case b1 => omega
    intro A4 c4 L4 w4 hL4 own4 hb4 _ _
    go_wp2
    go_roundw
    case rel => exact ⟨k + 1, A4, c4, L4, by omega, by go_num, rfl, Lib.hid (by rw [hL4.out, hL.out, Htk.out, Hst.out]), own4, hb.trans hb4⟩
    case measure => simp [intOf]; omega
   ·have hst := splitS_other hc (s.take k)
    rw [← hL.out] at hst
    have hc2 : ((x.toNat : Int) == 32) = false := by
     have : x.toNat ≠ 32 := fun e => hc (UInt8.toNat_inj.1 e)
     simp; omega
    obtain ⟨y, hy⟩ : ∃ y, L.getD (L.length - 1) [] = y := ⟨_, rfl⟩
    have hyl : y.length ≤ s.length := by
     rw [← hy, Ix.getD_get (by omega)]
     have := splitS_lens (s := s.take k) (x := L[L.length - 1]) (by rw [← hL.out]; exact List.getElem_mem _)
     rw [List.length_take] at this
     omega
    obtain ⟨b, off, hA, _, _, p0, _⟩ := own.read0.strAt (k := L.length - 1) (by omega)
    rw [← Ix.getD_get (d := []) (by omega), hy] at p0
    obtain ⟨g, c9, cur, hv, hlc, hcm, hBg, hblk, hsz⟩ := own.blk hL1
    injection hv with hv1 hv2 hv3
    subst hv1 hv3
    injection hA with hA
    injection hA with hA1 hA2
    subst hA1 hA2
    rw [Nat.zero_add] at p0
    rw [hy] at hst
    have hf0 := hblk.frozen (L.length - 1)
    have hgl := hblk.lt
    have hw1 : IntKind.i64.wrap ((L.length : Int) - 1) = ((L.length - 1 : Nat) : Int) := by rw [show (L.length : Int) - 1 = ((L.length - 1 : Nat) : Int) by omega]; exact IntWalk.i64_in _ (by omega)
    have hw2 : IntKind.i64.wrap ((k : Int) + 1) = ((k + 1 : Nat) : Int) := by rw [show (k : Int) + 1 = ((k + 1 : Nat) : Int) by omega]; exact IntWalk.i64_in _ (by omega)
    have hset := own.put1 rfl (k := L.length - 1) (by omega) (u := .string (bs (y ++ [x]))) (a := y ++ [x]) ⟨rfl, by unfold maxLen; simp; omega⟩
    have htd : (s.take (k + 1)).drop k = [x] := by rw [Htk.out, List.drop_left' (by rw [List.length_take]; omega)]
    have htd2 : (s.drop k).take (k + 1 - k) = [x] := by rw [← htd, List.drop_take]
    have htd3 : (s.drop k).take 1 = [x] := by rw [← htd2]; congr 1; omega
    have hcat : (y.length + [x].length ≤ 9223372036854775807) = True := by simp; omega
    have Hst := Lib.hid hst; have Hset := Lib.hid hset
    clear hst hset hL own
    go_wp2_with fail
    go_region
    go_wp2
    go_roundw
    case rel => exact ⟨k + 1, some ⟨g, 0, none⟩, c, L.set (L.length - 1) (y ++ [x]), by omega, by go_num, by rw [List.length_set], Lib.hid (by rw [Htk.out, Hst.out]), by rw [List.length_set]; exact Hset.out.ext (Below.refl _ _).drew, (hb.setCell (p := ⟨g, L.length - 1, none⟩) hBg _).drew⟩
    case measure => simp [intOf]; omega
  ·obtain rfl : k = s.length := by omega
   go_wp2
   go_ret
   exact ⟨A, c, L, rfl, Lib.hid (by rw [hL.out, List.take_length]), own, hb⟩
end Go.Proofs.YtnlhocbaighedaaGreatDoor

/-
  The reference's Lower and Words.
-/
import Derived.Test.YtinmpjhmbciapaaDoorSmL
import Derived.Test.YtinmpjhmbciapaaDoorTx
namespace Go.Proofs.YtinmpjhmbciapaaDoor
open Go.RowKit
set_option linter.unusedVariables false
theorem encode_bs (z : Int) : Utf8.encode z = bs (Lib.encodeRune z) := by
  have hb : ∀ (a : Int) (b : Nat), a = (b : Int) → a.toNat.toUInt8 = UInt8.ofNat b := fun a b h => by subst h; simp
  unfold bs Lib.encodeRune
  by_cases h1 : 0 ≤ z ∧ z ≤ 127
  · rw [Lib.encodeRuneZ_one h1.1 h1.2]
    obtain ⟨c, rfl⟩ : ∃ c : Nat, z = (c : Int) := ⟨z.toNat, by omega⟩
    have hv : Utf8.valid (c : Int) = true := by simp [Utf8.valid]; omega
    simp [Utf8.encode, hv, show c < 128 by omega]
  · by_cases h2 : 128 ≤ z ∧ z ≤ 2047
    · rw [Lib.encodeRuneZ_two h2.1 h2.2]
      obtain ⟨c, rfl⟩ : ∃ c : Nat, z = (c : Int) := ⟨z.toNat, by omega⟩
      have hv : Utf8.valid (c : Int) = true := by simp [Utf8.valid]; omega
      simp only [Utf8.encode, hv, if_true, Int.toNat_natCast]
      rw [if_neg (by omega), if_pos (by omega)]
      simp only [List.map_cons, List.map_nil, hb (192 + (c : Int) / 64) (192 + c / 64) (by omega), hb (128 + (c : Int) % 64) (128 + c % 64) (by omega)]
    · by_cases h3 : (2048 ≤ z ∧ z < 55296) ∨ (57343 < z ∧ z ≤ 65535)
      · rw [Lib.encodeRuneZ_three h3]
        obtain ⟨c, rfl⟩ : ∃ c : Nat, z = (c : Int) := ⟨z.toNat, by omega⟩
        have hv : Utf8.valid (c : Int) = true := by simp [Utf8.valid]; omega
        simp only [Utf8.encode, hv, if_true, Int.toNat_natCast]
        rw [if_neg (by omega), if_neg (by omega), if_pos (by omega)]
        simp only [List.map_cons, List.map_nil, hb (224 + (c : Int) / 4096) (224 + c / 4096) (by omega), hb (128 + (c : Int) / 64 % 64) (128 + c / 64 % 64) (by omega), hb (128 + (c : Int) % 64) (128 + c % 64) (by omega)]
      · by_cases h4 : 65536 ≤ z ∧ z ≤ 1114111
        · rw [Lib.encodeRuneZ_four h4.1 h4.2]
          obtain ⟨c, rfl⟩ : ∃ c : Nat, z = (c : Int) := ⟨z.toNat, by omega⟩
          have hv : Utf8.valid (c : Int) = true := by simp [Utf8.valid]; omega
          simp only [Utf8.encode, hv, if_true, Int.toNat_natCast]
          rw [if_neg (by omega), if_neg (by omega), if_neg (by omega)]
          simp only [List.map_cons, List.map_nil, hb (240 + (c : Int) / 262144) (240 + c / 262144) (by omega), hb (128 + (c : Int) / 4096 % 64) (128 + c / 4096 % 64) (by omega), hb (128 + (c : Int) / 64 % 64) (128 + c / 64 % 64) (by omega), hb (128 + (c : Int) % 64) (128 + c % 64) (by omega)]
        · rw [Lib.encodeRuneZ_bad (by omega)]
          have hv : Utf8.valid z = false := by simp [Utf8.valid]; omega
          simp [Utf8.encode, hv, Utf8.runeError]
set_option maxHeartbeats 2000000 in
theorem refLower_ok (s : Str) (hs : s.length ≤ 4000000) (w : World) (hT : TabsU w) : Calls Tryd.prog 14 #[.string (bs s)] w fun e w' => e = .returned (.string (bs (Sm.lower s))) ∧ Below w.heap.size w w' := by
  have hlen := Sm.lower_len s.length s (Nat.le_refl _)
  have HT := Lib.hid hT
  clear hT
  obtain ⟨res, hres⟩ : ∃ r, Sm.lower s = r := ⟨_, rfl⟩
  rw [hres] at hlen ⊢
  have Hres := Lib.hid hres
  clear hres
  go_enter Tryd.func14, Tryd.ntmps14
  go_wp2
  go_loopw [0, 3] (fun t o wr => ∃ (l L : Str), t = .string (bs l) ∧ o = .string (bs L) ∧ l.length ≤ s.length ∧ Hid (L ++ Sm.lower l = res) ∧ Below w.heap.size w wr) (fun t _ _ => (strOf t).length)
  case atStart => exact ⟨s, [], rfl, rfl, Nat.le_refl _, Lib.hid (by rw [List.nil_append, Hres.out]), Below.refl _ _⟩
  case round =>
    obtain ⟨l, L, rfl, rfl, hl, hL, hb⟩ := hrel
    by_cases hne : l = []
    · subst hne
      have hr : res = L := by rw [← hL.out, Sm.lower_nil, List.append_nil]
      have Hr := Lib.hid hr
      clear hr
      go_wp2
      go_ret
      exact ⟨ret_str (by rw [Hr.out]), hb⟩
    · have hpos := List.length_pos_iff.2 hne
      have hst := Sm.lower_step hne
      have hw1 := Lib.decodeL_width l
      have hw2 := Sm.width_le hne
      have hr := Lib.decodeL_rune l
      have hdec := Tryd.utf8_DecodeRuneInString (bs l) wr (HT.out.ext hb).u8
      have hdg : Lib.decodeGo (bs l) = Lib.decodeL l := by
        unfold Lib.decodeGo
        rw [if_neg (by rw [bs_size]; omega)]
        rfl
      rw [hdg] at hdec
      obtain ⟨r, hrr⟩ : ∃ r, (Lib.decodeL l).1 = r := ⟨_, rfl⟩
      obtain ⟨n, hnn⟩ : ∃ n, (Lib.decodeL l).2 = n := ⟨_, rfl⟩
      rw [hrr] at hst hr hdec
      rw [hnn] at hst hw1 hw2 hdec
      have hlc : (L ++ Lib.encodeRune (Lib.toLowerU (r : Int))) ++ Sm.lower (l.drop n) = res := by rw [← hL.out, hst, List.append_assoc]; rfl
      have hll : L.length + (Lib.encodeRune (Lib.toLowerU (r : Int))).length ≤ 16000000 := by
        have := congrArg List.length hlc
        rw [List.length_append, List.length_append] at this
        omega
      have Hlc := Lib.hid hlc; have Hdec := Lib.hid hdec
      clear hlc hst hdg hrr hnn hdec
      have hd0 : decide ((0 : Int) < (l.length : Int)) = true := by simp; omega
      have hd1 : 0 < l.length := hpos
      have hlow := fun W hbb => Tryd.unicode_ToLower_laid (r : Int) W ((HT.out.ext hb).ext hbb).case
      obtain ⟨z, hz⟩ : ∃ z, Lib.toLowerU (r : Int) = z := ⟨_, rfl⟩
      rw [hz] at hlow Hlc hll
      have Hlow := Lib.hid hlow
      clear hlow hz
      have hcat : (L.length + (Lib.encodeRune z).length ≤ 9223372036854775807) = True := by simp; omega
      have henc := encode_bs z
      have hn0 : (0 : Int) ≤ (n : Int) := by omega
      have hn1 : (n : Int) ≤ (l.length : Int) := by omega
      go_wp2_with fail
      refine Hdec.out.mono ?_
      rintro e w1 ⟨rfl, hb1⟩
      go_wp2_with fail
      refine (Hlow.out w1 hb1).mono ?_
      rintro e w2 ⟨rfl, q, hq⟩
      have hb2 := (below2 hb hb1).trans (hq ▸ below_drewN' _ _ _)
      clear hq
      go_wp2
      go_roundw
      case rel => exact ⟨l.drop n, L ++ Lib.encodeRune z, by rw [List.take_of_length_le (by rw [List.length_drop]; exact Nat.le_refl _)], rfl, by rw [List.length_drop]; omega, Hlc, hb2⟩
      case measure => simp [strOf, bs]; omega
end Go.Proofs.YtinmpjhmbciapaaDoor

/-
  stem: a rule applied.
-/
import Derived.Test.YtinmpjhmbciapaaDoorSmPure
import Derived.Test.YtinmpjhmbciapaaDoorShelf
import Derived.Test.YtinmpjhmbciapaaDoorTx
namespace Go.Proofs.YtinmpjhmbciapaaDoor
open Go.RowKit
set_option linter.unusedVariables false

set_option maxHeartbeats 1000000 in
theorem apply_ok (M : Nat → Prop) (r : Sm.Rule) (v : Value) (s : Str) (w : World) (hv : SlR strC M w v r.bars) (hs : s.length ≤ 4000000) (hto : r.to.length ≤ 10) :
    Calls Tryd.prog 62 #[.agg #[.string (bs r.ending), .string (bs r.to), v], .string (bs s)] w fun e w' =>
      e = .returned (.tuple #[.string (bs (Sm.applied r s)), .bool (Sm.fits r s)]) ∧ Below w.heap.size w w' := by
  obtain ⟨A, c, rfl, _, hcm⟩ := hv.form
  have hn := hv.len_le
  unfold maxLen at hn
  have hc := Tryd.strings_CutSuffix (bs s) (bs r.ending)
  go_enter Tryd.func62, Tryd.ntmps62
  have hbw := (Below.refl w.heap.size w).alloc (Nat.le_refl _) (.cells #[.string (bs r.ending), .string (bs r.to), .slice A r.bars.length c] 63)
  have k1 := Blk.new w 63 #[.string (bs r.ending), .string (bs r.to), .slice A r.bars.length c]
  replace hv := hv.ext hbw
  obtain ⟨p10, p11, p12, _⟩ := k1.three
  go_wp2_with fail
  refine (hc _ (by rw [bs_size]; omega)).mono ?_
  rintro e w1 ⟨rfl, hw1⟩
  rw [bs_toList, bs_toList]
  rw [← hw1] at hbw k1 hv p10 p11 p12
  clear hc hw1 k1
  show _
  have hfr : (⟨(Lib.trimSuffix s r.ending).toArray⟩ : ByteArray) = bs (Lib.trimSuffix s r.ending) := rfl
  rw [hfr]
  clear hfr
  obtain ⟨ok, hok⟩ : ∃ b, Lib.hasSuffix s r.ending = b := ⟨_, rfl⟩
  rw [hok]
  cases ok with
  | false =>
    have hf : Sm.fits r s = false := by simp [Sm.fits, hok]
    have Hf := Lib.hid hf
    clear hf hok
    go_wp2
    all_goals refine bodyPost_ret (v := .tuple #[.string (bs (s)), .bool false]) (by simp [results, Tryd.results62, go_sem]) rfl ?_
    all_goals exact ⟨by rw [Hf.out, Sm.applied_not Hf.out], hbw⟩
  | true =>
    have htr : Lib.trimSuffix s r.ending = s.take (s.length - r.ending.length) := by unfold Lib.trimSuffix; rw [if_pos hok]
    have hle : r.ending.length ≤ s.length := by
      unfold Lib.hasSuffix at hok
      exact (List.isSuffixOf_iff_suffix.1 hok).length_le
    obtain ⟨fr, hfr⟩ : ∃ fr, Lib.trimSuffix s r.ending = fr := ⟨_, rfl⟩
    rw [hfr]
    have hfl : fr.length = s.length - r.ending.length := by rw [← hfr, htr, List.length_take]; omega
    by_cases h3 : r.ending.length + 3 ≤ s.length
    · have hlt : ((fr.length : Int) < 3) = False := by simp; omega
      have Hok := Lib.hid hok; have Htr := Lib.hid htr; have Hfr := Lib.hid hfr
      clear hok htr hfr
      go_wp2
      go_loop [28] (fun i => ∃ k : Nat, k ≤ r.bars.length ∧ i = .int .i64 k ∧ Hid (∀ (j : Nat) (hj : j < r.bars.length), j < k → Lib.hasSuffix s r.bars[j] = false)) (fun i => r.bars.length - (intOf i).toNat)
      case atStart => exact ⟨0, Nat.zero_le _, rfl, Lib.hid fun j _ h => absurd h (by omega)⟩
      case round =>
        obtain ⟨k, hk, rfl, hpre⟩ := hrel
        by_cases hlk : k < r.bars.length
        · obtain ⟨b, off, rfl, _, _, hcell, _⟩ := hv.strAt hlk
          have hc := Tryd.strings_HasSuffix (bs s) (bs r.bars[k])
          obtain ⟨x, hx⟩ : ∃ x, x = r.bars[k] := ⟨_, rfl⟩
          rw [← hx] at hcell hc
          have Hx := Lib.hid hx
          clear hx
          go_wp2_with fail
          refine (hc _ (by rw [bs_size]; omega)).mono ?_
          rintro e w2 ⟨rfl, rfl⟩
          rw [bs_toList, bs_toList]
          clear hc
          cases ht : Lib.hasSuffix s x with
          | true =>
            go_wp2
            refine bodyPost_ret (v := .tuple #[.string (bs (s)), .bool false]) (by simp [results, Tryd.results62, go_sem]) rfl ?_
            have hf : Sm.fits r s = false := by
              have := any_true r.bars (Lib.hasSuffix s) k hlk (by rw [← Hx.out]; exact ht)
              simp [Sm.fits, this]
            exact ⟨by rw [hf, Sm.applied_not hf], hbw⟩
          | false =>
            go_wp2
            go_round
            case rel => exact ⟨k + 1, by omega, by go_num, Lib.hid fun j hj hjk => by
              by_cases e : j = k
              · subst e; rw [← Hx.out]; exact ht
              · exact hpre.out j hj (by omega)⟩
            case measure => simp [intOf]; omega
        · have hcat : (fr.length + r.to.length ≤ 9223372036854775807) = True := by simp; omega
          go_wp2
          refine bodyPost_ret (v := .tuple #[.string (bs (fr ++ r.to)), .bool true]) (by simp [results, Tryd.results62, go_sem]) rfl ?_
          have hf : Sm.fits r s = true := by
            have := any_false r.bars (Lib.hasSuffix s) fun i hi => hpre.out i hi (by omega)
            simp [Sm.fits, this, Hok.out, h3]
          refine ⟨?_, hbw⟩
          rw [hf, Sm.applied_fits hf, Sm.cut, ← Htr.out, Hfr.out]
    · have hlt : ((fr.length : Int) < 3) = True := by simp; omega
      have hf : Sm.fits r s = false := by simp [Sm.fits]; intro _ h; omega
      have Hf := Lib.hid hf
      clear hf hok
      go_wp2
      all_goals refine bodyPost_ret (v := .tuple #[.string (bs (s)), .bool false]) (by simp [results, Tryd.results62, go_sem]) rfl ?_
      all_goals exact ⟨by rw [Hf.out, Sm.applied_not Hf.out], hbw⟩
end Go.Proofs.YtinmpjhmbciapaaDoor

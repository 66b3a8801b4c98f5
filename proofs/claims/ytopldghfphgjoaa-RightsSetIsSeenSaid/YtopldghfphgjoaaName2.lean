/-
  Names: Lower, Small, the reference's names, and what a grant's Who is.
-/
import Derived.Test.YtopldghfphgjoaaName
namespace Go.Proofs.Ytopldghfphgjoaa
open Go.RowKit

theorem ret_str {a b : ByteArray} (h : a = b) : Ending.returned (.string a) = .returned (.string b) := by rw [h]
theorem ret_bool {a b : Bool} (h : a = b) : Ending.returned (.bool a) = .returned (.bool b) := by rw [h]

set_option maxHeartbeats 1000000 in
theorem lower_ok (s : Str) (hs : s.length ≤ maxLen) (w : World) : Calls Try.prog 66 #[.string (bs s)] w fun e w' => e = .returned (.string (bs (lowerF s))) ∧ Below w.heap.size w w' := by
  obtain ⟨c, w1, hrun, hc1, hc2, hs1, ⟨m, hm, hblk⟩, hb1⟩ := run_bytes_of (P := Try.prog) w 9 22 5 s hs Try.underlying9 Try.underlying22 Try.underlying5
  unfold maxLen at hs
  go_enter Try.func66, Try.ntmps66
  go_wp2
  clear hrun
  go_loopw [10] (fun i wr => ∃ k : Nat, k ≤ s.length ∧ i = .int .i64 k ∧ SlR byteC M0 wr (.slice (some ⟨w.heap.size, 0, none⟩) s.length c) (lowTo s k) ∧ BlkM wr w.heap.size 5 m ∧ Below w.heap.size w wr) (fun i _ => s.length - (intOf i).toNat)
  case atStart => exact ⟨0, Nat.zero_le _, rfl, by rw [lowTo_zero]; exact hs1, hblk, hb1⟩
  case round =>
    obtain ⟨k, hk, rfl, hsl, hbm, hb⟩ := hrel
    by_cases hlt : k < s.length
    · have hklt : k < (lowTo s k).length := by rw [lowTo_len]; exact hlt
      obtain ⟨_, _, e1, _, _, hcell⟩ := hsl.byteAt hklt
      cases e1
      rw [lowTo_get s k hlt, Nat.zero_add] at hcell
      obtain ⟨x, hx⟩ : ∃ x, x = s[k] := ⟨_, rfl⟩
      rw [← hx] at hcell
      have hx8 := x.toNat_lt
      have hfr := hbm.frozen (i := k) (by omega)
      have hlw := lowerC_nat x
      have hset := hsl.set1 flat_byte (k := k) hklt (u := .int .u8 ((lowerC x).toNat : Int)) (a := lowerC x) rfl
      rw [Nat.zero_add] at hset
      have hsucc := lowTo_succ s k hlt
      have hsame := lowTo_same s k hlt
      rw [← hx] at hsucc hsame
      rw [← hsucc] at hset
      have hbset := hbm.set k (.int .u8 ((lowerC x).toNat : Int))
      have Hx := Lib.hid hx; have Hlw := Lib.hid hlw; have Hset := Lib.hid hset; have Hsame := Lib.hid hsame; have Hbset := Lib.hid hbset
      have hsz := hb.size
      have hgl := hbm.lt
      clear hx hlw hset hsucc hsame hbset
      by_cases h1 : (65 : Int) ≤ (x.toNat : Int)
      · by_cases h2 : (x.toNat : Int) ≤ 90
        · have hv : ((lowerC x).toNat : Int) = (x.toNat : Int) + 97 - 65 := by rw [Hlw.out, if_pos (by omega)]; omega
          have HV := Lib.hid hv
          clear hv
          go_wp2
          go_roundw
          case rel => exact ⟨k + 1, by omega, by go_num, by have := Hset.out; rw [HV.out] at this; exact this, by have := Hbset.out; rw [HV.out] at this; exact this, hb.setCell (Nat.le_refl _) _⟩
          case measure => simp [intOf]; omega
        · have hne : lowerC x = x := by apply UInt8.toNat_inj.1; have := Hlw.out; rw [if_neg (by omega)] at this; omega
          have hst := Hsame.out hne
          have Hst := Lib.hid hst
          clear hne hst
          go_wp2
          go_roundw
          case rel => exact ⟨k + 1, by omega, by go_num, by rw [Hst.out]; exact hsl, hbm, hb⟩
          case measure => simp [intOf]; omega
      · have hne : lowerC x = x := by apply UInt8.toNat_inj.1; have := Hlw.out; rw [if_neg (by omega)] at this; omega
        have hst := Hsame.out hne
        have Hst := Lib.hid hst
        clear hne hst
        go_wp2
        go_roundw
        case rel => exact ⟨k + 1, by omega, by go_num, by rw [Hst.out]; exact hsl, hbm, hb⟩
        case measure => simp [intOf]; omega
    · have he : k = s.length := by omega
      subst he
      rw [lowTo_all] at hsl
      have hll : (lowerF s).length = s.length := by simp [lowerF]
      have hcv := run_convert_SlR (P := Try.prog) (src := 22) (dst := 9) Try.underlying22 Try.underlying5 Try.underlying9 hsl
      clear hll
      go_wp2
      go_ret
      exact ⟨ret_str rfl, hb⟩

theorem small_ok (s : Str) (hs : s.length ≤ maxLen) (w : World) : Calls Try.prog 46 #[.string (bs s)] w fun e w' => e = .returned (.bool (userF s)) ∧ Below w.heap.size w w' := by
  have hn := name_ok s hs w
  have hl := lower_ok s hs w
  have hu : userF s = (nameF s && lowerF s == s) := by rw [← small_user, smallF]
  have Hn := Lib.hid hn; have Hl := Lib.hid hl; have Hu := Lib.hid hu
  clear hn hl hu hs
  go_enter Try.func46, Try.ntmps46
  go_wp2_with fail
  refine Hn.out.mono ?_
  rintro e w1 ⟨rfl, rfl⟩
  cases h : nameF s with
  | false =>
    rw [h] at Hu
    go_wp2
    go_ret
    exact ⟨ret_bool (by rw [Hu.out]; rfl), Below.refl _ _⟩
  | true =>
    rw [h] at Hu
    go_wp2_with fail
    refine Hl.out.mono ?_
    rintro e w1 ⟨rfl, hb⟩
    go_wp2
    go_ret
    exact ⟨ret_bool (by rw [Hu.out]; simp), hb⟩
/-! ### The reference's names -/
def okU (up : Bool) (c : UInt8) : Bool := lowc c || (up && upc c)
def nameOkF (s : Str) (up : Bool) : Bool := s.all (okU up) && (decide (1 ≤ s.length) && decide (s.length ≤ 60))
theorem nameOk_user (s : Str) : nameOkF s false = userF s := by
  have : okU false = lowc := by funext c; simp [okU]
  rw [nameOkF, this, userF]
theorem okU_int (up : Bool) (c : UInt8) : okU up c = ((decide ((97 : Int) ≤ (c.toNat : Int)) && decide ((c.toNat : Int) ≤ 122)) || (decide ((48 : Int) ≤ (c.toNat : Int)) && decide ((c.toNat : Int) ≤ 57)) || decide ((c.toNat : Int) = 45) || decide ((c.toNat : Int) = 95) || decide ((c.toNat : Int) = 46) || (up && (decide ((65 : Int) ≤ (c.toNat : Int)) && decide ((c.toNat : Int) ≤ 90)))) := by
  rw [Bool.eq_iff_iff]
  cases up <;> simp only [okU, lowc, upc, Bool.or_eq_true, Bool.and_eq_true, decide_eq_true_eq, beq_iff_eq, UInt8.le_iff_toNat_le, ← UInt8.toNat_inj, UInt8.reduceToNat, Bool.false_and, Bool.true_and, Bool.false_eq_true, or_false] <;> omega

set_option maxRecDepth 20000 in
set_option maxHeartbeats 2000000 in
theorem nameOk_ok (s : Str) (up : Bool) (hs : s.length ≤ maxLen) (w : World) : Calls Try.prog 60 #[.string (bs s), .bool up] w fun e w' => e = .returned (.bool (nameOkF s up)) ∧ w = w' := by
  unfold maxLen at hs
  have hin := fun a b c w => in_ok a b c w
  have Hin := Lib.hid hin
  clear hin
  go_enter Try.func60, Try.ntmps60
  go_wp2
  go_loop [5] (fun i => ∃ k : Nat, k ≤ s.length ∧ i = .int .i64 k ∧ Hid (∀ (j : Nat) (hj : j < s.length), j < k → okU up s[j] = true)) (fun i => s.length - (intOf i).toNat)
  case atStart => exact ⟨0, Nat.zero_le _, rfl, Lib.hid fun j _ h => absurd h (by omega)⟩
  case round =>
    obtain ⟨k, hk, rfl, hpre⟩ := hrel
    by_cases hlt : k < s.length
    · obtain ⟨x, hx⟩ : ∃ x, x = s[k] := ⟨_, rfl⟩
      have hok := okU_int up x
      obtain ⟨t1, ht1⟩ : ∃ t1, (decide ((97 : Int) ≤ (x.toNat : Int)) && decide ((x.toNat : Int) ≤ 122)) = t1 := ⟨_, rfl⟩
      obtain ⟨t2, ht2⟩ : ∃ t2, (decide ((48 : Int) ≤ (x.toNat : Int)) && decide ((x.toNat : Int) ≤ 57)) = t2 := ⟨_, rfl⟩
      obtain ⟨t3, ht3⟩ : ∃ t3, (decide ((65 : Int) ≤ (x.toNat : Int)) && decide ((x.toNat : Int) ≤ 90)) = t3 := ⟨_, rfl⟩
      have hc1 := Hin.out (x.toNat : Int) 97 122 w
      have hc2 := Hin.out (x.toNat : Int) 48 57 w
      have hc3 := Hin.out (x.toNat : Int) 65 90 w
      rw [ht1] at hc1 hok
      rw [ht2] at hc2 hok
      rw [ht3] at hc3 hok
      have hx8 := x.toNat_lt
      have Hx := Lib.hid hx; have Hok := Lib.hid hok; have Hc1 := Lib.hid hc1; have Hc2 := Lib.hid hc2; have Hc3 := Lib.hid hc3
      have hget : (bs s)[k]'(by simpa using hlt) = x := by rw [hx]; simp
      have hget2 : s[k] = x := hx.symm
      have hgood : okU up x = true → Hid (∀ (j : Nat) (hj : j < s.length), j < k + 1 → okU up s[j] = true) := fun h => Lib.hid fun j hj hjk => by
        by_cases e : j = k
        · subst e; rw [← hx]; exact h
        · exact hpre.out j hj (by omega)
      have hbad : okU up x = false → nameOkF s up = false := fun h => by
        rw [nameOkF, all_false s (okU up) k hlt (by rw [← hx]; exact h)]; rfl
      have Hgood := Lib.hid hgood; have Hbad := Lib.hid hbad
      clear hx hok hc1 hc2 hc3 ht1 ht2 ht3 hgood hbad hget
      go_wp2_with fail
      refine Hc1.out.mono ?_
      rintro e w1 ⟨rfl, rfl⟩
      cases t1 with
      | true =>
        go_wp2
        go_round
        case rel => exact ⟨k + 1, by omega, by go_num, Hgood.out (by rw [Hok.out]; rfl)⟩
        case measure => simp [intOf]; omega
      | false =>
        go_wp2_with fail
        refine Hc2.out.mono ?_
        rintro e w1 ⟨rfl, rfl⟩
        cases t2 with
        | true =>
          go_wp2
          go_round
          case rel => exact ⟨k + 1, by omega, by go_num, Hgood.out (by rw [Hok.out]; rfl)⟩
          case measure => simp [intOf]; omega
        | false =>
          by_cases h45 : (x.toNat : Int) = 45 ∨ (x.toNat : Int) = 95 ∨ (x.toNat : Int) = 46
          · have hg : okU up x = true := by rw [Hok.out]; rcases h45 with h | h | h <;> simp [h]
            have Hg := Lib.hid hg
            clear hg
            rcases h45 with h | h | h
            all_goals
              go_wp2
              go_round
              case rel => exact ⟨k + 1, by omega, by go_num, Hgood.out Hg.out⟩
              case measure => simp [intOf]; omega
          · have e1 : ((x.toNat : Int) == 45) = false := by simp; omega
            have e2 : ((x.toNat : Int) == 95) = false := by simp; omega
            have e3 : ((x.toNat : Int) == 46) = false := by simp; omega
            have e1' : decide ((x.toNat : Int) = 45) = false := by simp; omega
            have e2' : decide ((x.toNat : Int) = 95) = false := by simp; omega
            have e3' : decide ((x.toNat : Int) = 46) = false := by simp; omega
            rw [e1', e2', e3'] at Hok
            clear h45 e1' e2' e3'
            cases up with
            | false =>
              go_wp2
              go_ret
              exact ⟨by rw [Hbad.out (by rw [Hok.out]; rfl)]; rfl, rfl⟩
            | true =>
              go_wp2_with fail
              refine Hc3.out.mono ?_
              rintro e w1 ⟨rfl, rfl⟩
              cases t3 with
              | true =>
                go_wp2
                go_round
                case rel => exact ⟨k + 1, by omega, by go_num, Hgood.out (by rw [Hok.out]; rfl)⟩
                case measure => simp [intOf]; omega
              | false =>
                go_wp2
                go_ret
                exact ⟨by rw [Hbad.out (by rw [Hok.out]; rfl)]; rfl, rfl⟩
    · have hall := all_true s (okU up) fun i hi => hpre.out i hi (by omega)
      have Hall := Lib.hid hall
      have hlen := Hin.out (s.length : Int) 1 60 w
      have Hlen := Lib.hid hlen
      clear hall hlen
      go_wp2_with fail
      refine Hlen.out.mono ?_
      rintro e w1 ⟨rfl, rfl⟩
      go_wp2
      go_ret
      refine ⟨?_, rfl⟩
      rw [nameOkF, Hall.out]
      refine ret_bool ?_
      simp only [Bool.true_and]
      rw [Bool.eq_iff_iff]
      simp
      omega

theorem user_ok (s : Str) (hs : s.length ≤ maxLen) (w : World) : Calls Try.prog 31 #[.string (bs s)] w fun e w' => e = .returned (.bool (userF s)) ∧ w = w' := by
  have hn := nameOk_ok s false hs w
  rw [nameOk_user] at hn
  have Hn := Lib.hid hn
  clear hn hs
  go_enter Try.func31, Try.ntmps31
  go_wp2_with fail
  refine Hn.out.mono ?_
  rintro e w1 ⟨rfl, rfl⟩
  go_wp2
  go_ret
  exact ⟨rfl, rfl⟩
theorem Who_ok (s : Str) (hs : s.length ≤ maxLen) (w : World) : Calls Try.prog 33 #[.string (bs s)] w fun e w' => e = .returned (.bool (whoF s)) ∧ w = w' := by
  have hu := user_ok s hs w
  have hw : whoF s = (userF s || hashF s) := rfl
  obtain ⟨t1, ht1⟩ : ∃ t1, userF s = t1 := ⟨_, rfl⟩
  rw [ht1] at hu hw
  have Hu := Lib.hid hu
  clear hu ht1
  cases t1 with
  | true =>
    have Hw := Lib.hid hw
    clear hw
    go_enter Try.func33, Try.ntmps33
    go_wp2_with fail
    refine Hu.out.mono ?_
    rintro e w1 ⟨rfl, rfl⟩
    go_wp2
    go_ret
    exact ⟨ret_bool (by rw [Hw.out]; rfl), rfl⟩
  | false =>
    cases s with
    | nil =>
      have Hw := Lib.hid hw
      clear hw
      go_enter Try.func33, Try.ntmps33
      go_wp2_with fail
      refine Hu.out.mono ?_
      rintro e w1 ⟨rfl, rfl⟩
      go_wp2
      go_ret
      exact ⟨ret_bool (by rw [Hw.out]; rfl), rfl⟩
    | cons c t =>
      have hut := user_ok t (by simp at hs; omega) w
      have Hut := Lib.hid hut
      have Hw := Lib.hid hw
      clear hut hw
      by_cases hc : c = 35
      · subst hc
        go_enter Try.func33, Try.ntmps33
        go_wp2_with fail
        refine Hu.out.mono ?_
        rintro e w1 ⟨rfl, rfl⟩
        go_wp2_with fail
        refine Hut.out.mono ?_
        rintro e w1 ⟨rfl, rfl⟩
        go_wp2
        go_ret
        exact ⟨ret_bool (by rw [Hw.out]; simp [hashF]), rfl⟩
      · have hc' : ((c.toNat : Int) == 35) = false := by
          have h3 : c.toNat ≠ 35 := fun e => hc (UInt8.toNat_inj.1 e)
          simp; omega
        go_enter Try.func33, Try.ntmps33
        go_wp2_with fail
        refine Hu.out.mono ?_
        rintro e w1 ⟨rfl, rfl⟩
        go_wp2
        go_ret
        exact ⟨ret_bool (by rw [Hw.out]; simp [hashF, hc]), rfl⟩
end Go.Proofs.Ytopldghfphgjoaa

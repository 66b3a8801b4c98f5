/-
  What is set is seen: the law's walk.
-/
import Derived.Test.YtopldghfphgjoaaRgEx
import Derived.Test.YtopldghfphgjoaaRgLQ
namespace Go.Proofs.Ytopldghfphgjoaa
open Go.RowKit

theorem of_ok_parts {gs : List Group} {l : List Grant} {user : Str} {m o2 : Int} (h : ofR gs l user = (m, 0, o2)) : (groupsF gs).1 = 0 ∧ (grantsF l).1 = 0 ∧ userF user = true ∧ m = ((ofF gs l user : Nat) : Int) := by
  unfold ofR at h
  split at h
  · rename_i h1
    injection h with e1 e2
    rw [e2] at h1
    exact absurd rfl h1
  · split at h
    · rename_i h1
      injection h with e1 e2
      rw [e2] at h1
      exact absurd rfl h1
    · split at h
      · injection h with e1 e2; injection e2 with e2 e3; cases e2
      · rename_i h1 h2 h3
        injection h with e1 e2
        exact ⟨by simpa using h1, by simpa using h2, by simpa using h3, e1.symm⟩
theorem and_i64 (a b : Nat) (ha : a < 64) : bits .and .i64 (a : Int) (b : Int) = ((a &&& b : Nat) : Int) := by
  have hab : a &&& b < 64 := Nat.lt_of_le_of_lt Nat.and_le_left ha
  unfold bits
  have h2 : (BitVec.ofInt 64 (a : Int) &&& BitVec.ofInt 64 (b : Int)).toNat = a &&& b := by
    apply Nat.eq_of_testBit_eq
    intro i
    rw [BitVec.ofInt_natCast, BitVec.ofInt_natCast, ← BitVec.getLsbD]
    simp only [BitVec.getLsbD_and, BitVec.getLsbD_ofNat, Nat.testBit_and]
    by_cases hi : i < 64
    · simp [hi]
    · have : a.testBit i = false := Nat.testBit_lt_two_pow (Nat.lt_of_lt_of_le ha (by
        have := Nat.pow_le_pow_right (n := 2) (by omega) (show 6 ≤ i by omega); omega))
      simp [hi, this]
  have h3 : IntKind.i64.wrap (((a &&& b : Nat) : Int)) = ((a &&& b : Nat) : Int) := IntWalk.i64_in _ (by omega)
  exact (congrArg (fun z : Nat => IntKind.i64.wrap (z : Int)) h2).trans h3

set_option maxRecDepth 100000 in
set_option maxHeartbeats 8000000 in
theorem rseen_walk (v0 v1 : Value) (gs : List Group) (l : List Grant) (user : Str) (neg : Bool) (n : Int) (w : World) (hg0 : SlR groupC M0 w v0 gs) (hl0 : SlR grantC M0 w v1 l) (hx1 : user.length ≤ maxLen) (hx2 : -9223372036854775808 ≤ n) (hx3 : n ≤ 9223372036854775807) :
    Calls Try.prog 8 #[v0, v1, .string (bs user), .bool neg, .int .i64 n] w fun e w' => e = .returned (.bool true) ∧ Below w.heap.size w w' := by
  obtain ⟨A0, c0, rfl, _, _⟩ := hg0.form
  obtain ⟨A1, c1, rfl, _, _⟩ := hl0.form
  obtain ⟨⟨L, s1, s2⟩, hS⟩ : ∃ r, setR l (user, neg, n) = r := ⟨_, rfl⟩
  obtain ⟨⟨m, o1, o2⟩, hO⟩ : ∃ r, ofR gs L user = r := ⟨_, rfl⟩
  have hbw := Below.refl w.heap.size w
  have HS := Lib.hid hS
  have HO := Lib.hid hO
  clear hS hO
  go_enter Try.func8, Try.ntmps8
  go_wp2_with fail
  refine (rexample_ok _).mono ?_
  rintro e w1 ⟨rfl, hq1⟩
  replace hg0 := hg0.ext hq1
  replace hl0 := hl0.ext hq1
  replace hbw := hbw.trans (hq1.mono hbw.size)
  clear hq1
  have hset := set_ok _ l (user, neg, n) _ hl0 hx1 hx2 hx3
  rw [HS.out] at hset
  unfold gv at hset
  dsimp only at hset
  go_wp2_with fail
  refine (hset).mono ?_
  rintro e w2 ⟨v2, rfl, hr2, hq2⟩
  obtain ⟨A2, c2, rfl, _, _⟩ := hr2.form
  clear hset
  have ha2 := (Below.refl w2.heap.size w2).alloc (Nat.le_refl _) (.cells #[.int .i64 s1, .int .i64 s2] 24)
  have hc2 := below2 hq2 ha2
  replace hg0 := hg0.ext hc2
  replace hl0 := hl0.ext hc2
  replace hbw := hbw.trans (hc2.mono hbw.size)
  have k2 := Blk.new w2 24 #[.int .i64 s1, .int .i64 s2]
  clear hq2 hc2
  replace hr2 := hr2.ext ha2
  have hof := of_ok _ _ gs L user _ hg0 hr2 hx1
  rw [HO.out] at hof
  go_wp2_with fail
  refine (hof).mono ?_
  rintro e w3 ⟨rfl, hq3⟩
  clear hof
  have ha3 := (Below.refl w3.heap.size w3).alloc (Nat.le_refl _) (.cells #[.int .i64 o1, .int .i64 o2] 24)
  have hc3 := below2 hq3 ha3
  replace hg0 := hg0.ext hc3
  replace hl0 := hl0.ext hc3
  replace k2 := k2.ext hc3
  replace hr2 := hr2.ext hc3
  replace hbw := hbw.trans (hc3.mono hbw.size)
  have k3 := Blk.new w3 24 #[.int .i64 o1, .int .i64 o2]
  clear hq3 hc3
  obtain ⟨k20, k21, k22, k23, k24⟩ := k2.two
  obtain ⟨k30, k31, k32, k33, k34⟩ := k3.two
  have hL60 : L.length ≤ 9223372036854775807 := Nat.le_trans hr2.lenM.1 hr2.lenM.2
  by_cases hs : s1 = 0
  · subst hs
    by_cases ho : o1 = 0
    · subst ho
      obtain ⟨q1, q2, q3, q4⟩ := of_ok_parts HO.out
      obtain ⟨kn, rfl, hk64, hseen⟩ := seen (gs := gs) HS.out q3
      have hgu := (groups_user q1).2
      have hs64 := small64_of q2
      obtain ⟨mm, hmm⟩ : ∃ mm, ofF gs L user = mm := ⟨_, rfl⟩
      have hm64 : mm < 64 := hmm ▸ ofF_lt gs L user hs64
      rw [hmm] at q4 hseen
      subst q4
      have Hseen := Lib.hid hseen; have HU := Lib.hid hgu; have H64 := Lib.hid hs64; have Hq3 := Lib.hid q3
      clear hseen hgu hs64 q1 q2 q3 hmm
      go_wp2_with fail
      go_loop [15, 16] (fun d i => ∃ (k dk : Nat), k ≤ L.length ∧ i = .int .i64 k ∧ d = .int .i64 dk ∧ Hid (dk = deniedF gs user (L.take k)) ∧ dk < 64) (fun _ i => L.length - (intOf i).toNat)
      case atStart => exact ⟨0, 0, Nat.zero_le _, rfl, rfl, Lib.hid rfl, by omega⟩
      case round =>
        obtain ⟨k, dk, hk, rfl, rfl, hdk, hd64⟩ := hrel
        by_cases hlt : k < L.length
        · have hr9 := hr2
          obtain ⟨b, off, rfl, hbl, q0, q1, q2, hl1, _, _⟩ := hr9.grantAt hlt
          have hsk := H64.out _ (List.getElem_mem hlt)
          have hd1 := denied_snoc gs user L k hlt
          obtain ⟨⟨who, ng, r⟩, hx⟩ : ∃ x, x = L[k] := ⟨_, rfl⟩
          rw [← hx] at q0 q1 q2 hl1 hsk hd1
          dsimp only at q0 q1 q2 hl1 hsk hd1
          obtain ⟨rn, rfl⟩ := Int.eq_ofNat_of_zero_le hsk.1
          have hcn := concerns_ok _ gs who user (w3.alloc (.cells #[.int .i64 0, .int .i64 o2] 24)) hg0 (fun g hg => by have := (HU.out g hg).2.1; omega)
          rw [← applies_concerns gs who user Hq3.out] at hcn
          obtain ⟨t, ht⟩ : ∃ t, appliesF gs who user = t := ⟨_, rfl⟩
          rw [ht] at hcn
          rw [ht, ← hdk.out, Int.toNat_natCast] at hd1
          have hor2 := or_i64 dk rn hd64 (by omega)
          have hd2 : dk ||| rn < 64 := Nat.or_lt_two_pow (n := 6) hd64 (by omega)
          have Hcn := Lib.hid hcn; have Hd1 := Lib.hid hd1; have Ho2 := Lib.hid hor2
          clear hcn hd1 hx ht hsk hor2
          have hi1 : (k : Int) < (L.length : Int) := by omega
          cases ng with
          | false =>
            go_wp2
            go_round
            case rel => exact ⟨k + 1, dk, by omega, by go_num, rfl, Lib.hid (by rw [Hd1.out]; simp), hd64⟩
            case measure => simp [intOf]; omega
          | true =>
            go_wp2_with fail
            refine Hcn.out.mono ?_
            rintro e w9 ⟨rfl, rfl⟩
            have hor2 := Ho2.out
            cases t with
            | false =>
              go_wp2
              go_round
              case rel => exact ⟨k + 1, dk, by omega, by go_num, rfl, Lib.hid (by rw [Hd1.out]; rfl), hd64⟩
              case measure => simp [intOf]; omega
            | true =>
              go_wp2
              go_round
              case rel => exact ⟨k + 1, dk ||| rn, by omega, by go_num, by simp, Lib.hid (by rw [Hd1.out]; rfl), hd2⟩
              case measure => simp [intOf]; omega
        · have he : k = L.length := by omega
          subst he
          have hdf : dk = deniedF gs user L := by rw [hdk.out, List.take_length]
          have hs := Hseen.out
          rw [← hdf] at hs
          have h1 := and_i64 mm kn hm64
          have h2 := andNot_i64 kn dk hk64
          cases neg with
          | true =>
            rw [if_pos rfl] at hs
            rw [hs] at h1
            clear hs h2 hdf
            go_wp2
            go_ret
            exact ⟨by simp, hbw⟩
          | false =>
            rw [if_neg (by simp)] at hs
            rw [hs] at h1
            clear hs hdf
            go_wp2
            go_ret
            exact ⟨by simp, hbw⟩
    · have hob : (o1 != 0) = true := by simpa using ho
      clear ho
      go_wp2
      go_ret
      exact ⟨rfl, hbw⟩
  · have hsb : (s1 != 0) = true := by simpa using hs
    clear hs
    go_wp2
    go_ret
    exact ⟨rfl, hbw⟩
end Go.Proofs.Ytopldghfphgjoaa

/-
  A grant does not change the rights of another user: the law's walk.
-/
import Derived.Test.YtopldghfphgjoaaRgL3
namespace Go.Proofs.Ytopldghfphgjoaa
open Go.RowKit

set_option maxRecDepth 100000 in
set_option maxHeartbeats 8000000 in
theorem rstranger_walk (v0 v1 : Value) (gs : List Group) (l : List Grant) (user other : Str) (n : Int) (w : World) (hg0 : SlR groupC M0 w v0 gs) (hl0 : SlR grantC M0 w v1 l) (hx1 : user.length ≤ maxLen) (hy1 : other.length ≤ maxLen) (hx2 : -9223372036854775808 ≤ n) (hx3 : n ≤ 9223372036854775807) :
    Calls Try.prog 10 #[v0, v1, .string (bs user), .string (bs other), .int .i64 n] w fun e w' => e = .returned (.bool true) ∧ Below w.heap.size w w' := by
  obtain ⟨A0, c0, rfl, _, _⟩ := hg0.form
  obtain ⟨A1, c1, rfl, _, _⟩ := hl0.form
  obtain ⟨⟨L, s1, s2⟩, hS⟩ : ∃ r, setR l (user, false, n) = r := ⟨_, rfl⟩
  obtain ⟨⟨ma, o1, o2⟩, hO⟩ : ∃ r, ofR gs l other = r := ⟨_, rfl⟩
  obtain ⟨⟨mb, p1, p2⟩, hP⟩ : ∃ r, ofR gs L other = r := ⟨_, rfl⟩
  have hbw := Below.refl w.heap.size w
  have HS := Lib.hid hS
  have HO := Lib.hid hO
  have HP := Lib.hid hP
  clear hS hO hP
  have hul : user.length ≤ 9223372036854775807 := by unfold maxLen at hx1; omega
  go_enter Try.func10, Try.ntmps10
  go_wp2_with fail
  refine (rexample_ok _).mono ?_
  rintro e w1 ⟨rfl, hq1⟩
  replace hg0 := hg0.ext hq1
  replace hl0 := hl0.ext hq1
  replace hbw := hbw.trans (hq1.mono hbw.size)
  clear hq1
  cases hq : (user == other) with
  | true =>
    go_wp2
    go_ret
    exact ⟨rfl, hbw⟩
  | false =>
  cases hq2 : (user == ([97, 110, 121, 111, 110, 101] : List UInt8)) with
  | true =>
    go_wp2
    go_ret
    exact ⟨rfl, hbw⟩
  | false =>
  have hq3 : user ≠ other := by simpa using hq
  have hq4 : user ≠ anyoneF := fun h => by rw [h] at hq2; exact absurd hq2 (by decide)
  have HQ3 := Lib.hid hq3; have HQ4 := Lib.hid hq4
  clear hq3 hq4
  have hset := set_ok _ l (user, false, n) _ hl0 hx1 hx2 hx3
  rw [HS.out] at hset
  unfold gv at hset
  dsimp only at hset
  go_wp2_with fail
  refine (hset).mono ?_
  rintro e w2 ⟨v2, rfl, hr2, hq2⟩
  obtain ⟨A2, c2, rfl, _, _⟩ := hr2.form
  clear hset
  have ha2 := (Below.refl w2.heap.size w2).alloc (Nat.le_refl _) (.cells #[.int .i64 s1, .int .i64 s2] 24)
  have hc2 := below2 hq2 ha2
  replace hg0 := hg0.ext hc2
  replace hl0 := hl0.ext hc2
  replace hbw := hbw.trans (hc2.mono hbw.size)
  have k2 := Blk.new w2 24 #[.int .i64 s1, .int .i64 s2]
  clear hq2 hc2
  replace hr2 := hr2.ext ha2
  have hof := of_ok _ _ gs l other _ hg0 hl0 hy1
  rw [HO.out] at hof
  go_wp2_with fail
  refine (hof).mono ?_
  rintro e w3 ⟨rfl, hq3⟩
  clear hof
  have ha3 := (Below.refl w3.heap.size w3).alloc (Nat.le_refl _) (.cells #[.int .i64 o1, .int .i64 o2] 24)
  have hc3 := below2 hq3 ha3
  replace hg0 := hg0.ext hc3
  replace hl0 := hl0.ext hc3
  replace k2 := k2.ext hc3
  replace hr2 := hr2.ext hc3
  replace hbw := hbw.trans (hc3.mono hbw.size)
  have k3 := Blk.new w3 24 #[.int .i64 o1, .int .i64 o2]
  clear hq3 hc3
  have hof := of_ok _ _ gs L other _ hg0 hr2 hy1
  rw [HP.out] at hof
  go_wp2_with fail
  refine (hof).mono ?_
  rintro e w4 ⟨rfl, hq4⟩
  clear hof
  have ha4 := (Below.refl w4.heap.size w4).alloc (Nat.le_refl _) (.cells #[.int .i64 p1, .int .i64 p2] 24)
  have hc4 := below2 hq4 ha4
  replace hg0 := hg0.ext hc4
  replace hl0 := hl0.ext hc4
  replace k2 := k2.ext hc4
  replace hr2 := hr2.ext hc4
  replace k3 := k3.ext hc4
  replace hbw := hbw.trans (hc4.mono hbw.size)
  have k4 := Blk.new w4 24 #[.int .i64 p1, .int .i64 p2]
  clear hq4 hc4
  obtain ⟨k20, k21, k22, k23, k24⟩ := k2.two
  obtain ⟨k30, k31, k32, k33, k34⟩ := k3.two
  obtain ⟨k40, k41, k42, k43, k44⟩ := k4.two
  by_cases hs1 : s1 = 0
  · subst hs1
    by_cases ho1 : o1 = 0
    · subst ho1
      by_cases hp1 : p1 = 0
      · subst hp1
        obtain ⟨q1, _, q3, q4⟩ := of_ok_parts HO.out
        obtain ⟨_, _, _, q7⟩ := of_ok_parts HP.out
        have hgu := (groups_user q1).2
        have hst : appliesF gs user other = false → ma = mb := fun h => by rw [q4, q7, strangers HS.out h]
        have hcn := concerns_ok _ gs user other (w4.alloc (.cells #[.int .i64 0, .int .i64 p2] 24)) hg0 (fun g hg => by have := (hgu g hg).2.1; omega)
        rw [← applies_concerns gs user other q3] at hcn
        have Hst := Lib.hid hst
        clear hst q1 q3 q4 q7 hgu
        rcases hash_cases user with ⟨t, ht⟩ | hno
        · have hlen : 0 < user.length := by rw [ht]; simp
          have hget : (bs user)[0]'(by simpa using hlen) = 35 := by rw [bs_get]; simp [ht]
          have hlen2 : (0 : Int) < (user.length : Int) := by omega
          obtain ⟨cc, hcc⟩ : ∃ t, appliesF gs user other = t := ⟨_, rfl⟩
          rw [hcc] at hcn Hst
          clear hcc ht
          cases cc with
          | true =>
            go_wp2_with fail
            refine hcn.mono ?_
            rintro e w9 ⟨rfl, rfl⟩
            go_wp2_with fail
            refine hcn.mono ?_
            rintro e w9 ⟨rfl, rfl⟩
            go_wp2
            go_ret
            exact ⟨rfl, hbw⟩
          | false =>
            obtain rfl := Hst.out rfl
            go_wp2_with fail
            refine hcn.mono ?_
            rintro e w9 ⟨rfl, rfl⟩
            go_wp2
            go_ret
            exact ⟨rfl, hbw⟩
        · have hap : appliesF gs user other = false := by
            have hh : isHash user = false := by
              rcases hno with rfl | ⟨c, t, rfl, hc⟩
              · rfl
              · simpa [isHash] using hc
            unfold appliesF
            rw [hh, trim_no _ hh]
            have := HQ3.out; have := HQ4.out
            simp_all
          obtain rfl := Hst.out hap
          clear hcn Hst hap
          rcases hno with rfl | ⟨c, t, rfl, hc⟩
          · go_wp2
            go_ret
            exact ⟨rfl, hbw⟩
          · have hget : (bs (c :: t))[0]'(by simp) = c := by rw [bs_get]; rfl
            have hlen2 : (0 : Int) < ((c :: t : Str).length : Int) := by rw [List.length_cons]; omega
            have hcq : ((c.toNat : Int) == 35) = false := by
              have : c.toNat ≠ 35 := fun h => hc (UInt8.toNat_inj.1 h)
              simp; omega
            go_wp2
            go_ret
            exact ⟨rfl, hbw⟩
      · have hbp1 : (p1 != 0) = true := by simpa using hp1
        clear hp1
        go_wp2
        go_ret
        exact ⟨rfl, hbw⟩
    · have hbo1 : (o1 != 0) = true := by simpa using ho1
      clear ho1
      go_wp2
      go_ret
      exact ⟨rfl, hbw⟩
  · have hbs1 : (s1 != 0) = true := by simpa using hs1
    clear hs1
    go_wp2
    go_ret
    exact ⟨rfl, hbw⟩
end Go.Proofs.Ytopldghfphgjoaa

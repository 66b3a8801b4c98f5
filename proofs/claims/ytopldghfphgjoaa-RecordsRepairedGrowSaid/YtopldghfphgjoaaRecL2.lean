/-
  The laws of the records' cuts, repairs and changes: their walks.
-/
import Derived.Test.YtopldghfphgjoaaRecEx
import Derived.Test.YtopldghfphgjoaaRecPure2
namespace Go.Proofs.Ytopldghfphgjoaa
open Go.RowKit

theorem append_code {l r : List UInt8} {la : List UInt8} {x1 x2 : Int} (h : appendF l r = (la, x1, x2)) : x1 ≠ 0 ∨ (x1 = 0 ∧ l.length ≤ 400000 ∧ endOf (recs l) = l.length ∧ r.length ≤ 20000 ∧ la = l ++ storedF r ∧ la.length = l.length + r.length + 10 ∧ la.length ≤ 400000) := by
  unfold appendF at h
  split at h
  · cases h; exact .inl (by decide)
  · split at h
    · cases h; exact .inl (by decide)
    · split at h
      · cases h; exact .inl (by decide)
      · split at h
        · cases h; exact .inl (by decide)
        · cases h
          have := storedF_len r
          have := endOf_le l
          have : (l ++ storedF r).length = l.length + r.length + 10 := by rw [List.length_append]; omega
          exact .inr ⟨rfl, by omega, by omega, by omega, rfl, this, by omega⟩

theorem SlR.preG {α : Type} {C : Codec α} {M : Nat → Prop} {w : World} {l : List α} {A : Option Addr} {n c : Nat} (h : SlR C M w (.slice A n c) l) {z : Nat} (hz : z ≤ l.length) : SlR C M w (.slice A z c) (l.take z) := by
  obtain ⟨A', n', c', xs, hv, rfl, hc, hm, he, ha⟩ := h
  injection hv with e1 e2 e3
  subst e1 e2 e3
  have hlen : (l.take z).length = z := by simp [Nat.min_eq_left hz]
  refine ⟨A, z, c, xs.take (z * C.n), rfl, hlen.symm, by omega, hm, he.take z, ?_⟩
  intro h0
  obtain ⟨b, off, hA, hM, hb, hcell⟩ := ha (by omega)
  refine ⟨b, off, hA, hM, hb, fun j u hu => hcell j u ?_⟩
  rw [List.getElem?_take] at hu
  split at hu
  · exact hu
  · cases hu
theorem readF_cut {l r la : List UInt8} {q : Nat} (hl : l.length ≤ 400000) (hend : endOf (recs l) = l.length) (hr : r.length ≤ 20000) (hla : la = l ++ storedF r) (hq1 : l.length ≤ q) (hq2 : q ≤ la.length) (h4 : la.length ≤ 400000) :
    readF l = ((recs l).map (·.2), l.length, 0, 0) ∧ readF (la.take q) = (if q = la.length then ((recs l).map (·.2) ++ [r], q, 0, 0) else ((recs l).map (·.2), l.length, 0, 0)) := by
  have hsl := storedF_len r
  have hlen : la.length = l.length + (r.length + 10) := by rw [hla, List.length_append, hsl]
  refine ⟨by rw [readF, if_neg (by omega), hend], ?_⟩
  have e : la.take q = l ++ (storedF r).take (q - l.length) := by rw [hla, List.take_append, List.take_of_length_le (by omega)]
  have hrc := recs_cut l r (q - l.length) hend hr
  rw [readF, if_neg (by rw [List.length_take]; omega), e, hrc]
  by_cases hq : q = la.length
  · rw [if_pos hq, if_pos (by omega), endOf_snoc, hend, List.map_append]
    congr 2
    omega
  · rw [if_neg hq, if_neg (by omega), List.append_nil, hend]

set_option maxRecDepth 100000 in
set_option maxHeartbeats 4000000 in
theorem cuts_walk (v0 : Value) (l : List UInt8) (v1 : Value) (r : List UInt8) (cut : Int) (w : World) (h0 : SlR byteC M0 w v0 l) (h1 : SlR byteC M0 w v1 r) (hcut : -9223372036854775808 ≤ cut ∧ cut ≤ 9223372036854775807) :
    Calls Try.prog 4 #[v0, v1, .int .i64 cut] w fun e w' => e = .returned (.bool true) ∧ Below w.heap.size w w' := by
  obtain ⟨A0, c0, rfl, hlc0, _⟩ := h0.form
  obtain ⟨A1, c1, rfl, hlc1, _⟩ := h1.form
  obtain ⟨⟨la, x1, x2⟩, hA⟩ : ∃ p, appendF l r = p := ⟨_, rfl⟩
  have hcode := append_code hA
  have HA := Lib.hid hA
  have Hcode := Lib.hid hcode
  clear hA hcode
  go_enter Try.func4, Try.ntmps4
  go_wp2_with fail
  refine (example_ok _).mono ?_
  rintro e wa ⟨rfl, hba⟩
  have h0a := h0.ext hba
  have h1a := h1.ext hba
  go_wp2_with fail
  refine (append_ok _ _ l r _ h0a h1a).mono ?_
  rintro e w1 ⟨u, he, hown1, hb1⟩
  rw [HA.out] at he hown1
  subst he
  obtain ⟨A2, c2, rfl, hc21, hc22⟩ := hown1.shape
  have ha1 := hown1.read0
  have hbw1 := below2 hba hb1
  have hlla := hown1.len_le
  have k1 := Blk.new w1 24 #[.int .i64 x1, .int .i64 x2]
  have h01 := h0a.ext hb1
  have h11 := h1a.ext hb1
  clear hown1 h0 h1 h0a h1a hb1 hba
  obtain ⟨w2, hw2⟩ : ∃ w2, w2 = w1.alloc (.cells #[.int .i64 x1, .int .i64 x2] 24) := ⟨_, rfl⟩
  rw [← hw2] at k1
  have hb12 : Below w1.heap.size w1 w2 := hw2 ▸ (Below.refl _ _).alloc (Nat.le_refl _) _
  rcases Hcode.out with hc | ⟨rfl, hl, hend, hr, hla, hlal, hla2⟩
  · have hx : (x1 != 0) = true := by simpa using hc
    have hx' : (x1 == 0) = false := by simpa using hc
    clear hw2 hc
    go_wp2
    go_ret
    exact ⟨rfl, (hbw1.alloc hbw1.size _)⟩
  · have Hla := Lib.hid hla; have Hlal := Lib.hid hlal; have Hend := Lib.hid hend
    have Hw2 := Lib.hid hw2
    clear hla hlal hend HA Hcode hw2
    have hin0 := in_ok cut (l.length : Int) (la.length : Int) w2
    by_cases hin : (l.length : Int) ≤ cut ∧ cut ≤ (la.length : Int)
    · have hd : (decide ((l.length : Int) ≤ cut) && decide (cut ≤ (la.length : Int))) = true := by simp [hin]
      rw [hd] at hin0
      have Hin := Lib.hid hin0
      clear hin0 hd
      obtain ⟨q, rfl⟩ : ∃ q : Nat, cut = (q : Int) := ⟨cut.toNat, by omega⟩
      have hq1 : l.length ≤ q := by omega
      have hq2 : q ≤ la.length := by omega
      obtain ⟨g1, g2⟩ := readF_cut hl Hend.out hr Hla.out hq1 hq2 hla2
      have G1 := Lib.hid g1; have G2 := Lib.hid g2
      clear g1 g2 hin
      go_wp2_with fail
      rw [← Hw2.out]
      refine Hin.out.mono ?_
      rintro e w3 ⟨rfl, rfl⟩
      have h02 := h01.ext hb12
      have h12 := h11.ext hb12
      have ha2 := ha1.ext hb12
      clear h01 h11 ha1
      go_wp2_with fail
      refine (read_ok _ l _ h02).mono ?_
      rintro e w3 ⟨u3, he, hr3, hb3⟩
      rw [G1.out] at he hr3
      subst he
      obtain ⟨lr, hlr⟩ : ∃ lr, lr = (recs l).map (·.2) := ⟨_, rfl⟩
      rw [← hlr] at hr3 G2
      have Hlr := Lib.hid hlr
      clear hlr
      obtain ⟨A3, c3, rfl, hc31, hc32⟩ := hr3.form
      have ha3 := ha2.ext hb3
      have h13 := h12.ext hb3
      have k13 := k1.ext hb3
      have k33 := Blk.new w3 24 #[.int .i64 0, .int .i64 0]
      have hb33 := (Below.refl w3.heap.size w3).alloc (Nat.le_refl _) (.cells #[.int .i64 0, .int .i64 0] 24)
      have haq := (ha3.ext hb33).pre hq2
      go_wp2_with fail
      refine (read_ok _ (la.take q) _ haq).mono ?_
      rintro e w4 ⟨u4, he, hr4, hb4⟩
      have hb34 := below2 hb33 hb4
      have k14 := k13.ext hb34
      have k34 := k33.ext hb4
      have hr34 := hr3.ext hb34
      have h14 := h13.ext hb34
      have hls : lr.length ≤ 1000000000 := by have := recs_count l; rw [Hlr.out, List.length_map]; omega
      have hbw4 := below2 (below2 hbw1 hb12) (below2 hb3 hb34)
      have k44 := Blk.new w4 24 #[.int .i64 0, .int .i64 0]
      obtain ⟨w5, hw5⟩ : ∃ w5, w5 = w4.alloc (.cells #[.int .i64 0, .int .i64 0] 24) := ⟨_, rfl⟩
      have hb45 : Below w4.heap.size w4 w5 := hw5 ▸ (Below.refl _ _).alloc (Nat.le_refl _) _
      rw [← hw5] at k44
      have k35 := k34.ext hb45
      have hr35 := hr34.ext hb45
      have h15 := h14.ext hb45
      have hbw5 := below2 hbw4 hb45
      have Hw5 := Lib.hid hw5
      obtain ⟨p0, p1, _, _, pb⟩ := k34.two
      obtain ⟨q0, q1, _, _, qb⟩ := k44.two
      clear k13 k33 hb33 haq hb3 hr3 ha3 h13 ha2 h12 h02 hb34 k14 k35 hr34 h14 hw5 k34 k44
      by_cases hq : q = la.length
      · rw [G2.out, if_pos hq] at he hr4
        have Hq := Lib.hid hq
        obtain ⟨lm, hlm⟩ : ∃ lm, lm = lr ++ [r] := ⟨_, rfl⟩
        rw [← hlm] at he hr4
        dsimp only at he hr4
        subst he
        obtain ⟨A4, c4, rfl, hc41, hc42⟩ := hr4.form
        have hln : lm.length = lr.length + 1 := by rw [hlm]; simp
        have i1 : ((lm.length : Int) < (lr.length : Int)) = False := by simp; omega
        have i2 : ((lm.length : Int) == (lr.length : Int) + 1) = true := by simp; omega
        have i3 : ((q : Int) == (la.length : Int)) = true := by simp; omega
        have hr5 := hr4.ext hb45
        have hpre := hr5.preG (z := lr.length) (by omega)
        have hte : lm.take lr.length = lr := by rw [hlm]; simp
        rw [hte] at hpre
        obtain ⟨bb, off, A9, c9, rfl, _, hcell, h9⟩ := hr5.slice1 (k := lr.length) (by omega)
        have hge : lm[lr.length]'(by omega) = r := by simp [hlm]
        rw [hge] at hcell h9
        have i4 : (lr.length : Int) < (lm.length : Int) := by omega
        have i5 : (lr.length : Int) ≤ (c4 : Int) := by omega
        clear hq hlm hln hte hge hc41
        go_wp2_with fail
        rw [← Hw5.out]
        refine ((sameRecords_ok M0 _ _ lr lr _ hpre hr35 hls).mono fun e w' h => (⟨by rw [h.1, beq_self_eq_true], h.2⟩ : e = .returned (.bool true) ∧ ∃ n, w' = w5.drewN n)).mono ?_
        rintro e w6 ⟨rfl, k, rfl⟩
        go_wp2_with fail
        refine ((same_ok M0 _ _ r r _ (h9.drewN k) (h15.drewN k)).mono fun e w' h => (⟨by rw [h.1, beq_self_eq_true], h.2⟩ : e = .returned (.bool true) ∧ w5.drewN k = w')).mono ?_
        rintro e w7 ⟨rfl, rfl⟩
        go_wp2
        go_ret
        exact ⟨rfl, hbw5.trans (below_drewN' _ _ _)⟩
      · rw [G2.out, if_neg hq] at he hr4
        dsimp only at he hr4
        subst he
        obtain ⟨A4, c4, rfl, hc41, hc42⟩ := hr4.form
        have i3 : ((q : Int) == (la.length : Int)) = false := by simp; omega
        have hr5 := hr4.ext hb45
        clear hq
        go_wp2_with fail
        rw [← Hw5.out]
        refine ((sameRecords_ok M0 _ _ lr lr _ hr5 hr35 hls).mono fun e w' h => (⟨by rw [h.1, beq_self_eq_true], h.2⟩ : e = .returned (.bool true) ∧ ∃ n, w' = w5.drewN n)).mono ?_
        rintro e w6 ⟨rfl, k, rfl⟩
        go_wp2
        go_ret
        exact ⟨rfl, hbw5.trans (below_drewN' _ _ _)⟩
    · have hd : (decide ((l.length : Int) ≤ cut) && decide (cut ≤ (la.length : Int))) = false := by
        rw [Bool.and_eq_false_iff]; simp; omega
      rw [hd] at hin0
      have Hin := Lib.hid hin0
      clear hin0 hd
      go_wp2_with fail
      rw [← Hw2.out]
      refine Hin.out.mono ?_
      rintro e w3 ⟨rfl, rfl⟩
      go_wp2
      go_ret
      exact ⟨rfl, below2 hbw1 hb12⟩
end Go.Proofs.Ytopldghfphgjoaa

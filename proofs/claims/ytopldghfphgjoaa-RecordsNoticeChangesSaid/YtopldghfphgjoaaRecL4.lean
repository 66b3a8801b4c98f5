/-
  The law of changed records: its walk.
-/
import Derived.Test.YtopldghfphgjoaaRecL3
import Derived.Test.YtopldghfphgjoaaOwn
namespace Go.Proofs.Ytopldghfphgjoaa
open Go.RowKit

theorem append_nil_facts (r : List UInt8) : (20000 < r.length ∧ appendF [] r = ([], 1, -3)) ∨ (r.length ≤ 20000 ∧ appendF [] r = (storedF r, 0, 0)) := by
  have h0 : endOf (recs []) = 0 := by have := endOf_le []; simpa using this
  by_cases h : 20000 < r.length
  · exact .inl ⟨h, by rw [appendF, if_neg (by simp), h0, if_neg (by simp), if_pos h]⟩
  · exact .inr ⟨by omega, by rw [appendF, if_neg (by simp), h0, if_neg (by simp), if_neg h, if_neg (by simp; omega)]; rfl⟩
theorem read_changed (r : List UInt8) (k : Nat) (x : UInt8) (hr : r.length ≤ 20000) (h2 : 2 ≤ k) (hk : k < (storedF r).length) (hx : x ≠ (storedF r)[k]) : readF ((storedF r).set k x) = ([], 0, 0, 0) := by
  have h := changed_none r k x hr h2 hk hx
  have hl := storedF_len r
  rw [readF, if_neg (by rw [List.length_set]; omega), recs_none h]
  rfl

set_option maxRecDepth 100000 in
set_option maxHeartbeats 4000000 in
theorem notice_walk (v0 : Value) (r : List UInt8) (at_ mask : Int) (w : World) (h0 : SlR byteC M0 w v0 r) (ha1 : -9223372036854775808 ≤ at_ ∧ at_ ≤ 9223372036854775807) (hm1 : -9223372036854775808 ≤ mask ∧ mask ≤ 9223372036854775807) :
    Calls Try.prog 6 #[v0, .int .i64 at_, .int .i64 mask] w fun e w' => e = .returned (.bool true) ∧ Below w.heap.size w w' := by
  obtain ⟨A0, c0, rfl, hlc0, _⟩ := h0.form
  rcases append_nil_facts r with ⟨hr, hA⟩ | ⟨hr, hA⟩
  · have HA := Lib.hid hA
    clear hA
    go_enter Try.func6, Try.ntmps6
    go_wp2_with fail
    refine (example_ok _).mono ?_
    rintro e wa ⟨rfl, hba⟩
    have h0a := h0.ext hba
    go_wp2_with fail
    refine (append_ok _ _ [] r _ (SlR.nil _ _ _) h0a).mono ?_
    rintro e w1 ⟨u, he, hown1, hb1⟩
    rw [HA.out] at he hown1
    subst he
    obtain ⟨A2, c2, rfl, _, _⟩ := hown1.shape
    have hbw := below2 hba hb1
    clear hown1 h0a h0 hb1 hba
    go_wp2
    go_ret
    exact ⟨rfl, hbw.alloc hbw.size _⟩
  · have hsl := storedF_len r
    obtain ⟨la, hla⟩ : ∃ la, la = storedF r := ⟨_, rfl⟩
    have hrc := fun k x h2 hk hx => read_changed r k x hr h2 hk hx
    rw [← hla] at hA hsl hrc
    have HA := Lib.hid hA; have Hrc := Lib.hid hrc; have Hsl := Lib.hid hsl
    clear hA hrc hsl hla
    have hl1 : 10 ≤ la.length := by have := Hsl.out; omega
    have hl2 : la.length ≤ 20010 := by have := Hsl.out; omega
    go_enter Try.func6, Try.ntmps6
    go_wp2_with fail
    refine (example_ok _).mono ?_
    rintro e wa ⟨rfl, hba⟩
    have h0a := h0.ext hba
    go_wp2_with fail
    refine (append_ok _ _ [] r _ (SlR.nil _ _ _) h0a).mono ?_
    rintro e w1 ⟨u, he, hown1, hb1⟩
    rw [HA.out] at he hown1
    subst he
    obtain ⟨A2, c2, rfl, hc21, _⟩ := hown1.shape
    have hbw1 := below2 hba hb1
    have hp1 := hown1.read0
    obtain ⟨w2, hw2⟩ : ∃ w2, w2 = w1.alloc (.cells #[.int .i64 0, .int .i64 0] 24) := ⟨_, rfl⟩
    have hb12 : Below w1.heap.size w1 w2 := hw2 ▸ (Below.refl _ _).alloc (Nat.le_refl _) _
    have hp2 := hp1.ext hb12
    have hbw2 := below2 hbw1 hb12
    have Hw2 := Lib.hid hw2
    clear hown1 h0 h0a hba hb1 hw2 hp1
    have hin1 := in_ok at_ 2 ((la.length : Int) - 1) w2
    have hin2 := in_ok mask 1 255 w2
    by_cases hat : 2 ≤ at_ ∧ at_ ≤ (la.length : Int) - 1
    · have hd1 : (decide (2 ≤ at_) && decide (at_ ≤ (la.length : Int) - 1)) = true := by simp; omega
      rw [hd1] at hin1
      by_cases hmk : 1 ≤ mask ∧ mask ≤ 255
      · have hd2 : (decide (1 ≤ mask) && decide (mask ≤ 255)) = true := by simp; omega
        rw [hd2] at hin2
        have Hin1 := Lib.hid hin1; have Hin2 := Lib.hid hin2
        clear hin1 hin2 hd1 hd2
        go_wp2_with fail
        rw [← Hw2.out]
        refine Hin1.out.mono ?_
        rintro e w3 ⟨rfl, rfl⟩
        go_wp2_with fail
        refine Hin2.out.mono ?_
        rintro e w3 ⟨rfl, rfl⟩
        have hnl : SlR byteC (fun b => M0 b ∨ (Value.slice none 0 0).ownBlock = some b) w2 (.slice A2 la.length c2) la := hp2.sub (fun b _ h => h.elim id (fun h => by simp [Value.ownBlock] at h))
        go_wp2_with (at_builtin; refine wpList_append_Own byteC (M := M0) (B := w2.heap.size) (l := []) (l' := la) TBytes rfl (.const (.slice none 0 0)) (.tmp 36) rfl (v := .slice none 0 0) rfl (Own.nil _ _ _ _ _) rfl hnl ?c2 ?c3 ?c4 ?_)
        case c2 => simp [maxLen]; omega
        case c3 => simp; omega
        case c4 => exact Nat.le_refl _
        intro A4 c4 L4 w4 hL4 hown4 hb4 _ _
        obtain rfl : L4 = la := by simpa using hL4.out
        obtain ⟨g, c5, cur, hv5, hc5, _, hg5, hblk, hcur⟩ := hown4.blk (by omega)
        injection hv5 with e1 _ e2
        subst e1 e2
        obtain ⟨k, rfl⟩ : ∃ k : Nat, at_ = (k : Int) := ⟨at_.toNat, by omega⟩
        have hk : k < L4.length := by omega
        obtain ⟨_, _, e1, _, _, hcell⟩ := hown4.read0.byte hk
        cases e1
        rw [Nat.zero_add] at hcell
        obtain ⟨m, hm⟩ : ∃ m : UInt8, mask = (m.toNat : Int) := ⟨UInt8.ofNat mask.toNat, by rw [UInt8.toNat_ofNat']; omega⟩
        subst hm
        have hmw : IntKind.u8.wrap (m.toNat : Int) = (m.toNat : Int) := by rw [IntKind.wrap_u8]; have := m.toNat_lt; omega
        obtain ⟨y, hy⟩ : ∃ y, y = L4[k] := ⟨_, rfl⟩
        rw [← hy] at hcell
        have hx := xor_u8 y m
        have hfr := hblk.frozen k
        have hlt := hblk.lt
        have hm0 : m ≠ 0 := fun e => by rw [e] at hmk; simp at hmk
        have hrc := Hrc.out k (y ^^^ m) (by omega) hk (by rw [← hy]; exact xor_ne y m hm0)
        obtain ⟨z, hz⟩ : ∃ z, z = y ^^^ m := ⟨_, rfl⟩
        rw [← hz] at hx hrc
        have hput := hown4.put1 rfl hk (u := .int .u8 (z.toNat : Int)) (a := z) rfl
        have hx2 := hx.symm
        have Hrc2 := Lib.hid hrc; have Hy := Lib.hid hy
        clear hx hrc hy Hin1 Hin2 hnl hp2 hz
        go_wp2_with fail
        have hb45 : Below w2.heap.size w2 (w4.setCell ⟨g, k, none⟩ (.int .u8 (z.toNat : Int))) := hb4.setCell hg5 _
        have hbw5 := below2 hbw2 hb45
        refine (read_ok _ _ _ hput.read0).mono ?_
        rintro e w5 ⟨u5, he, hr5, hb5⟩
        rw [Hrc2.out] at he hr5
        subst he
        obtain ⟨A5, c5, rfl, _, _⟩ := hr5.form
        have hbw6 := below2 hbw5 hb5
        clear hput hown4 hblk hcell hfr
        go_wp2
        go_ret
        exact ⟨rfl, hbw6.alloc hbw6.size _⟩
      · have hd2 : (decide (1 ≤ mask) && decide (mask ≤ 255)) = false := by rw [Bool.and_eq_false_iff]; simp; omega
        rw [hd2] at hin2
        have Hin1 := Lib.hid hin1; have Hin2 := Lib.hid hin2
        clear hin1 hin2 hd1 hd2
        go_wp2_with fail
        rw [← Hw2.out]
        refine Hin1.out.mono ?_
        rintro e w3 ⟨rfl, rfl⟩
        go_wp2_with fail
        refine Hin2.out.mono ?_
        rintro e w3 ⟨rfl, rfl⟩
        go_wp2
        go_ret
        exact ⟨rfl, hbw2⟩
    · have hd1 : (decide (2 ≤ at_) && decide (at_ ≤ (la.length : Int) - 1)) = false := by rw [Bool.and_eq_false_iff]; simp; omega
      rw [hd1] at hin1
      have Hin1 := Lib.hid hin1
      clear hin1 hin2 hd1
      go_wp2_with fail
      rw [← Hw2.out]
      refine Hin1.out.mono ?_
      rintro e w3 ⟨rfl, rfl⟩
      go_wp2
      go_ret
      exact ⟨rfl, hbw2⟩
end Go.Proofs.Ytopldghfphgjoaa

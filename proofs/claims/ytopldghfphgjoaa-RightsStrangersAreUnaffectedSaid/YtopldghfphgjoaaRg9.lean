/-
  The rights of a user, by the reference; equal grants.
-/
import Derived.Test.YtopldghfphgjoaaRg8
import Derived.Outline
namespace Go.Proofs.Ytopldghfphgjoaa
open Go.RowKit

def hasBit (gs : List Group) (user : Str) (kk : Nat) (g : Grant) : Bool := decide (g.2.2 / (kk : Int) % 2 = 1) && concernsF gs g.1 user
theorem any_snoc {α : Type} (l : List α) (p : α → Bool) (k : Nat) (h : k < l.length) : (l.take (k + 1)).any p = ((l.take k).any p || p l[k]) := by
  rw [List.take_succ_eq_append_getElem h, List.any_append]; simp

theorem take_get {α : Type} (l : List α) (k : Nat) (h : k < l.length) : l.take (k + 1) = l.take k ++ [l[k]] := List.take_succ_eq_append_getElem h

set_option maxRecDepth 20000 in
set_option maxHeartbeats 4000000 in
theorem rightsOf_ok (v0 v1 : Value) (gs : List Group) (l : List Grant) (user : Str) (w : World) (h0 : SlR groupC M0 w v0 gs) (h1 : SlR grantC M0 w v1 l) (hg : ∀ g ∈ gs, g.1.length ≤ 1000) (hs : Small64 l) : Calls Try.prog 32 #[v0, v1, .string (bs user)] w fun e w' =>
    e = .returned (.int .i64 ((bitsF (refBit gs l user) 6 : Nat) : Int)) ∧ w = w' := by
  obtain ⟨A0, c0, rfl, _, _⟩ := h0.form
  obtain ⟨A1, c1, rfl, _, _⟩ := h1.form
  obtain ⟨hlc1, hcm1⟩ := h1.lenM
  have Hg := Lib.hid hg; have HS := Lib.hid hs
  clear hg hs
  go_enter Try.func32, Try.ntmps32
  go_wp2
  go_loop [7, 8, 9, 10, 11] (fun o k _ _ _ => ∃ (i kk on : Nat), i ≤ 6 ∧ k = .int .i64 kk ∧ o = .int .i64 on ∧ Hid (kk = 2 ^ i) ∧ Hid (on = bitsF (refBit gs l user) i) ∧ 1 ≤ kk ∧ kk ≤ 64 ∧ on < kk) (fun _ k _ _ _ => 64 - (intOf k).toNat)
  case atStart => exact ⟨0, 1, 0, by omega, rfl, rfl, Lib.hid rfl, Lib.hid rfl, by omega, by omega, by omega⟩
  case round =>
    obtain ⟨i, kk, on, hi, rfl, rfl, hkk, hon, hk1, hk2, hok⟩ := hrel
    by_cases hlt : kk < 64
    · have hi6 : i < 6 := by
        rcases Nat.lt_or_ge i 6 with h | h
        · exact h
        · obtain rfl : i = 6 := by omega
          have := hkk.out; omega
      have hcast : ((kk : Nat) : Int) = (2 : Int) ^ i := by rw [hkk.out]; simp
      have Hcast := Lib.hid hcast
      clear hcast
      go_wp2
      go_loop [9, 10, 11] (fun g d x => ∃ (j : Nat) (gb db : Bool), j ≤ l.length ∧ x = .int .i64 j ∧ g = .bool gb ∧ d = .bool db ∧ Hid (gb = (l.take j).any fun g => hasBit gs user kk g && !g.2.1) ∧ Hid (db = (l.take j).any fun g => hasBit gs user kk g && g.2.1)) (fun _ _ x => l.length - (intOf x).toNat)
      case atStart => exact ⟨0, false, false, Nat.zero_le _, rfl, rfl, rfl, Lib.hid (by simp), Lib.hid (by simp)⟩
      case round =>
        obtain ⟨j, gb, db, hj, rfl, rfl, rfl, hgb, hdb⟩ := hrel
        by_cases hjl : j < l.length
        · obtain ⟨b, off, rfl, hbl, q0, q1, q2, hl1, _, _⟩ := h1.grantAt hjl
          have hsk := HS.out _ (List.getElem_mem hjl)
          have hg1 := any_snoc l (fun g => hasBit gs user kk g && !g.2.1) j hjl
          have hd1 := any_snoc l (fun g => hasBit gs user kk g && g.2.1) j hjl
          obtain ⟨⟨who, neg, r⟩, hx⟩ : ∃ x, x = l[j] := ⟨_, rfl⟩
          rw [← hx] at q0 q1 q2 hl1 hsk hg1 hd1
          dsimp only at q0 q1 q2 hl1 hsk hg1 hd1
          rw [← hgb.out] at hg1
          rw [← hdb.out] at hd1
          have hc := concerns_ok _ gs who user w h0 Hg.out
          obtain ⟨t, ht⟩ : ∃ t, concernsF gs who user = t := ⟨_, rfl⟩
          have hhb : hasBit gs user kk (who, neg, r) = (decide (r / (kk : Int) % 2 = 1) && t) := by rw [hasBit, ← ht]
          rw [hhb] at hg1 hd1
          rw [ht] at hc
          obtain ⟨hr0, hr63⟩ := hsk
          have hdr : 0 ≤ r / (kk : Int) := Int.ediv_nonneg hr0 (by omega)
          have Hc := Lib.hid hc; have Hg1 := Lib.hid hg1; have Hd1 := Lib.hid hd1
          clear hc hg1 hd1 hhb hx ht
          by_cases hb1 : r / (kk : Int) % 2 = 1
          · have hbb : (r / (kk : Int) % 2 == 1) = true := by simpa using hb1
            rw [decide_eq_true hb1] at Hg1 Hd1
            clear hb1
            go_wp2_with fail
            refine Hc.out.mono ?_
            rintro e w1 ⟨rfl, rfl⟩
            cases t with
            | false =>
              go_wp2
              go_round
              case rel => exact ⟨j + 1, gb, db, by omega, by go_num, rfl, rfl, Lib.hid (by rw [Hg1.out]; simp), Lib.hid (by rw [Hd1.out]; simp)⟩
              case measure => simp [intOf]; omega
            | true =>
              cases gb <;> cases db <;> cases neg
              all_goals
                go_wp2
                go_round
                case rel => exact ⟨j + 1, _, _, by omega, by go_num, rfl, rfl, Lib.hid (by rw [Hg1.out]; rfl), Lib.hid (by rw [Hd1.out]; rfl)⟩
                case measure => simp [intOf]; omega
          · have hbb : (r / (kk : Int) % 2 == 1) = false := by simpa using hb1
            rw [decide_eq_false hb1] at Hg1 Hd1
            clear hb1
            go_wp2
            go_round
            case rel => exact ⟨j + 1, gb, db, by omega, by go_num, rfl, rfl, Lib.hid (by rw [Hg1.out]; simp), Lib.hid (by rw [Hd1.out]; simp)⟩
            case measure => simp [intOf]; omega
        · have hje : j = l.length := by omega
          subst hje
          have hfi : refBit gs l user i = (gb && !db) := by
            rw [hgb.out, hdb.out, List.take_length, refBit]
            unfold hasBit
            rw [Hcast.out]
          have hnext : (on + if (gb && !db) then kk else 0) = bitsF (refBit gs l user) (i + 1) := by
            rw [bitsF, hfi, ← hon.out, ← hkk.out]
          have Hnext := Lib.hid hnext
          have hkn : 2 * kk = 2 ^ (i + 1) := by rw [Nat.pow_succ, ← hkk.out]; omega
          have Hkn := Lib.hid hkn
          have hk64 : 2 * kk ≤ 64 := by rw [hkn]; exact Nat.pow_le_pow_right (n := 2) (by omega) (show i + 1 ≤ 6 by omega)
          clear hnext hfi hkn
          cases gb <;> cases db
          all_goals
            go_wp2
            go_round
            case rel => exact ⟨i + 1, 2 * kk, _, by omega, by go_num, by simp, Hkn, Hnext, by omega, hk64, by simp; omega⟩
            case measure => simp [intOf]; omega
    · have hie : i = 6 := by
        rcases Nat.lt_or_ge i 6 with h | h
        · have h3 := hkk.out
          have := Nat.pow_le_pow_right (n := 2) (by omega) (show i ≤ 5 by omega)
          omega
        · omega
      subst hie
      have hne := hon.out
      have Hne := Lib.hid hne
      clear hne
      go_wp2
      go_ret
      exact ⟨by rw [← Hne.out]; rfl, rfl⟩

theorem run_neq_grant (s s' : Str) (n n' : Bool) (r r' : Int) (w : World) : (binOp .neq 47 (.agg #[.string (bs s), .bool n, .int .i64 r]) (.agg #[.string (bs s'), .bool n', .int .i64 r'])).run Try.prog w = .ok (.bool (!((s, n, r) == (s', n', r')))) w := by
  have h1 : ((s, n, r) == (s', n', r')) = ((s == s') && ((n == n') && (r == r'))) := rfl
  rw [h1]
  cases e1 : (s == s') <;> cases e2 : (n == n') <;> cases e3 : (r == r')
  all_goals simp [go_sem, e1, e2, e3]

set_option maxHeartbeats 1000000 in
theorem sameGrants_ok (v v' : Value) (l l' : List Grant) (w : World) (h : SlR grantC M0 w v l) (h' : SlR grantC M0 w v' l') : Calls Try.prog 35 #[v, v'] w fun e w' => e = .returned (.bool (l == l')) ∧ Below w.heap.size w w' := by
  obtain ⟨A, c, rfl, _, _⟩ := h.form
  obtain ⟨A', c', rfl, _, _⟩ := h'.form
  obtain ⟨hlc, hcm⟩ := h.lenM
  obtain ⟨hlc', hcm'⟩ := h'.lenM
  by_cases hl : l.length = l'.length
  · have hl' : ((l.length : Int) != (l'.length : Int)) = false := by simp [hl]
    have Hl := Lib.hid hl
    clear hl
    go_enter Try.func35, Try.ntmps35
    go_wp2
    go_loopw [5] (fun i wr => ∃ k : Nat, k ≤ l.length ∧ i = .int .i64 k ∧ Hid (l.take k = l'.take k) ∧ Below w.heap.size w wr) (fun i _ => l.length - (intOf i).toNat)
    case atStart => exact ⟨0, Nat.zero_le _, rfl, Lib.hid rfl, Below.refl _ _⟩
    case round =>
      obtain ⟨k, hk, rfl, hpre, hb⟩ := hrel
      by_cases hlt : k < l.length
      · have hlt' : k < l'.length := by have := Hl.out; omega
        obtain ⟨b, off, rfl, _, q0, q1, q2, _, _, _⟩ := (h.ext hb).grantAt hlt
        obtain ⟨b', off', rfl, _, p0, p1, p2, _, _, _⟩ := (h'.ext hb).grantAt hlt'
        obtain ⟨⟨s, n, r⟩, hx⟩ : ∃ x, x = l[k] := ⟨_, rfl⟩
        obtain ⟨⟨s', n', r'⟩, hx'⟩ : ∃ x, x = l'[k] := ⟨_, rfl⟩
        rw [← hx] at q0 q1 q2
        rw [← hx'] at p0 p1 p2
        dsimp only at q0 q1 q2 p0 p1 p2
        have hneq := run_neq_grant s s' n n' r r'
        obtain ⟨t, ht⟩ : ∃ t, ((s, n, r) == (s', n', r')) = t := ⟨_, rfl⟩
        rw [ht] at hneq
        have Hx := Lib.hid hx; have Hx' := Lib.hid hx'; have Ht := Lib.hid ht
        clear hx hx' ht
        go_wp2
        go_quiet (fail)
        clear hneq
        cases t with
        | true =>
          go_wp2
          go_roundw
          case rel => exact ⟨k + 1, by omega, by go_num, Lib.hid (by rw [take_get l k hlt, take_get l' k hlt', hpre.out, ← Hx.out, ← Hx'.out, eq_of_beq Ht.out]), hb.trans (below_drewN' _ _ _)⟩
          case measure => simp [intOf]; omega
        | false =>
          go_wp2
          go_ret
          have hne : (l == l') = false := by
            rw [beq_eq_false_iff_ne]
            intro e
            subst e
            have := Ht.out
            rw [Hx.out, Hx'.out] at this
            simp at this
          exact ⟨ret_bool (by rw [hne]), hb.trans (below_drewN' _ _ _)⟩
      · have he : k = l.length := by omega
        subst he
        go_wp2
        go_ret
        refine ⟨ret_bool ?_, hb⟩
        have hp := hpre.out
        rw [List.take_length, List.take_of_length_le (by have := Hl.out; omega)] at hp
        rw [hp]; simp
  · have hl' : ((l.length : Int) != (l'.length : Int)) = true := by simp; omega
    have hne : (l == l') = false := by simp; intro h; exact hl (by rw [h])
    rw [hne]
    go_enter Try.func35, Try.ntmps35
    go_wp2
    go_ret
    exact ⟨rfl, Below.refl _ _⟩
end Go.Proofs.Ytopldghfphgjoaa

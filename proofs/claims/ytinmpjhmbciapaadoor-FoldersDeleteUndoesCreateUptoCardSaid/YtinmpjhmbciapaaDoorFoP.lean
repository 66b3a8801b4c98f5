/-
  The reference's Above and Under; Texts.
-/
import Derived.Test.YtinmpjhmbciapaaDoorFoO
namespace Go.Proofs.YtinmpjhmbciapaaDoor
open Go.RowKit
theorem above_last {s : Str} {k : Nat} (hk : k < s.length) (h : s[k] = 47) (hn : ∀ (j : Nat) (hj : j < s.length), k < j → s[j] ≠ 47) : s.take k = aboveF s := by
  have hl := last_hit hk h hn
  unfold lastF at hl
  rw [if_pos (by rw [← h]; exact List.getElem_mem hk)] at hl
  have : (aboveF s).length = k := by omega
  rw [← this, above_take]

set_option maxHeartbeats 1000000 in
theorem aboveR_ok (s : Str) (hs : s.length ≤ maxLen) (w : World) : Calls Tryd.prog 26 #[.string (bs s)] w fun e w' => e = .returned (.string (bs (aboveF s))) ∧ w = w' := by
  unfold maxLen at hs
  go_enter Tryd.func26, Tryd.ntmps26
  go_wp2
  go_loop [3] (fun i => ∃ k : Nat, k ≤ s.length ∧ i = .int .i64 ((k : Int) - 1) ∧ Hid (∀ (j : Nat) (hj : j < s.length), k ≤ j → s[j] ≠ 47)) (fun i => (intOf i + 1).toNat)
  case atStart => exact ⟨s.length, Nat.le_refl _, rfl, Lib.hid fun j hj h => absurd hj (by omega)⟩
  case round =>
    obtain ⟨k, hk, rfl, hpre⟩ := hrel
    by_cases h0 : 0 < k
    · obtain ⟨m, rfl⟩ : ∃ m, k = m + 1 := ⟨k - 1, by omega⟩
      have hml : m < s.length := by omega
      have e1 : (((m + 1 : Nat) : Int) - 1) = (m : Int) := by omega
      rw [e1]
      have hx0 : (0 : Int) ≤ (m : Int) := by omega
      have hget : (bs s)[m]'(by simpa using hml) = s[m] := bs_get s m (by simpa using hml)
      obtain ⟨x, hx⟩ : ∃ x, s[m] = x := ⟨_, rfl⟩
      rw [hx] at hget
      have Hx := Lib.hid hx
      clear hx e1
      cases ht : ((x.toNat : Int) == 47) with
      | true =>
        go_wp2
        go_ret
        have hx47 : x = 47 := UInt8.toNat_inj.1 (by have := beq_iff_eq.1 ht; simp; omega)
        have := above_last hml (Hx.out.trans hx47) fun j hj hjm => hpre.out j hj (by omega)
        exact ⟨by rw [← this]; simp, rfl⟩
      | false =>
        go_wp2
        go_round
        case rel => exact ⟨m, by omega, rfl, Lib.hid fun j hj hjm => by
          by_cases e : j = m
          · subst e
            rw [Hx.out]
            rintro rfl
            simp at ht
          · exact hpre.out j hj (by omega)⟩
        case measure => simp [intOf]
    · obtain rfl : k = 0 := by omega
      go_wp2
      go_ret
      have : aboveF s = [] := above_noslash s fun hm => by
        obtain ⟨j, hj, he⟩ := List.getElem_of_mem hm
        exact hpre.out j hj (by omega) he
      exact ⟨by rw [this]; rfl, rfl⟩

set_option maxHeartbeats 1000000 in
theorem under_ok (s t : Str) (hs : s.length ≤ maxLen) (w : World) : Calls Tryd.prog 28 #[.string (bs s), .string (bs t)] w fun e w' => e = .returned (.bool (decide (t ∈ ancF s))) ∧ w = w' := by
  go_enter Tryd.func28, Tryd.ntmps28
  go_wp2
  go_loop [0] (fun sv => ∃ r : Str, r.length ≤ s.length ∧ sv = .string (bs r) ∧ Hid (t ∈ ancF s ↔ t ∈ ancF r)) (fun sv => strLen sv)
  case atStart => exact ⟨s, Nat.le_refl _, rfl, Lib.hid Iff.rfl⟩
  case round =>
    obtain ⟨r, hr, rfl, hiff⟩ := hrel
    cases r with
    | nil =>
      go_wp2
      go_ret
      have h := hiff.out
      rw [anc_nil] at h
      exact ⟨ret_bool (by rw [decide_eq_false (fun hm => by have := h.1 hm; cases this)]), rfl⟩
    | cons ch u =>
      obtain ⟨q, hq⟩ : ∃ q, q = ch :: u := ⟨_, rfl⟩
      have hne : q ≠ [] := by rw [hq]; simp
      have hnb : (q == ([] : List UInt8)) = false := by simpa using hne
      rw [← hq] at hr hiff ⊢
      clear hq
      have hal := aboveR_ok q (by omega) w
      have hlt := above_lt q hne
      have hst : t ∈ ancF q ↔ t = q ∨ t ∈ ancF (aboveF q) := by rw [anc_step q hne, List.mem_cons]
      have Hal := Lib.hid hal; have Hlt := Lib.hid hlt; have Hst := Lib.hid hst
      clear hal hlt hst hne
      cases ht : (q == t) with
      | true =>
        go_wp2
        go_ret
        exact ⟨ret_bool (by rw [decide_eq_true (hiff.out.2 (Hst.out.2 (.inl (beq_iff_eq.1 ht).symm)))]), rfl⟩
      | false =>
        go_wp2_with fail
        refine Hal.out.mono ?_
        rintro e w1 ⟨rfl, rfl⟩
        go_wp2
        go_round
        case rel => exact ⟨aboveF q, by have := Hlt.out; omega, rfl, Lib.hid (hiff.out.trans (Hst.out.trans ⟨fun h => h.resolve_left (fun e => by rw [e] at ht; simp at ht), .inr⟩))⟩
        case measure => simp [strLen]; exact Hlt.out
theorem take_get {α : Type} (l : List α) (k : Nat) (h : k < l.length) : l.take (k + 1) = l.take k ++ [l[k]] := List.take_succ_eq_append_getElem h

set_option maxHeartbeats 1000000 in
theorem texts_ok (v v' : Value) (l l' : List Str) (w : World) (h : SlR strC M0 w v l) (h' : SlR strC M0 w v' l') : Calls Tryd.prog 18 #[v, v'] w fun e w' => e = .returned (.bool (l == l')) ∧ Below w.heap.size w w' := by
  obtain ⟨A, c, rfl, _, _⟩ := h.form
  obtain ⟨A', c', rfl, _, _⟩ := h'.form
  obtain ⟨hlc, hcm⟩ := h.lenM
  obtain ⟨hlc', hcm'⟩ := h'.lenM
  by_cases hl : l.length = l'.length
  · have hl' : ((l.length : Int) != (l'.length : Int)) = false := by simp [hl]
    have Hl := Lib.hid hl
    clear hl
    go_enter Tryd.func18, Tryd.ntmps18
    go_wp2
    go_loopw [5] (fun i wr => ∃ k : Nat, k ≤ l.length ∧ i = .int .i64 k ∧ Hid (l.take k = l'.take k) ∧ Below w.heap.size w wr) (fun i _ => l.length - (intOf i).toNat)
    case atStart => exact ⟨0, Nat.zero_le _, rfl, Lib.hid rfl, Below.refl _ _⟩
    case round =>
      obtain ⟨k, hk, rfl, hpre, hb⟩ := hrel
      by_cases hlt : k < l.length
      · have hlt' : k < l'.length := by have := Hl.out; omega
        obtain ⟨b, off, rfl, _, _, q0, _⟩ := (h.ext hb).strAt hlt
        obtain ⟨b', off', rfl, _, _, p0, _⟩ := (h'.ext hb).strAt hlt'
        obtain ⟨s, hx⟩ : ∃ x, x = l[k] := ⟨_, rfl⟩
        obtain ⟨s', hx'⟩ : ∃ x, x = l'[k] := ⟨_, rfl⟩
        rw [← hx] at q0
        rw [← hx'] at p0
        obtain ⟨t, ht⟩ : ∃ t, (s == s') = t := ⟨_, rfl⟩
        have Hx := Lib.hid hx; have Hx' := Lib.hid hx'
        clear hx hx'
        have hi1 : (k : Int) < (l.length : Int) := by omega
        have hi2 : (k : Int) < (l'.length : Int) := by omega
        cases t with
        | true =>
          have hnn : (s != s') = false := by rw [bne, ht]; rfl
          go_wp2
          go_quiet (fail)
          go_wp2
          go_roundw
          case rel => exact ⟨k + 1, by omega, by go_num, Lib.hid (by rw [take_get l k hlt, take_get l' k hlt', hpre.out, ← Hx.out, ← Hx'.out, eq_of_beq ht]), hb.trans (below_drewN' _ _ _)⟩
          case measure => simp [intOf]; omega
        | false =>
          have hnn : (s != s') = true := by rw [bne, ht]; rfl
          go_wp2
          go_quiet (fail)
          go_wp2
          go_ret
          have hne : (l == l') = false := by
            rw [beq_eq_false_iff_ne]
            intro e
            subst e
            rw [Hx.out, Hx'.out] at ht
            simp at ht
          exact ⟨ret_bool (by rw [hne]), hb.trans (below_drewN' _ _ _)⟩
      · have he : k = l.length := by omega
        subst he
        go_wp2
        go_ret
        refine ⟨ret_bool ?_, hb⟩
        have hp := hpre.out
        rw [List.take_length, List.take_of_length_le (by have := Hl.out; omega)] at hp
        rw [hp]; simp
  · have hl' : ((l.length : Int) != (l'.length : Int)) = true := by simp; omega
    have hne : (l == l') = false := by simp; intro h; exact hl (by rw [h])
    rw [hne]
    go_enter Tryd.func18, Tryd.ntmps18
    go_wp2
    go_ret
    exact ⟨rfl, Below.refl _ _⟩
end Go.Proofs.YtinmpjhmbciapaaDoor

/-
  slices.IndexFunc, ContainsFunc, Index, Contains on texts.
-/
import Derived.Test.YtinmpjhmbciapaaDoorTx
import Derived.IntWalk
namespace Go.Proofs.YtinmpjhmbciapaaDoor
open Go.RowKit

set_option maxHeartbeats 1000000 in
theorem indexFuncS_ok (M : Nat → Prop) (f : FuncId) (lb : Array Value) (p : Str → Bool) (l : List Str) (v : Value) (w : World) (h : SlR strC M w v l) (eg : ∀ args w, (callFunc f args).run Tryd.prog w = .ok (.enter f args) w)
    (hf : ∀ (g : Str) (w1 : World), Below w.heap.size w w1 → g.length ≤ maxLen → Calls Tryd.prog f (#[.string (bs g)] ++ lb) w1 fun e w2 => e = .returned (.bool (p g)) ∧ Below w1.heap.size w1 w2) :
    Calls Tryd.prog 74 #[v, .func (.func f) #[] lb] w fun e w' => ∃ i : Int, e = .returned (.int .i64 i) ∧ decide (0 ≤ i) = l.any p ∧ Below w.heap.size w w' := by
  obtain ⟨A, c, rfl, _, _⟩ := h.form
  obtain ⟨hlc, hcm⟩ := h.lenM
  have Hf := Lib.hid hf
  clear hf
  go_enter Tryd.func74, Tryd.ntmps74
  go_wp2
  go_loopw [8] (fun i wr => ∃ k : Nat, k ≤ l.length ∧ i = .int .i64 k ∧ Hid (∀ (j : Nat) (hj : j < l.length), j < k → p l[j] = false) ∧ Below w.heap.size w wr) (fun i _ => l.length - (intOf i).toNat)
  case atStart => exact ⟨0, Nat.zero_le _, rfl, Lib.hid fun j _ h => absurd h (by omega), Below.refl _ _⟩
  case round =>
    obtain ⟨k, hk, rfl, hpre, hb⟩ := hrel
    by_cases hlt : k < l.length
    · have hx1 := (h.sub (M' := M) (fun _ _ h => h)).ext hb
      obtain ⟨b, off, rfl, _, _, q0, hl1⟩ := hx1.strAt hlt
      obtain ⟨gs, hx⟩ : ∃ x, x = l[k] := ⟨_, rfl⟩
      rw [← hx] at q0 hl1
      obtain ⟨t, ht⟩ : ∃ t, p gs = t := ⟨_, rfl⟩
      have hfc := Hf.out gs wr hb hl1
      rw [ht] at hfc
      have Hfc := Lib.hid hfc; have Hx := Lib.hid hx; have Ht := Lib.hid ht
      clear hfc hx ht hx1
      go_wp2_with fail
      refine Hfc.out.mono ?_
      rintro e w1 ⟨rfl, hb1⟩
      cases t with
      | true =>
        go_wp2
        go_ret
        exact ⟨k, rfl, by rw [anyL_true l p k hlt (by rw [← Hx.out]; exact Ht.out)]; simp, hb.trans (hb1.mono hb.size)⟩
      | false =>
        go_wp2
        go_roundw
        case rel => exact ⟨k + 1, by omega, by go_num, Lib.hid fun j hj hjk => by
          by_cases e : j = k
          · subst e; rw [← Hx.out]; exact Ht.out
          · exact hpre.out j hj (by omega), hb.trans (hb1.mono hb.size)⟩
        case measure => simp [intOf]; omega
    · go_wp2
      go_ret
      exact ⟨-1, rfl, by rw [any_false l p fun i hi => hpre.out i hi (by omega)]; simp, hb⟩
theorem containsFuncS_ok (M : Nat → Prop) (f : FuncId) (lb : Array Value) (p : Str → Bool) (l : List Str) (v : Value) (w : World) (h : SlR strC M w v l) (eg : ∀ args w, (callFunc f args).run Tryd.prog w = .ok (.enter f args) w)
    (hf : ∀ (g : Str) (w1 : World), Below w.heap.size w w1 → g.length ≤ maxLen → Calls Tryd.prog f (#[.string (bs g)] ++ lb) w1 fun e w2 => e = .returned (.bool (p g)) ∧ Below w1.heap.size w1 w2) :
    Calls Tryd.prog 48 #[v, .func (.func f) #[] lb] w fun e w' => e = .returned (.bool (l.any p)) ∧ Below w.heap.size w w' := by
  have hi := indexFuncS_ok M f lb p l v w h eg hf
  obtain ⟨A, c, rfl, _, _⟩ := h.form
  have Hi := Lib.hid hi
  clear hi hf h
  go_enter Tryd.func48, Tryd.ntmps48
  go_wp2_with fail
  refine Hi.out.mono ?_
  rintro e w1 ⟨i, rfl, hd, hb⟩
  have Hd := Lib.hid hd
  clear hd
  go_wp2
  go_ret
  exact ⟨ret_bool (by simpa using Hd.out), hb⟩

set_option maxHeartbeats 400000 in
theorem indexS_ok (M : Nat → Prop) (v : Value) (l : List Str) (s : Str) (w : World) (h : SlR strC M w v l) : Calls Tryd.prog 79 #[v, .string (bs s)] w fun e w' => ∃ i : Int, e = .returned (.int .i64 i) ∧ decide (0 ≤ i) = l.any (· == s) ∧ w = w' := by
  obtain ⟨A, c, rfl, _, _⟩ := h.form
  obtain ⟨hlc, hcm⟩ := h.lenM
  go_enter Tryd.func79, Tryd.ntmps79
  go_wp2
  go_loop [8] (fun i => ∃ k : Nat, k ≤ l.length ∧ i = .int .i64 k ∧ Hid (∀ (j : Nat) (hj : j < l.length), j < k → (l[j] == s) = false)) (fun i => l.length - (intOf i).toNat)
  case atStart => exact ⟨0, Nat.zero_le _, rfl, Lib.hid fun j _ h => absurd h (by omega)⟩
  case round =>
    obtain ⟨k, hk, rfl, hpre⟩ := hrel
    by_cases hlt : k < l.length
    · obtain ⟨b, off, rfl, _, _, hcell, _⟩ := h.strAt hlt
      obtain ⟨x, hx⟩ : ∃ x, x = l[k] := ⟨_, rfl⟩
      rw [← hx] at hcell
      have Hx := Lib.hid hx
      clear hx
      cases ht : (s == x) with
      | true =>
        go_wp2
        go_ret
        exact ⟨k, rfl, by rw [anyL_true l (· == s) k hlt (by rw [← Hx.out, BEq.comm]; exact ht)]; simp, rfl⟩
      | false =>
        go_wp2
        go_round
        case rel => exact ⟨k + 1, by omega, by go_num, Lib.hid fun j hj hjk => by
          by_cases e : j = k
          · subst e; rw [← Hx.out, BEq.comm]; exact ht
          · exact hpre.out j hj (by omega)⟩
        case measure => simp [intOf]; omega
    · go_wp2
      go_ret
      exact ⟨-1, rfl, by rw [any_false l (· == s) fun i hi => hpre.out i hi (by omega)]; simp, rfl⟩
theorem containsS_ok (M : Nat → Prop) (v : Value) (l : List Str) (s : Str) (w : World) (h : SlR strC M w v l) : Calls Tryd.prog 55 #[v, .string (bs s)] w fun e w' => e = .returned (.bool (l.any (· == s))) ∧ w = w' := by
  have hi := indexS_ok M v l s w h
  obtain ⟨A, c, rfl, _, _⟩ := h.form
  have Hi := Lib.hid hi
  clear hi h
  go_enter Tryd.func55, Tryd.ntmps55
  go_wp2_with fail
  refine Hi.out.mono ?_
  rintro e w1 ⟨i, rfl, hd, rfl⟩
  have Hd := Lib.hid hd
  clear hd
  go_wp2
  go_ret
  exact ⟨ret_bool (by simpa using Hd.out), rfl⟩
end Go.Proofs.YtinmpjhmbciapaaDoor

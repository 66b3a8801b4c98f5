/-
  Package slices on groups and texts: ContainsFunc, Contains.
-/
import Derived.Test.YtopldghfphgjoaaRg1
namespace Go.Proofs.Ytopldghfphgjoaa
open Go.RowKit

theorem anyL_true {α : Type} (s : List α) (p : α → Bool) (i : Nat) (hi : i < s.length) (h : p s[i] = true) : s.any p = true := by
  rw [List.any_eq_true]
  exact ⟨_, List.getElem_mem hi, h⟩
def grv (A : Option Addr) (c : Nat) (g : Group) : Value := .agg #[.string (bs g.1), .slice A g.2.length c]

set_option maxHeartbeats 1000000 in
theorem indexFuncG_ok (M : Nat → Prop) (f : FuncId) (lb : Array Value) (p : Group → Bool) (l : List Group) (v : Value) (w : World) (h : SlR groupC M w v l) (eg : ∀ args w, (callFunc f args).run Try.prog w = .ok (.enter f args) w)
    (hf : ∀ (g : Group) (A : Option Addr) (c : Nat) (w1 : World), Below w.heap.size w w1 → g.1.length ≤ maxLen → SlR strC M w1 (.slice A g.2.length c) g.2 → Calls Try.prog f (#[grv A c g] ++ lb) w1 fun e w2 => e = .returned (.bool (p g)) ∧ Below w1.heap.size w1 w2) :
    Calls Try.prog 74 #[v, .func (.func f) #[] lb] w fun e w' => ∃ i : Int, e = .returned (.int .i64 i) ∧ decide (0 ≤ i) = l.any p ∧ Below w.heap.size w w' := by
  obtain ⟨A, c, rfl, _, _⟩ := h.form
  obtain ⟨hlc, hcm⟩ := h.lenM
  have Hf := Lib.hid hf
  clear hf
  go_enter Try.func74, Try.ntmps74
  go_wp2
  go_loopw [8] (fun i wr => ∃ k : Nat, k ≤ l.length ∧ i = .int .i64 k ∧ Hid (∀ (j : Nat) (hj : j < l.length), j < k → p l[j] = false) ∧ Below w.heap.size w wr) (fun i _ => l.length - (intOf i).toNat)
  case atStart => exact ⟨0, Nat.zero_le _, rfl, Lib.hid fun j _ h => absurd h (by omega), Below.refl _ _⟩
  case round =>
    obtain ⟨k, hk, rfl, hpre, hb⟩ := hrel
    by_cases hlt : k < l.length
    · have hx1 := (h.sub (M' := M) (fun _ _ h => h)).ext hb
      obtain ⟨b, off, A2, c2, rfl, _, q0, q1, hl1, hs⟩ := hx1.groupAt hlt
      obtain ⟨⟨gs, gm⟩, hx⟩ : ∃ x, x = l[k] := ⟨_, rfl⟩
      rw [← hx] at q0 q1 hl1 hs
      obtain ⟨t, ht⟩ : ∃ t, p (gs, gm) = t := ⟨_, rfl⟩
      have hfc := Hf.out (gs, gm) A2 c2 wr hb hl1 hs
      rw [ht] at hfc
      unfold grv at hfc
      have Hfc := Lib.hid hfc; have Hx := Lib.hid hx; have Ht := Lib.hid ht
      clear hfc hx ht hx1 hs
      go_wp2_with fail
      refine Hfc.out.mono ?_
      rintro e w1 ⟨rfl, hb1⟩
      cases t with
      | true =>
        go_wp2
        go_ret
        exact ⟨k, rfl, by rw [anyL_true l p k hlt (by rw [← Hx.out]; exact Ht.out)]; simp, hb.trans (hb1.mono hb.size)⟩
      | false =>
        go_wp2
        go_roundw
        case rel => exact ⟨k + 1, by omega, by go_num, Lib.hid fun j hj hjk => by
          by_cases e : j = k
          · subst e; rw [← Hx.out]; exact Ht.out
          · exact hpre.out j hj (by omega), hb.trans (hb1.mono hb.size)⟩
        case measure => simp [intOf]; omega
    · go_wp2
      go_ret
      exact ⟨-1, rfl, by rw [any_false l p fun i hi => hpre.out i hi (by omega)]; simp, hb⟩
theorem containsFuncG_ok (M : Nat → Prop) (f : FuncId) (lb : Array Value) (p : Group → Bool) (l : List Group) (v : Value) (w : World) (h : SlR groupC M w v l) (eg : ∀ args w, (callFunc f args).run Try.prog w = .ok (.enter f args) w)
    (hf : ∀ (g : Group) (A : Option Addr) (c : Nat) (w1 : World), Below w.heap.size w w1 → g.1.length ≤ maxLen → SlR strC M w1 (.slice A g.2.length c) g.2 → Calls Try.prog f (#[grv A c g] ++ lb) w1 fun e w2 => e = .returned (.bool (p g)) ∧ Below w1.heap.size w1 w2) :
    Calls Try.prog 56 #[v, .func (.func f) #[] lb] w fun e w' => e = .returned (.bool (l.any p)) ∧ Below w.heap.size w w' := by
  have hi := indexFuncG_ok M f lb p l v w h eg hf
  obtain ⟨A, c, rfl, _, _⟩ := h.form
  have Hi := Lib.hid hi
  clear hi hf h
  go_enter Try.func56, Try.ntmps56
  go_wp2_with fail
  refine Hi.out.mono ?_
  rintro e w1 ⟨i, rfl, hd, hb⟩
  have Hd := Lib.hid hd
  clear hd
  go_wp2
  go_ret
  exact ⟨ret_bool (by simpa using Hd.out), hb⟩

set_option maxHeartbeats 1000000 in
theorem indexFuncS_ok (M : Nat → Prop) (f : FuncId) (lb : Array Value) (p : Str → Bool) (l : List Str) (v : Value) (w : World) (h : SlR strC M w v l) (eg : ∀ args w, (callFunc f args).run Try.prog w = .ok (.enter f args) w)
    (hf : ∀ (g : Str) (w1 : World), Below w.heap.size w w1 → g.length ≤ maxLen → Calls Try.prog f (#[.string (bs g)] ++ lb) w1 fun e w2 => e = .returned (.bool (p g)) ∧ Below w1.heap.size w1 w2) :
    Calls Try.prog 75 #[v, .func (.func f) #[] lb] w fun e w' => ∃ i : Int, e = .returned (.int .i64 i) ∧ decide (0 ≤ i) = l.any p ∧ Below w.heap.size w w' := by
  obtain ⟨A, c, rfl, _, _⟩ := h.form
  obtain ⟨hlc, hcm⟩ := h.lenM
  have Hf := Lib.hid hf
  clear hf
  go_enter Try.func75, Try.ntmps75
  go_wp2
  go_loopw [8] (fun i wr => ∃ k : Nat, k ≤ l.length ∧ i = .int .i64 k ∧ Hid (∀ (j : Nat) (hj : j < l.length), j < k → p l[j] = false) ∧ Below w.heap.size w wr) (fun i _ => l.length - (intOf i).toNat)
  case atStart => exact ⟨0, Nat.zero_le _, rfl, Lib.hid fun j _ h => absurd h (by omega), Below.refl _ _⟩
  case round =>
    obtain ⟨k, hk, rfl, hpre, hb⟩ := hrel
    by_cases hlt : k < l.length
    · have hx1 := (h.sub (M' := M) (fun _ _ h => h)).ext hb
      obtain ⟨b, off, rfl, _, _, q0, hl1⟩ := hx1.strAt hlt
      obtain ⟨gs, hx⟩ : ∃ x, x = l[k] := ⟨_, rfl⟩
      rw [← hx] at q0 hl1
      obtain ⟨t, ht⟩ : ∃ t, p gs = t := ⟨_, rfl⟩
      have hfc := Hf.out gs wr hb hl1
      rw [ht] at hfc
      have Hfc := Lib.hid hfc; have Hx := Lib.hid hx; have Ht := Lib.hid ht
      clear hfc hx ht hx1
      go_wp2_with fail
      refine Hfc.out.mono ?_
      rintro e w1 ⟨rfl, hb1⟩
      cases t with
      | true =>
        go_wp2
        go_ret
        exact ⟨k, rfl, by rw [anyL_true l p k hlt (by rw [← Hx.out]; exact Ht.out)]; simp, hb.trans (hb1.mono hb.size)⟩
      | false =>
        go_wp2
        go_roundw
        case rel => exact ⟨k + 1, by omega, by go_num, Lib.hid fun j hj hjk => by
          by_cases e : j = k
          · subst e; rw [← Hx.out]; exact Ht.out
          · exact hpre.out j hj (by omega), hb.trans (hb1.mono hb.size)⟩
        case measure => simp [intOf]; omega
    · go_wp2
      go_ret
      exact ⟨-1, rfl, by rw [any_false l p fun i hi => hpre.out i hi (by omega)]; simp, hb⟩
theorem containsFuncS_ok (M : Nat → Prop) (f : FuncId) (lb : Array Value) (p : Str → Bool) (l : List Str) (v : Value) (w : World) (h : SlR strC M w v l) (eg : ∀ args w, (callFunc f args).run Try.prog w = .ok (.enter f args) w)
    (hf : ∀ (g : Str) (w1 : World), Below w.heap.size w w1 → g.length ≤ maxLen → Calls Try.prog f (#[.string (bs g)] ++ lb) w1 fun e w2 => e = .returned (.bool (p g)) ∧ Below w1.heap.size w1 w2) :
    Calls Try.prog 58 #[v, .func (.func f) #[] lb] w fun e w' => e = .returned (.bool (l.any p)) ∧ Below w.heap.size w w' := by
  have hi := indexFuncS_ok M f lb p l v w h eg hf
  obtain ⟨A, c, rfl, _, _⟩ := h.form
  have Hi := Lib.hid hi
  clear hi hf h
  go_enter Try.func58, Try.ntmps58
  go_wp2_with fail
  refine Hi.out.mono ?_
  rintro e w1 ⟨i, rfl, hd, hb⟩
  have Hd := Lib.hid hd
  clear hd
  go_wp2
  go_ret
  exact ⟨ret_bool (by simpa using Hd.out), hb⟩

set_option maxHeartbeats 400000 in
theorem indexS_ok (M : Nat → Prop) (v : Value) (l : List Str) (s : Str) (w : World) (h : SlR strC M w v l) : Calls Try.prog 80 #[v, .string (bs s)] w fun e w' => ∃ i : Int, e = .returned (.int .i64 i) ∧ decide (0 ≤ i) = l.any (· == s) ∧ w = w' := by
  obtain ⟨A, c, rfl, _, _⟩ := h.form
  obtain ⟨hlc, hcm⟩ := h.lenM
  go_enter Try.func80, Try.ntmps80
  go_wp2
  go_loop [8] (fun i => ∃ k : Nat, k ≤ l.length ∧ i = .int .i64 k ∧ Hid (∀ (j : Nat) (hj : j < l.length), j < k → (l[j] == s) = false)) (fun i => l.length - (intOf i).toNat)
  case atStart => exact ⟨0, Nat.zero_le _, rfl, Lib.hid fun j _ h => absurd h (by omega)⟩
  case round =>
    obtain ⟨k, hk, rfl, hpre⟩ := hrel
    by_cases hlt : k < l.length
    · obtain ⟨b, off, rfl, _, _, hcell, _⟩ := h.strAt hlt
      obtain ⟨x, hx⟩ : ∃ x, x = l[k] := ⟨_, rfl⟩
      rw [← hx] at hcell
      have Hx := Lib.hid hx
      clear hx
      cases ht : (s == x) with
      | true =>
        go_wp2
        go_ret
        exact ⟨k, rfl, by rw [anyL_true l (· == s) k hlt (by rw [← Hx.out, BEq.comm]; exact ht)]; simp, rfl⟩
      | false =>
        go_wp2
        go_round
        case rel => exact ⟨k + 1, by omega, by go_num, Lib.hid fun j hj hjk => by
          by_cases e : j = k
          · subst e; rw [← Hx.out, BEq.comm]; exact ht
          · exact hpre.out j hj (by omega)⟩
        case measure => simp [intOf]; omega
    · go_wp2
      go_ret
      exact ⟨-1, rfl, by rw [any_false l (· == s) fun i hi => hpre.out i hi (by omega)]; simp, rfl⟩
theorem containsS_ok (M : Nat → Prop) (v : Value) (l : List Str) (s : Str) (w : World) (h : SlR strC M w v l) : Calls Try.prog 69 #[v, .string (bs s)] w fun e w' => e = .returned (.bool (l.any (· == s))) ∧ w = w' := by
  have hi := indexS_ok M v l s w h
  obtain ⟨A, c, rfl, _, _⟩ := h.form
  have Hi := Lib.hid hi
  clear hi h
  go_enter Try.func69, Try.ntmps69
  go_wp2_with fail
  refine Hi.out.mono ?_
  rintro e w1 ⟨i, rfl, hd, rfl⟩
  have Hd := Lib.hid hd
  clear hd
  go_wp2
  go_ret
  exact ⟨ret_bool (by simpa using Hd.out), rfl⟩
end Go.Proofs.Ytopldghfphgjoaa

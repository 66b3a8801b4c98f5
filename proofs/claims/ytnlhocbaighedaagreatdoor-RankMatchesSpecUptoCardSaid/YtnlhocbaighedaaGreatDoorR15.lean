/-
  Contracts and plain facts, one after another: slices.IndexFunc and ContainsFunc on ints, postings, terms and queries; query.Validate; The reference: Ints, SamePostings, SameIndex.
-/
import Derived.Test.YtnlhocbaighedaaGreatDoorR10
import Derived.Test.YtnlhocbaighedaaGreatDoorIxB
import Derived.Test.YtnlhocbaighedaaGreatDoorQyNd
import Derived.Test.YtnlhocbaighedaaGreatDoorR6
import Derived.Deep.QuietTactic
import Derived.BigQuiet
namespace Go.Proofs.YtnlhocbaighedaaGreatDoor
open Go.RowKit
set_option linter.unusedVariables false
/-- the place of the first that p holds of -/
def idxP {α : Type} (p : α → Bool) (l : List α) : Int := match l.findIdx? p with | some k => k | none => -1
theorem idxP_hit {α : Type} {p : α → Bool} {l : List α} {k : Nat} (hk : k < l.length) (h : p l[k] = true) (hn : ∀ (j : Nat) (hj : j < l.length), j < k → p l[j] = false) : idxP p l = (k : Int) := by
 unfold idxP
 rw [List.findIdx?_eq_some_iff_getElem.2 ⟨hk, h, fun j hjk => by rw [hn j (by omega) hjk]; simp⟩]
theorem idxP_none {α : Type} {p : α → Bool} {l : List α} (hn : ∀ (j : Nat) (hj : j < l.length), p l[j] = false) : idxP p l = -1 := by
 unfold idxP
 rw [List.findIdx?_eq_none_iff.2 fun x hx => by obtain ⟨j, hj, rfl⟩ := List.getElem_of_mem hx; exact hn j hj]
theorem idxP_any {α : Type} (p : α → Bool) (l : List α) : decide (0 ≤ idxP p l) = l.any p := by
 unfold idxP
 cases h : l.findIdx? p with
 | none =>
  rw [List.findIdx?_eq_none_iff] at h
  have : l.any p = false := by rw [List.any_eq_false]; exact fun x hx => by rw [h x hx]; simp
  rw [this]; simp
 | some k =>
  obtain ⟨hk, hp, _⟩ := List.findIdx?_eq_some_iff_getElem.1 h
  have : l.any p = true := List.any_eq_true.2 ⟨l[k], List.getElem_mem hk, hp⟩
  rw [this]; simp
theorem idxP_ge {α : Type} (p : α → Bool) (l : List α) : -1 ≤ idxP p l := by
 unfold idxP
 split <;> omega
set_option maxRecDepth 100000 in
set_option maxHeartbeats 2000000 in
theorem intIdx_ok (g0 : FuncId) (lb : Array Value) (p : Int → Bool) (l : List Int) (v : Value) (w : World) (h : SlR intC M0 w v l) (eg : ∀ args w, (callFunc g0 args).run Tryz.prog w = .ok (.enter g0 args) w)
  (hf : ∀ (x : Int) (w1 : World), x ∈ l → Below w.heap.size w w1 → -9223372036854775808 ≤ x → x ≤ 9223372036854775807 → Calls Tryz.prog g0 (#[.int .i64 x] ++ lb) w1 fun e w2 => e = .returned (.bool (p x)) ∧ Below w1.heap.size w1 w2) :
  Calls Tryz.prog 150 #[v, .func (.func g0) #[] lb] w fun e w' => e = .returned (.int .i64 (idxP p l)) ∧ Below w.heap.size w w' := by
 obtain ⟨A, c, rfl, _, _⟩ := h.form
 obtain ⟨hlc, hcm⟩ := h.lenM
 have Hf := Lib.hid hf
 clear hf
 go_enter Tryz.func150, Tryz.ntmps150
 go_wp2
 go_loopw [8] (fun i wr => ∃ k : Nat, k ≤ l.length ∧ i = .int .i64 k ∧ Hid (∀ (j : Nat) (hj : j < l.length), j < k → p l[j] = false) ∧ Below w.heap.size w wr) (fun i _ => l.length - (intOf i).toNat)
 case atStart => exact ⟨0, Nat.zero_le _, rfl, Lib.hid fun j _ h => absurd h (by omega), Below.refl _ _⟩
 case round =>
  obtain ⟨k, hk, rfl, hpre, hb⟩ := hrel
  by_cases hlt : k < l.length
  ·have hx1 := h.ext hb
   obtain ⟨b, off, rfl, _, _, q0, hl1, hl2⟩ := hx1.intAt hlt
   obtain ⟨x, hx⟩ : ∃ x, x = l[k] := ⟨_, rfl⟩
   rw [← hx] at q0 hl1 hl2
   obtain ⟨t, ht⟩ : ∃ t, p x = t := ⟨_, rfl⟩
   have hfc := Hf.out x wr (by rw [hx]; exact List.getElem_mem hlt) hb hl1 hl2
   rw [ht] at hfc
   have Hfc := Lib.hid hfc; have Hx := Lib.hid hx; have Ht := Lib.hid ht; have Hk0 : Hid ((0 : Int) ≤ (k : Int)) := Lib.hid (by omega)
   clear hfc hx ht hx1
   go_wp2_with fail
   refine Hfc.out.mono ?_
   rintro e w1 ⟨rfl, hb1⟩
   cases t with
   | true =>
    go_wp2_with fail
    go_ret
    exact ⟨by rw [idxP_hit hlt (by rw [← Hx.out]; exact Ht.out) hpre.out]; rfl, hb.trans (hb1.mono hb.size)⟩
   | false =>
    go_wp2_with fail
    go_roundw
    case rel => exact ⟨k + 1, by omega, by go_num, Lib.hid fun j hj hjk => by
     by_cases e : j = k
     ·subst e; rw [← Hx.out]; exact Ht.out
     ·exact hpre.out j hj (by omega), hb.trans (hb1.mono hb.size)⟩
    case measure => simp [intOf]; omega
  ·go_wp2
   go_ret
   exact ⟨by rw [idxP_none fun i hi => hpre.out i hi (by omega)]; rfl, hb⟩
theorem intCont_ok (g0 : FuncId) (lb : Array Value) (p : Int → Bool) (l : List Int) (v : Value) (w : World) (h : SlR intC M0 w v l) (eg : ∀ args w, (callFunc g0 args).run Tryz.prog w = .ok (.enter g0 args) w)
  (hf : ∀ (x : Int) (w1 : World), x ∈ l → Below w.heap.size w w1 → -9223372036854775808 ≤ x → x ≤ 9223372036854775807 → Calls Tryz.prog g0 (#[.int .i64 x] ++ lb) w1 fun e w2 => e = .returned (.bool (p x)) ∧ Below w1.heap.size w1 w2) :
  Calls Tryz.prog 111 #[v, .func (.func g0) #[] lb] w fun e w' => e = .returned (.bool (l.any p)) ∧ Below w.heap.size w w' := by
 have hi := intIdx_ok g0 lb p l v w h eg hf
 rw [← idxP_any p l]
 have hge := idxP_ge p l
 obtain ⟨i, hie⟩ : ∃ i, idxP p l = i := ⟨_, rfl⟩
 rw [hie] at hi hge ⊢
 obtain ⟨A, c, rfl, _, _⟩ := h.form
 have Hi := Lib.hid hi
 clear hi hf hie
 go_enter Tryz.func111, Tryz.ntmps111
 go_wp2_with fail
 refine Hi.out.mono ?_
 rintro e w1 ⟨rfl, hb1⟩
 go_wp2_with fail
 go_ret
 exact ⟨rfl, hb1⟩
set_option maxRecDepth 100000 in
set_option maxHeartbeats 2000000 in
theorem postIdx_ok (g0 : FuncId) (lb : Array Value) (p : Ix.Post → Bool) (l : List Ix.Post) (v : Value) (w : World) (h : SlR postC M0 w v l) (eg : ∀ args w, (callFunc g0 args).run Tryz.prog w = .ok (.enter g0 args) w)
  (hf : ∀ (x : Ix.Post) (A2 : Option Addr) (c2 : Nat) (w1 : World), x ∈ l → Below w.heap.size w w1 → -9223372036854775808 ≤ x.1 → x.1 ≤ 9223372036854775807 → SlR intC M0 w1 (.slice A2 x.2.length c2) x.2 → Calls Tryz.prog g0 (#[.agg #[.int .i64 x.1, .slice A2 x.2.length c2]] ++ lb) w1 fun e w2 => e = .returned (.bool (p x)) ∧ Below w1.heap.size w1 w2) :
  Calls Tryz.prog 149 #[v, .func (.func g0) #[] lb] w fun e w' => e = .returned (.int .i64 (idxP p l)) ∧ Below w.heap.size w w' := by
 obtain ⟨A, c, rfl, _, _⟩ := h.form
 obtain ⟨hlc, hcm⟩ := h.lenM
 have Hf := Lib.hid hf
 clear hf
 go_enter Tryz.func149, Tryz.ntmps149
 go_wp2
 go_loopw [8] (fun i wr => ∃ k : Nat, k ≤ l.length ∧ i = .int .i64 k ∧ Hid (∀ (j : Nat) (hj : j < l.length), j < k → p l[j] = false) ∧ Below w.heap.size w wr) (fun i _ => l.length - (intOf i).toNat)
 case atStart => exact ⟨0, Nat.zero_le _, rfl, Lib.hid fun j _ h => absurd h (by omega), Below.refl _ _⟩
 case round =>
  obtain ⟨k, hk, rfl, hpre, hb⟩ := hrel
  by_cases hlt : k < l.length
  ·have hx1 := h.ext hb
   obtain ⟨b, off, A2, c2, rfl, _, _, q0, q1, hl1, hl2, hsl⟩ := hx1.postAt hlt
   obtain ⟨x, hx⟩ : ∃ x, x = l[k] := ⟨_, rfl⟩
   rw [← hx] at q0 q1 hl1 hl2 hsl
   obtain ⟨t, ht⟩ : ∃ t, p x = t := ⟨_, rfl⟩
   have hfc := Hf.out x A2 c2 wr (by rw [hx]; exact List.getElem_mem hlt) hb hl1 hl2 hsl
   rw [ht] at hfc
   have Hfc := Lib.hid hfc; have Hx := Lib.hid hx; have Ht := Lib.hid ht; have Hk0 : Hid ((0 : Int) ≤ (k : Int)) := Lib.hid (by omega)
   clear hfc hx ht hx1
   go_wp2_with fail
   refine Hfc.out.mono ?_
   rintro e w1 ⟨rfl, hb1⟩
   cases t with
   | true =>
    go_wp2_with fail
    go_ret
    exact ⟨by rw [idxP_hit hlt (by rw [← Hx.out]; exact Ht.out) hpre.out]; rfl, hb.trans (hb1.mono hb.size)⟩
   | false =>
    go_wp2_with fail
    go_roundw
    case rel => exact ⟨k + 1, by omega, by go_num, Lib.hid fun j hj hjk => by
     by_cases e : j = k
     ·subst e; rw [← Hx.out]; exact Ht.out
     ·exact hpre.out j hj (by omega), hb.trans (hb1.mono hb.size)⟩
    case measure => simp [intOf]; omega
  ·go_wp2
   go_ret
   exact ⟨by rw [idxP_none fun i hi => hpre.out i hi (by omega)]; rfl, hb⟩
theorem postCont_ok (g0 : FuncId) (lb : Array Value) (p : Ix.Post → Bool) (l : List Ix.Post) (v : Value) (w : World) (h : SlR postC M0 w v l) (eg : ∀ args w, (callFunc g0 args).run Tryz.prog w = .ok (.enter g0 args) w)
  (hf : ∀ (x : Ix.Post) (A2 : Option Addr) (c2 : Nat) (w1 : World), x ∈ l → Below w.heap.size w w1 → -9223372036854775808 ≤ x.1 → x.1 ≤ 9223372036854775807 → SlR intC M0 w1 (.slice A2 x.2.length c2) x.2 → Calls Tryz.prog g0 (#[.agg #[.int .i64 x.1, .slice A2 x.2.length c2]] ++ lb) w1 fun e w2 => e = .returned (.bool (p x)) ∧ Below w1.heap.size w1 w2) :
  Calls Tryz.prog 109 #[v, .func (.func g0) #[] lb] w fun e w' => e = .returned (.bool (l.any p)) ∧ Below w.heap.size w w' := by
 have hi := postIdx_ok g0 lb p l v w h eg hf
 rw [← idxP_any p l]
 have hge := idxP_ge p l
 obtain ⟨i, hie⟩ : ∃ i, idxP p l = i := ⟨_, rfl⟩
 rw [hie] at hi hge ⊢
 obtain ⟨A, c, rfl, _, _⟩ := h.form
 have Hi := Lib.hid hi
 clear hi hf hie
 go_enter Tryz.func109, Tryz.ntmps109
 go_wp2_with fail
 refine Hi.out.mono ?_
 rintro e w1 ⟨rfl, hb1⟩
 go_wp2_with fail
 go_ret
 exact ⟨rfl, hb1⟩
set_option maxRecDepth 100000 in
set_option maxHeartbeats 2000000 in
theorem termIdx_ok (g0 : FuncId) (lb : Array Value) (p : Ix.Term → Bool) (l : List Ix.Term) (v : Value) (w : World) (h : SlR termC M0 w v l) (eg : ∀ args w, (callFunc g0 args).run Tryz.prog w = .ok (.enter g0 args) w)
  (hf : ∀ (x : Ix.Term) (A2 : Option Addr) (c2 : Nat) (w1 : World), x ∈ l → Below w.heap.size w w1 → x.1.length ≤ maxLen → SlR postC M0 w1 (.slice A2 x.2.length c2) x.2 → Calls Tryz.prog g0 (#[.agg #[.string (bs x.1), .slice A2 x.2.length c2]] ++ lb) w1 fun e w2 => e = .returned (.bool (p x)) ∧ Below w1.heap.size w1 w2) :
  Calls Tryz.prog 147 #[v, .func (.func g0) #[] lb] w fun e w' => e = .returned (.int .i64 (idxP p l)) ∧ Below w.heap.size w w' := by
 obtain ⟨A, c, rfl, _, _⟩ := h.form
 obtain ⟨hlc, hcm⟩ := h.lenM
 have Hf := Lib.hid hf
 clear hf
 go_enter Tryz.func147, Tryz.ntmps147
 go_wp2
 go_loopw [8] (fun i wr => ∃ k : Nat, k ≤ l.length ∧ i = .int .i64 k ∧ Hid (∀ (j : Nat) (hj : j < l.length), j < k → p l[j] = false) ∧ Below w.heap.size w wr) (fun i _ => l.length - (intOf i).toNat)
 case atStart => exact ⟨0, Nat.zero_le _, rfl, Lib.hid fun j _ h => absurd h (by omega), Below.refl _ _⟩
 case round =>
  obtain ⟨k, hk, rfl, hpre, hb⟩ := hrel
  by_cases hlt : k < l.length
  ·have hx1 := h.ext hb
   obtain ⟨b, off, A2, c2, rfl, _, _, q0, q1, hl1, hsl⟩ := hx1.termAt hlt
   obtain ⟨x, hx⟩ : ∃ x, x = l[k] := ⟨_, rfl⟩
   rw [← hx] at q0 q1 hl1 hsl
   obtain ⟨t, ht⟩ : ∃ t, p x = t := ⟨_, rfl⟩
   have hfc := Hf.out x A2 c2 wr (by rw [hx]; exact List.getElem_mem hlt) hb hl1 hsl
   rw [ht] at hfc
   have Hfc := Lib.hid hfc; have Hx := Lib.hid hx; have Ht := Lib.hid ht; have Hk0 : Hid ((0 : Int) ≤ (k : Int)) := Lib.hid (by omega)
   clear hfc hx ht hx1
   go_wp2_with fail
   refine Hfc.out.mono ?_
   rintro e w1 ⟨rfl, hb1⟩
   cases t with
   | true =>
    go_wp2_with fail
    go_ret
    exact ⟨by rw [idxP_hit hlt (by rw [← Hx.out]; exact Ht.out) hpre.out]; rfl, hb.trans (hb1.mono hb.size)⟩
   | false =>
    go_wp2_with fail
    go_roundw
    case rel => exact ⟨k + 1, by omega, by go_num, Lib.hid fun j hj hjk => by
     by_cases e : j = k
     ·subst e; rw [← Hx.out]; exact Ht.out
     ·exact hpre.out j hj (by omega), hb.trans (hb1.mono hb.size)⟩
    case measure => simp [intOf]; omega
  ·go_wp2
   go_ret
   exact ⟨by rw [idxP_none fun i hi => hpre.out i hi (by omega)]; rfl, hb⟩
theorem termCont_ok (g0 : FuncId) (lb : Array Value) (p : Ix.Term → Bool) (l : List Ix.Term) (v : Value) (w : World) (h : SlR termC M0 w v l) (eg : ∀ args w, (callFunc g0 args).run Tryz.prog w = .ok (.enter g0 args) w)
  (hf : ∀ (x : Ix.Term) (A2 : Option Addr) (c2 : Nat) (w1 : World), x ∈ l → Below w.heap.size w w1 → x.1.length ≤ maxLen → SlR postC M0 w1 (.slice A2 x.2.length c2) x.2 → Calls Tryz.prog g0 (#[.agg #[.string (bs x.1), .slice A2 x.2.length c2]] ++ lb) w1 fun e w2 => e = .returned (.bool (p x)) ∧ Below w1.heap.size w1 w2) :
  Calls Tryz.prog 106 #[v, .func (.func g0) #[] lb] w fun e w' => e = .returned (.bool (l.any p)) ∧ Below w.heap.size w w' := by
 have hi := termIdx_ok g0 lb p l v w h eg hf
 rw [← idxP_any p l]
 have hge := idxP_ge p l
 obtain ⟨i, hie⟩ : ∃ i, idxP p l = i := ⟨_, rfl⟩
 rw [hie] at hi hge ⊢
 obtain ⟨A, c, rfl, _, _⟩ := h.form
 have Hi := Lib.hid hi
 clear hi hf hie
 go_enter Tryz.func106, Tryz.ntmps106
 go_wp2_with fail
 refine Hi.out.mono ?_
 rintro e w1 ⟨rfl, hb1⟩
 go_wp2_with fail
 go_ret
 exact ⟨rfl, hb1⟩
set_option maxRecDepth 100000 in
set_option maxHeartbeats 2000000 in
theorem queryIdx_ok (g0 : FuncId) (lb : Array Value) (f : Nat) (p : Q → Bool) (l : List Q) (v : Value) (w : World) (h : SlR (qF f) M0 w v l) (eg : ∀ args w, (callFunc g0 args).run Tryz.prog w = .ok (.enter g0 args) w)
  (hf : ∀ (x : Q) (g : Nat) (A2 : Option Addr) (c2 : Nat) (w1 : World), x ∈ l → Below w.heap.size w w1 → f = g + 1 → QAt g M0 w1 (.agg #[.int .i64 x.kind, .string (bs x.text), .int .i64 x.num, .slice A2 x.parts.length c2]) x → Calls Tryz.prog g0 (#[.agg #[.int .i64 x.kind, .string (bs x.text), .int .i64 x.num, .slice A2 x.parts.length c2]] ++ lb) w1 fun e w2 => e = .returned (.bool (p x)) ∧ Below w1.heap.size w1 w2) :
  Calls Tryz.prog 115 #[v, .func (.func g0) #[] lb] w fun e w' => e = .returned (.int .i64 (idxP p l)) ∧ Below w.heap.size w w' := by
 obtain ⟨A, c, rfl, _, _⟩ := h.form
 obtain ⟨hlc, hcm⟩ := h.lenM
 have Hf := Lib.hid hf
 clear hf
 go_enter Tryz.func115, Tryz.ntmps115
 go_wp2
 go_loopw [8] (fun i wr => ∃ k : Nat, k ≤ l.length ∧ i = .int .i64 k ∧ Hid (∀ (j : Nat) (hj : j < l.length), j < k → p l[j] = false) ∧ Below w.heap.size w wr) (fun i _ => l.length - (intOf i).toNat)
 case atStart => exact ⟨0, Nat.zero_le _, rfl, Lib.hid fun j _ h => absurd h (by omega), Below.refl _ _⟩
 case round =>
  obtain ⟨k, hk, rfl, hpre, hb⟩ := hrel
  by_cases hlt : k < l.length
  ·have hx1 := h.ext hb
   obtain ⟨b, off, g, A2, c2, rfl, hfg, _, _, q0, q1, q2, q3, hqa⟩ := hx1.qAt hlt
   obtain ⟨x, hx⟩ : ∃ x, x = l[k] := ⟨_, rfl⟩
   rw [← hx] at q0 q1 q2 q3 hqa
   obtain ⟨t, ht⟩ : ∃ t, p x = t := ⟨_, rfl⟩
   have hfc := Hf.out x g A2 c2 wr (by rw [hx]; exact List.getElem_mem hlt) hb hfg hqa
   rw [ht] at hfc
   have Hfc := Lib.hid hfc; have Hx := Lib.hid hx; have Ht := Lib.hid ht; have Hk0 : Hid ((0 : Int) ≤ (k : Int)) := Lib.hid (by omega)
   clear hfc hx ht hx1
   go_wp2_with fail
   refine Hfc.out.mono ?_
   rintro e w1 ⟨rfl, hb1⟩
   cases t with
   | true =>
    go_wp2_with fail
    go_ret
    exact ⟨by rw [idxP_hit hlt (by rw [← Hx.out]; exact Ht.out) hpre.out]; rfl, hb.trans (hb1.mono hb.size)⟩
   | false =>
    go_wp2_with fail
    go_roundw
    case rel => exact ⟨k + 1, by omega, by go_num, Lib.hid fun j hj hjk => by
     by_cases e : j = k
     ·subst e; rw [← Hx.out]; exact Ht.out
     ·exact hpre.out j hj (by omega), hb.trans (hb1.mono hb.size)⟩
    case measure => simp [intOf]; omega
  ·go_wp2
   go_ret
   exact ⟨by rw [idxP_none fun i hi => hpre.out i hi (by omega)]; rfl, hb⟩
theorem queryCont_ok (g0 : FuncId) (lb : Array Value) (f : Nat) (p : Q → Bool) (l : List Q) (v : Value) (w : World) (h : SlR (qF f) M0 w v l) (eg : ∀ args w, (callFunc g0 args).run Tryz.prog w = .ok (.enter g0 args) w)
  (hf : ∀ (x : Q) (g : Nat) (A2 : Option Addr) (c2 : Nat) (w1 : World), x ∈ l → Below w.heap.size w w1 → f = g + 1 → QAt g M0 w1 (.agg #[.int .i64 x.kind, .string (bs x.text), .int .i64 x.num, .slice A2 x.parts.length c2]) x → Calls Tryz.prog g0 (#[.agg #[.int .i64 x.kind, .string (bs x.text), .int .i64 x.num, .slice A2 x.parts.length c2]] ++ lb) w1 fun e w2 => e = .returned (.bool (p x)) ∧ Below w1.heap.size w1 w2) :
  Calls Tryz.prog 84 #[v, .func (.func g0) #[] lb] w fun e w' => e = .returned (.bool (l.any p)) ∧ Below w.heap.size w w' := by
 have hi := queryIdx_ok g0 lb f p l v w h eg hf
 rw [← idxP_any p l]
 have hge := idxP_ge p l
 obtain ⟨i, hie⟩ : ∃ i, idxP p l = i := ⟨_, rfl⟩
 rw [hie] at hi hge ⊢
 obtain ⟨A, c, rfl, _, _⟩ := h.form
 have Hi := Lib.hid hi
 clear hi hf hie
 go_enter Tryz.func84, Tryz.ntmps84
 go_wp2_with fail
 refine Hi.out.mono ?_
 rintro e w1 ⟨rfl, hb1⟩
 go_wp2_with fail
 go_ret
 exact ⟨rfl, hb1⟩
end Go.Proofs.YtnlhocbaighedaaGreatDoor
namespace Go.Proofs.YtnlhocbaighedaaGreatDoor
open Go.RowKit
set_option linter.unusedVariables false
/-- all blocks but one are as they were -/
structure But (g : Nat) (w w' : World) : Prop where
 os : w'.os = w.os
 tape : w'.tape = w.tape
 output : w'.output = w.output
 size : w.heap.size ≤ w'.heap.size
 block : ∀ k, k < w.heap.size → k ≠ g → w'.heap[k]? = w.heap[k]?
theorem But.refl (g : Nat) (w : World) : But g w w := ⟨rfl, rfl, rfl, Nat.le_refl _, fun _ _ _ => rfl⟩
theorem But.trans {g : Nat} {a b c : World} (h : But g a b) (k : But g b c) : But g a c :=
 ⟨k.os.trans h.os, k.tape.trans h.tape, k.output.trans h.output, Nat.le_trans h.size k.size, fun i hi hg => (k.block i (Nat.lt_of_lt_of_le hi h.size) hg).trans (h.block i hi hg)⟩
theorem But.of_below (g : Nat) {w w' : World} (h : Below w.heap.size w w') : But g w w' := ⟨h.os, h.tape, h.output, h.size, fun k hk _ => h.block k hk⟩
theorem But.set {g : Nat} {a w : World} (h : But g a w) (i : Nat) (u : Value) : But g a (w.setCell ⟨g, i, none⟩ u) :=
 h.trans ⟨rfl, rfl, rfl, by simp [World.setCell], fun k _ hk => Below.heap_setCell _ _ _ _ hk⟩
theorem But.put {g : Nat} {a w : World} (h : But g a w) {p : Addr} (hp : a.heap.size ≤ p.block) (u : Value) : But g a (w.setCell p u) :=
 ⟨h.os, h.tape, h.output, by simpa [World.setCell] using h.size, fun k hk hg => (Below.heap_setCell _ _ _ _ (by omega)).trans (h.block k hk hg)⟩
theorem But.blk {g b : Nat} {w w' : World} {t : TypeId} {cs : Array Value} (h : But g w w') (k : Blk w b t cs) (hb : b ≠ g) : Blk w' b t cs := (h.block b k.lt hb).trans k
theorem But.below {g : Nat} {w0 w w' : World} (h : But g w w') (h0 : Below w0.heap.size w0 w) (hg : w0.heap.size ≤ g) : Below w0.heap.size w0 w' :=
 ⟨h.os.trans h0.os, h.tape.trans h0.tape, h.output.trans h0.output, Nat.le_trans h0.size h.size, fun k hk => (h.block k (Nat.lt_of_lt_of_le hk h0.size) (by omega)).trans (h0.block k hk)⟩
theorem But.under {g B : Nat} {w w' : World} (h : But g w w') (hg : B ≤ g) (hB : B ≤ w.heap.size) : Below B w w' := ⟨h.os, h.tape, h.output, h.size, fun k hk => h.block k (by omega) (by omega)⟩
theorem qF_fits : ∀ {f : Nat} {M : Nat → Prop} {w : World} {cs : List Value} {q : Q}, (qF f).rd M w cs q → Q.Fits f q
 | 0, _, _, _, _, h => h.elim
 | f + 1, M, w, _, q, ⟨v, e, h1, h2, h3, hv⟩ => fun p hp => by
  obtain ⟨k, hk, rfl⟩ := List.mem_iff_getElem.1 hp
  obtain ⟨A, c, rfl, _⟩ := hv.form
  obtain ⟨b, off, cs, _, _, _, hr, _⟩ := hv.at_ hk
  exact qF_fits hr
theorem QAt.fits {f : Nat} {M : Nat → Prop} {w : World} {v : Value} {q : Q} (h : QAt f M w v q) : Q.Fits (f + 1) q := qF_fits h.rd
theorem boxPair (w : World) (cs : Array Value) (t : TypeId) (ds : Array Value) (t' : TypeId) : ∃ W g, (w.alloc (.cells cs t)).alloc (.cells ds t') = W ∧ w.heap.size = g ∧ W.heap.size = g + 1 + 1 ∧ Blk W g t cs ∧ Blk W (g + 1) t' ds ∧ Below w.heap.size w W := by
 refine ⟨_, _, rfl, rfl, by simp, (Blk.new w t cs).alloc _, ?_, ((Below.refl _ _).alloc (Nat.le_refl _) _).alloc (by simp) _⟩
 have := Blk.new (w.alloc (.cells cs t)) t' ds
 rw [World.size_alloc] at this
 exact this
theorem errGo_step (P : Q → List Q) (ps : List Q) {m : Nat} (h : m < ps.length) (n : Int) (h0 : (Q.errGo ((ps.take m).flatMap P) n).1 = 0) :
  ((Q.errGo (P ps[m]) (n + (((ps.take m).flatMap P).length : Nat))).1 = 0 → (Q.errGo ((ps.take (m + 1)).flatMap P) n).1 = 0) ∧
  ((Q.errGo (P ps[m]) (n + (((ps.take m).flatMap P).length : Nat))).1 ≠ 0 → Q.errGo (ps.flatMap P) n = Q.errGo (P ps[m]) (n + (((ps.take m).flatMap P).length : Nat))) := by
 constructor
 ·intro h1
  rw [List.take_succ_eq_append_getElem h, List.flatMap_append, Q.errGo_append, if_pos h0, List.flatMap_cons, List.flatMap_nil, List.append_nil]
  exact h1
 ·intro h1
  have e : ps = ps.take m ++ ps[m] :: ps.drop (m + 1) := by rw [← List.drop_eq_getElem_cons h, List.take_append_drop]
  have e2 : ps.flatMap P = (ps.take m).flatMap P ++ (P ps[m] ++ (ps.drop (m + 1)).flatMap P) := by
   conv => lhs; rw [e]
   rw [List.flatMap_append, List.flatMap_cons]
  rw [e2, Q.errGo_append, if_pos h0, Q.errGo_append, if_neg h1]
/-- the boxes of the check: the node's number, the function -/
structure Chk (w : World) (gN gC : Nat) (N : Int) : Prop where
 n : Blk w gN 3 #[.int .i64 N]
 c : Blk w gC 45 #[.func (.func 56) #[] #[.pointer (some ⟨gN, 0, none⟩), .pointer (some ⟨gC, 0, none⟩)]]
theorem Chk.ext {w w' : World} {gN gC : Nat} {N : Int} (h : Chk w gN gC N) (hb : Below w.heap.size w w') : Chk w' gN gC N := ⟨h.n.ext hb, h.c.ext hb⟩
theorem Chk.put {w : World} {gN gC : Nat} {N : Int} (h : Chk w gN gC N) (hne : gN ≠ gC) (N' : Int) : Chk (w.setCell ⟨gN, 0, none⟩ (.int .i64 N')) gN gC N' := by
 refine ⟨?_, h.c.far (p := ⟨gN, 0, none⟩) hne.symm _⟩
 have := h.n.set_ 0 (.int .i64 N')
 simpa using this
theorem Chk.far {w : World} {gN gC : Nat} {N : Int} (h : Chk w gN gC N) {p : Addr} (h1 : gN ≠ p.block) (h2 : gC ≠ p.block) (u : Value) : Chk (w.setCell p u) gN gC N := ⟨h.n.far h1 u, h.c.far h2 u⟩
set_option maxRecDepth 100000 in
set_option maxHeartbeats 8000000 in
theorem check_ok (w0 : World) (hT : TabsU w0) (gN gC : Nat) (hN0 : w0.heap.size ≤ gN) (hC0 : w0.heap.size ≤ gC) (hne : gN ≠ gC) : ∀ (f : Nat) (q : Q) (v : Value) (w : World) (N : Int), QAt f M0 w0 v q → q.bulk ≤ 4000000 → Below w0.heap.size w0 w → Chk w gN gC N → 0 ≤ N → N + q.bulk ≤ 4611686018427387904 →
  Calls Tryz.prog 56 #[v, .pointer (some ⟨gN, 0, none⟩), .pointer (some ⟨gC, 0, none⟩)] w fun e w' => ∃ N', e = .returned (.agg #[.int .i64 (Q.errGo (Q.pre (f + 1) q) N).1, .int .i64 (Q.errGo (Q.pre (f + 1) q) N).2]) ∧ But gN w w' ∧ Chk w' gN gC N' ∧ ((Q.errGo (Q.pre (f + 1) q) N).1 = 0 → N' = N + ((Q.pre (f + 1) q).length : Nat)) := by
 intro f
 induction f using Nat.strongRecOn with | _ f ih => ?_
 intro q v w N hq hbk hB hx hN hNb
 have hqv := hq
 obtain ⟨A, c, rfl, _, _, _, hv⟩ := hq
 obtain ⟨k, t, n, ps⟩ := q
 simp only [Q.kind_node, Q.text_node, Q.num_node, Q.parts_node] at hv hqv ⊢
 have hps := hv.len_le
 unfold maxLen at hps
 have hbe := Q.bulk_eq (.node k t n ps)
 simp only [Q.text_node, Q.parts_node] at hbe
 obtain ⟨W1, gB, hW, hgB, hs1, kB, kR, hb1⟩ := boxPair w #[.int .i64 k, .string (bs t), .int .i64 n, .slice A ps.length c] 28 #[.int .i64 0, .int .i64 0] 30
 have HW : Hid (_ = W1) := Lib.hid hW
 have hx1 := hx.ext hb1
 have hlN := hx.n.lt
 have hlC := hx.c.lt
 have hB1 := hB.trans (hb1.mono hB.size)
 have hnode := node_ok f (.node k t n ps) _ W1 (hqv.ext hB1) (fun W hb => words_ok _ W (by show t.length ≤ 4000000; omega) (hT.ext (hB1.trans (hb.mono hB1.size))))
 obtain ⟨p0, p1, p2, p3, _⟩ := kB.four
 have Hnode := Lib.hid hnode; have Hs1 := Lib.hid hs1
 have hpre : Q.pre (f + 1) (.node k t n ps) = .node k t n ps :: ps.flatMap (Q.pre f) := by rw [Q.pre]; rfl
 rw [hpre]
 obtain ⟨er, her⟩ : ∃ r, Q.errOf (.node k t n ps) = r := ⟨_, rfl⟩
 have Her := Lib.hid her
 obtain ⟨⟨ra, rb⟩, hr⟩ : ∃ r, Q.errGo (.node k t n ps :: ps.flatMap (Q.pre f)) N = r := ⟨_, rfl⟩
 have Hr := Lib.hid hr
 rw [hr]
 dsimp only
 clear hr
 rw [her] at Hnode
 clear hnode hW hs1 hpre her
 go_enter Tryz.func56, Tryz.ntmps56
 go_wp2_with fail
 rw [HW.out]
 refine Hnode.out.mono ?_
 rintro e w2 ⟨rfl, hb2⟩
 have hb12 := hb1.trans (hb2.mono hb1.size)
 have hx2 := hx1.ext hb2
 have kR2 := kR.ext hb2
 have kB2 := kB.ext hb2
 have hBut := But.of_below gN hb12
 have hgNB : gN < gB := by omega
 have hgCB : gC < gB := by omega
 obtain ⟨x0, x1, _⟩ := hx2.n.one
 have Hlt : Hid (gN < gB ∧ gC < gB) := Lib.hid ⟨hgNB, hgCB⟩
 clear hx1 kR kB hb1 hb2 hlN hlC p0 p1 p2 p3 hgNB hgCB hx Hs1
 by_cases he : er = 0
 ·subst he
  have hW3 := hx2.put hne (N + 1)
  have hB3 := hBut.set (w := w2) 0 (.int .i64 (N + 1))
  have kR3 := kR2.far (p := ⟨gN, 0, none⟩) (by have := Hlt.out; show gB + 1 ≠ gN; omega) (.int .i64 (N + 1))
  have kB3 := kB2.far (p := ⟨gN, 0, none⟩) (by have := Hlt.out; show gB ≠ gN; omega) (.int .i64 (N + 1))
  obtain ⟨_, _, _, p3, _⟩ := kB3.four
  obtain ⟨W3, hW3e⟩ : ∃ W3, w2.setCell ⟨gN, 0, none⟩ (.int .i64 (N + 1)) = W3 := ⟨_, rfl⟩
  have HW3 := Lib.hid hW3e
  rw [hW3e] at hW3 hB3 kR3
  clear hW3e hx2 kR2 kB2 hBut kB3
  go_wp2_with fail
  rw [HW3.out]
  clear x0 x1 p3
  go_loopw [21] (fun i wr => ∃ (m : Nat) (Nm : Int), m ≤ ps.length ∧ i = .int .i64 m ∧ Hid (Nm = N + 1 + (((ps.take m).flatMap (Q.pre f)).length : Nat) ∧ (Q.errGo ((ps.take m).flatMap (Q.pre f)) (N + 1)).1 = 0) ∧ But gN w wr ∧ Chk wr gN gC Nm ∧ Blk wr (gB + 1) 30 #[.int .i64 0, .int .i64 0]) (fun i _ => ps.length - (intOf i).toNat)
  case atStart => exact ⟨0, N + 1, Nat.zero_le _, rfl, Lib.hid ⟨by simp, rfl⟩, hB3, hW3, kR3⟩
  case round =>
   obtain ⟨m, Nm, hm, rfl, hNm, hb, hx, kR⟩ := hrel
   by_cases hlt : m < ps.length
   ·have hB0r := hb.below hB hN0
    obtain ⟨b, off, g, A2, c2, rfl, rfl, _, hbs, q0, q1, q2, q3, hqa⟩ := hv.qAt hlt
    replace q0 := (hB0r.cell (p := ⟨b, off + m * 4, none⟩) hbs).trans q0
    replace q1 := (hB0r.cell (p := ⟨b, off + m * 4 + 1, none⟩) hbs).trans q1
    replace q2 := (hB0r.cell (p := ⟨b, off + m * 4 + 2, none⟩) hbs).trans q2
    replace q3 := (hB0r.cell (p := ⟨b, off + m * 4 + 3, none⟩) hbs).trans q3
    have hst := errGo_step (Q.pre (g + 1)) ps hlt (N + 1) hNm.out.2
    rw [← hNm.out.1] at hst
    have hbm := Q.take_bulk hlt
    have hfl := Q.flat_bulk (g + 1) (ps.take m)
    have htk : ((ps.take (m + 1)).flatMap (Q.pre (g + 1))).length = ((ps.take m).flatMap (Q.pre (g + 1))).length + (Q.pre (g + 1) ps[m]).length := by
     rw [List.take_succ_eq_append_getElem hlt, List.flatMap_append, List.length_append, List.flatMap_cons, List.flatMap_nil, List.append_nil]
    obtain ⟨x, hxe⟩ : ∃ x, x = ps[m] := ⟨_, rfl⟩
    rw [← hxe] at q0 q1 q2 q3 hqa hst hbm htk
    have hNme := hNm.out.1
    have hal := (Below.refl wr.heap.size wr).alloc (Nat.le_refl _) (.cells #[.int .i64 x.kind, .string (bs x.text), .int .i64 x.num, .slice A2 x.parts.length c2] 28)
    have hcall := ih g (by omega) x _ _ Nm hqa (by omega) (hB0r.trans (hal.mono hB0r.size)) (hx.ext hal) (by omega) (by omega)
    obtain ⟨⟨sa, sb⟩, hs⟩ : ∃ r, Q.errGo (Q.pre (g + 1) x) Nm = r := ⟨_, rfl⟩
    rw [hs] at hcall hst
    dsimp only at hcall hst
    obtain ⟨z0, _, _⟩ := hx.c.one
    have Hc := Lib.hid hcall; have Hst := Lib.hid hst; have Htk := Lib.hid htk; have Hb := Lib.hid hb; have HkR := Lib.hid (kR.ext hal); have Hal := Lib.hid hal
    clear hcall hst htk hb kR hx hal hqa hbm hfl hs hxe hB0r hNme
    go_wp2_with fail
    refine Hc.out.mono ?_
    rintro e w4 ⟨N4, rfl, hb4, hx4, hN4⟩
    have kR4 := hb4.blk HkR.out (by have := Hlt.out; omega)
    have hb14 := (Hb.out.trans (But.of_below gN Hal.out)).trans hb4
    have hal4 := (Below.refl w4.heap.size w4).alloc (Nat.le_refl _) (.cells #[.int .i64 sa, .int .i64 sb] 30)
    have kF := Blk.new w4 30 #[.int .i64 sa, .int .i64 sb]
    obtain ⟨f0, f1, _, _, _⟩ := kF.two
    have kR5 := kR4.ext hal4
    have hx5 := hx4.ext hal4
    have hb15 := hb14.trans (But.of_below gN hal4)
    have HF := Lib.hid kF; have HkR5 := Lib.hid kR5; have Hx5 := Lib.hid hx5; have Hb15 := Lib.hid hb15; have HN4 := Lib.hid hN4
    clear kR4 hb14 hal4 kF kR5 hx5 hb15 hx4 hb4 hN4 q0 q1 q2 q3 z0 Hc HkR Hb Hal
    go_wp2_with fail
    refine (failed_ok sa sb _).mono ?_
    rintro e w5 ⟨rfl, hb5⟩
    obtain ⟨u0, u1, _, _, _⟩ := (HF.out.ext hb5).two
    have kR6 := HkR5.out.ext hb5
    have hx6 := Hx5.out.ext hb5
    have hb16 := Hb15.out.trans (But.of_below gN hb5)
    clear f0 f1
    by_cases hsa : sa = 0
    ·have hen : (sa != 0) = false := by simpa using hsa
     go_wp2_with fail
     go_roundw
     case rel => exact ⟨m + 1, N4, by omega, by go_num, Lib.hid ⟨by rw [HN4.out hsa, Htk.out, hNm.out.1]; omega, Hst.out.1 hsa⟩, hb16, hx6, kR6⟩
     case measure => simp [intOf]; omega
    ·have hen : (sa != 0) = true := by simpa using hsa
     have hr := Hr.out
     rw [Q.errGo, Her.out, if_pos rfl, Hst.out.2 hsa] at hr
     injection hr with hr1 hr2
     subst hr1 hr2
     obtain ⟨v0, v1, v2, v3, _⟩ := kR6.two
     have HkR6 := Lib.hid kR6; have Hx6 := Lib.hid hx6; have Hb16 := Lib.hid hb16
     clear kR6 hx6 hb16
     go_wp2_with fail
     obtain ⟨e0, e1⟩ := HkR6.out.put2 (.int .i64 sa) (.int .i64 sb)
     refine bodyPost_ret (v := .agg #[.int .i64 sa, .int .i64 sb]) (by simp [results, Tryz.results56, go_sem, e0, e1]) rfl ⟨N4, rfl, ?_, ?_, fun h => absurd h hsa⟩
     ·exact (Hb16.out.put (p := ⟨gB + 1, 0, none⟩) (by show w.heap.size ≤ gB + 1; omega) _).put (p := ⟨gB + 1, 1, none⟩) (by show w.heap.size ≤ gB + 1; omega) _
     ·have := Hlt.out
      exact (Hx6.out.far (p := ⟨gB + 1, 0, none⟩) (by show gN ≠ gB + 1; omega) (by show gC ≠ gB + 1; omega) _).far (p := ⟨gB + 1, 1, none⟩) (by show gN ≠ gB + 1; omega) (by show gC ≠ gB + 1; omega) _
   ·obtain rfl : m = ps.length := by omega
    obtain ⟨hN1, hN2⟩ := hNm.out
    rw [List.take_length] at hN1 hN2
    have hr := Hr.out
    rw [Q.errGo, Her.out, if_pos rfl, Q.errGo_zero2 hN2] at hr
    injection hr with hr1 hr2
    have Hr12 := Lib.hid (And.intro hr1 hr2)
    clear hr1 hr2
    have Hb := Lib.hid hb; have Hx := Lib.hid hx; have HkR := Lib.hid kR
    clear hb hx kR
    go_wp2_with fail
    refine (none_ok _).mono ?_
    rintro e w5 ⟨rfl, hb5⟩
    have kR6 := HkR.out.ext hb5
    obtain ⟨v0, v1, v2, v3, _⟩ := kR6.two
    go_wp2_with fail
    obtain ⟨e0, e1⟩ := kR6.put2 (.int .i64 0) (.int .i64 0)
    refine bodyPost_ret (v := .agg #[.int .i64 0, .int .i64 0]) (by simp [results, Tryz.results56, go_sem, e0, e1]) rfl ⟨Nm, by rw [← Hr12.out.1, ← Hr12.out.2], ?_, ?_, fun _ => by rw [hN1]; omega⟩
    ·exact ((Hb.out.trans (But.of_below gN hb5)).put (p := ⟨gB + 1, 0, none⟩) (by show w.heap.size ≤ gB + 1; omega) _).put (p := ⟨gB + 1, 1, none⟩) (by show w.heap.size ≤ gB + 1; omega) _
    ·have := Hlt.out
     exact ((Hx.out.ext hb5).far (p := ⟨gB + 1, 0, none⟩) (by show gN ≠ gB + 1; omega) (by show gC ≠ gB + 1; omega) _).far (p := ⟨gB + 1, 1, none⟩) (by show gN ≠ gB + 1; omega) (by show gC ≠ gB + 1; omega) _
 ·have hen : (er != 0) = true := by simpa using he
  have hgo : Q.errGo (.node k t n ps :: ps.flatMap (Q.pre f)) N = (er, N) := by rw [Q.errGo, Her.out, if_neg he]
  have hr := Hr.out
  rw [hgo] at hr
  injection hr with hr1 hr2
  subst hr1 hr2
  clear hgo
  have Hx2 := Lib.hid hx2; have HB := Lib.hid hBut; have Hk := Lib.hid kR2
  go_wp2_with fail
  refine (fault_ok er N w2).mono ?_
  rintro e w3 ⟨rfl, hb3⟩
  have kR3 := Hk.out.ext hb3
  obtain ⟨z0, z1, y0, y1, _⟩ := kR3.two
  clear x0 x1
  go_wp2_with fail
  obtain ⟨e0, e1⟩ := kR3.put2 (.int .i64 er) (.int .i64 N)
  refine bodyPost_ret (v := .agg #[.int .i64 er, .int .i64 N]) (by simp [results, Tryz.results56, go_sem, e0, e1]) rfl ⟨N, rfl, ?_, ?_, fun h => absurd h he⟩
  ·exact ((HB.out.trans (But.of_below gN hb3)).put (p := ⟨gB + 1, 0, none⟩) (by show w.heap.size ≤ gB + 1; omega) _).put (p := ⟨gB + 1, 1, none⟩) (by show w.heap.size ≤ gB + 1; omega) _
  ·have := Hlt.out
   exact ((Hx2.out.ext hb3).far (p := ⟨gB + 1, 0, none⟩) (by show gN ≠ gB + 1; omega) (by show gC ≠ gB + 1; omega) _).far (p := ⟨gB + 1, 1, none⟩) (by show gN ≠ gB + 1; omega) (by show gC ≠ gB + 1; omega) _
/-- what the code answers: where nodes are too many to be counted it does not say so -/
theorem fault_form {q : Q} : Q.fault q = if 8 < Q.lev 9 q then (2, -3) else if 60 < (Q.pre 9 q).length then (2, -2) else Q.errGo (Q.pre 9 q) 0 := rfl
theorem pre_up {q : Q} {f g : Nat} (h : Q.Fits f q) (hg : f ≤ g) : Q.pre g q = Q.pre f q ∧ Q.Fits g q := by
 obtain ⟨n, rfl⟩ : ∃ n, g = f + n := ⟨g - f, by omega⟩
 clear hg
 induction n with
 | zero => exact ⟨rfl, h⟩
 | succ n ih => exact ⟨(Q.pre_fits ih.2).trans ih.1, ih.2.succ⟩
set_option maxRecDepth 100000 in
set_option maxHeartbeats 4000000 in
theorem qvalidate_ok (f : Nat) (q : Q) (v : Value) (w : World) (hq : QAt f M0 w v q) (hbk : q.bulk ≤ 4000000) (hT : TabsU w) :
  Calls Tryz.prog 34 #[v] w fun e w' => e = .returned (.agg #[.int .i64 (Q.fault q).1, .int .i64 (Q.fault q).2]) ∧ Below w.heap.size w w' := by
 have hqv := hq
 have hfit := hq.fits
 obtain ⟨A, c, rfl, _, _, _, hv⟩ := hq
 obtain ⟨k, t, n, ps⟩ := q
 simp only [Q.kind_node, Q.text_node, Q.num_node, Q.parts_node] at hv hqv ⊢
 obtain ⟨W1, gB, hW, hgB, hs1, kB, kR, hb1⟩ := boxPair w #[.int .i64 k, .string (bs t), .int .i64 n, .slice A ps.length c] 28 #[.int .i64 0, .int .i64 0] 30
 have HW : Hid (_ = W1) := Lib.hid hW
 have hm := measure_ok f (.node k t n ps) _ W1 (hqv.ext hb1) (by omega)
 obtain ⟨p0, p1, p2, p3, _⟩ := kB.four
 have hff := fault_form (q := .node k t n ps)
 have h89 : Q.lev 9 (.node k t n ps) ≤ 8 ↔ Q.Fits 8 (.node k t n ps) := Q.lev_fits 8 _
 have hpf : Q.Fits 8 (.node k t n ps) → Q.pre 9 (.node k t n ps) = Q.pre (f + 1) (.node k t n ps) := fun h8 => by
  rw [Q.pre_fits h8]
  rcases Nat.le_total 8 (f + 1) with h | h
  ·exact (pre_up h8 h).1.symm
  ·exact (pre_up hfit h).1
 have hpb := Q.pre_bulk 9 (.node k t n ps)
 obtain ⟨⟨ra, rb⟩, hr⟩ : ∃ r, Q.fault (.node k t n ps) = r := ⟨_, rfl⟩
 rw [hr] at hff ⊢
 dsimp only
 obtain ⟨lv, hlv⟩ : ∃ x, Q.lev 9 (.node k t n ps) = x := ⟨_, rfl⟩
 obtain ⟨pl, hpl⟩ : ∃ x, Q.pre 9 (.node k t n ps) = x := ⟨_, rfl⟩
 rw [hlv, hpl] at hm hff
 rw [hlv] at h89
 rw [hpl] at hpf hpb
 have Hm := Lib.hid hm; have Hff := Lib.hid hff; have H89 := Lib.hid h89; have Hpf := Lib.hid hpf
 clear hm hff h89 hpf hr hlv hpl hW
 go_enter Tryz.func34, Tryz.ntmps34
 go_wp2_with fail
 rw [HW.out]
 refine Hm.out.mono ?_
 rintro e w2 ⟨rfl, hb2⟩
 have hb12 := hb1.trans (hb2.mono hb1.size)
 have kR2 := kR.ext hb2
 have kB2 := kB.ext hb2
 clear p0 p1 p2 p3 kR kB
 by_cases c1 : 8 < lv
 ·have hi : (8 : Int) < (lv : Int) := by omega
  have hr := Hff.out
  rw [if_pos c1] at hr
  injection hr with hr1 hr2
  subst hr1 hr2
  have HkR := Lib.hid kR2; have Hb := Lib.hid hb12
  clear kR2 kB2 hb12 c1
  go_wp2_with fail
  refine (fault_ok 2 (-3) _).mono ?_
  rintro e w3 ⟨rfl, hb3⟩
  have kR3 := HkR.out.ext hb3
  obtain ⟨z0, z1, y0, y1, _⟩ := kR3.two
  go_wp2_with fail
  obtain ⟨e0, e1⟩ := kR3.put2 (.int .i64 2) (.int .i64 (-3))
  exact bodyPost_ret (v := .agg #[.int .i64 2, .int .i64 (-3)]) (by simp [results, Tryz.results34, go_sem, e0, e1]) rfl ⟨rfl, below_set2 (Hb.out.trans (hb3.mono Hb.out.size)) (by omega) _ _⟩
 have hi : ¬ (8 : Int) < (lv : Int) := by omega
 by_cases c2 : 60 < pl.length
 ·have hj : (60 : Int) < (pl.length : Int) := by omega
  have hr := Hff.out
  rw [if_neg c1, if_pos c2] at hr
  injection hr with hr1 hr2
  subst hr1 hr2
  have HkR := Lib.hid kR2; have Hb := Lib.hid hb12
  clear kR2 kB2 hb12 c1 c2
  go_wp2_with fail
  refine (fault_ok 2 (-2) _).mono ?_
  rintro e w3 ⟨rfl, hb3⟩
  have kR3 := HkR.out.ext hb3
  obtain ⟨z0, z1, y0, y1, _⟩ := kR3.two
  go_wp2_with fail
  obtain ⟨e0, e1⟩ := kR3.put2 (.int .i64 2) (.int .i64 (-2))
  exact bodyPost_ret (v := .agg #[.int .i64 2, .int .i64 (-2)]) (by simp [results, Tryz.results34, go_sem, e0, e1]) rfl ⟨rfl, below_set2 (Hb.out.trans (hb3.mono Hb.out.size)) (by omega) _ _⟩
 have hj : ¬ (60 : Int) < (pl.length : Int) := by omega
 have hr := Hff.out
 rw [if_neg c1, if_neg c2, Hpf.out (H89.out.1 (by omega))] at hr
 have Hr := Lib.hid hr
 obtain ⟨V, gN, hV, hgN, hsV, kN, kC, hbV⟩ := boxPair w2 #[.int .i64 0] 3 #[.func (.func 56) #[] #[.pointer (some ⟨w2.heap.size, 0, none⟩), .pointer (some ⟨w2.heap.size + 1, 0, none⟩)]] 45
 rw [hgN] at kC hV
 have hbv := hb12.trans (hbV.mono hb12.size)
 have kR3 := kR2.ext hbV
 have kB3 := kB2.ext hbV
 have hlR := kR2.lt
 have hlw : w.heap.size ≤ gN := by have := hb12.size; omega
 have hcall := check_ok w hT gN (gN + 1) hlw (by omega) (by omega) f (.node k t n ps) _ V 0 hqv hbk hbv ⟨kN, kC⟩ (by omega) (by omega)
 rw [← hr] at hcall
 dsimp only at hcall
 obtain ⟨p0, p1, p2, p3, _⟩ := kB3.four
 obtain ⟨z0, _, _⟩ := kC.one
 have HV : Hid (_ = V) := Lib.hid hV
 have Hcall := Lib.hid hcall; have HkR := Lib.hid kR3; have Hbv := Lib.hid hbv; have HgN := Lib.hid hgN
 clear hr hcall hV kR3 kB3 hbv kN kC kR2 kB2 hb12 c1 c2 hsV hbV hb2
 rw [← HV.out] at p0 p1 p2 p3 z0
 go_wp2_with fail
 rw [HV.out]
 refine Hcall.out.mono ?_
 rintro e w4 ⟨N4, rfl, hb4, _, _⟩
 have kR4 := hb4.blk HkR.out (by omega)
 have hbw := hb4.below Hbv.out hlw
 obtain ⟨y0, y1, y2, y3, _⟩ := kR4.two
 clear p0 p1 p2 p3 z0
 go_wp2_with fail
 obtain ⟨e0, e1⟩ := kR4.put2 (.int .i64 ra) (.int .i64 rb)
 exact bodyPost_ret (v := .agg #[.int .i64 ra, .int .i64 rb]) (by simp [results, Tryz.results34, go_sem, e0, e1]) rfl ⟨rfl, below_set2 hbw (by omega) _ _⟩
end Go.Proofs.YtnlhocbaighedaaGreatDoor
namespace Go.Proofs.YtnlhocbaighedaaGreatDoor
open Go.RowKit
set_option linter.unusedVariables false
theorem take_get' {α : Type} (l : List α) (k : Nat) (h : k < l.length) : l.take (k + 1) = l.take k ++ [l[k]] := List.take_succ_eq_append_getElem h
set_option maxHeartbeats 1000000 in
theorem ints_ok (v v' : Value) (l l' : List Int) (w : World) (h : SlR intC M0 w v l) (h' : SlR intC M0 w v' l') : Calls Tryz.prog 13 #[v, v'] w fun e w' => e = .returned (.bool (l == l')) ∧ Below w.heap.size w w' := by
 obtain ⟨A, c, rfl, _, _⟩ := h.form
 obtain ⟨A', c', rfl, _, _⟩ := h'.form
 obtain ⟨hlc, hcm⟩ := h.lenM
 obtain ⟨hlc', hcm'⟩ := h'.lenM
 by_cases hl : l.length = l'.length
 ·have hl' : ((l.length : Int) != (l'.length : Int)) = false := by simp [hl]
  have Hl := Lib.hid hl
  clear hl
  go_enter Tryz.func13, Tryz.ntmps13
  go_wp2
  go_loopw [5] (fun i wr => ∃ k : Nat, k ≤ l.length ∧ i = .int .i64 k ∧ Hid (l.take k = l'.take k) ∧ Below w.heap.size w wr) (fun i _ => l.length - (intOf i).toNat)
  case atStart => exact ⟨0, Nat.zero_le _, rfl, Lib.hid rfl, Below.refl _ _⟩
  case round =>
   obtain ⟨k, hk, rfl, hpre, hb⟩ := hrel
   by_cases hlt : k < l.length
   ·have hlt' : k < l'.length := by have := Hl.out; omega
    obtain ⟨b, off, rfl, _, _, q0, _, _⟩ := (h.ext hb).intAt hlt
    obtain ⟨b', off', rfl, _, _, p0, _, _⟩ := (h'.ext hb).intAt hlt'
    obtain ⟨s, hx⟩ : ∃ x, x = l[k] := ⟨_, rfl⟩
    obtain ⟨s', hx'⟩ : ∃ x, x = l'[k] := ⟨_, rfl⟩
    rw [← hx] at q0
    rw [← hx'] at p0
    obtain ⟨t, ht⟩ : ∃ t, (s == s') = t := ⟨_, rfl⟩
    have Hx := Lib.hid hx; have Hx' := Lib.hid hx'
    clear hx hx'
    have hi1 : (k : Int) < (l.length : Int) := by omega
    have hi2 : (k : Int) < (l'.length : Int) := by omega
    cases t with
    | true =>
     have hnn : (s != s') = false := by rw [bne, ht]; rfl
     go_wp2
     go_quiet (fail)
     go_wp2
     go_roundw
     case rel => exact ⟨k + 1, by omega, by go_num, Lib.hid (by rw [take_get' l k hlt, take_get' l' k hlt', hpre.out, ← Hx.out, ← Hx'.out, eq_of_beq ht]), hb.trans (below_drewN' _ _ _)⟩
     case measure => simp [intOf]; omega
    | false =>
     have hnn : (s != s') = true := by rw [bne, ht]; rfl
     go_wp2
     go_quiet (fail)
     go_wp2
     go_ret
     have hne : (l == l') = false := by
      rw [beq_eq_false_iff_ne]
      intro e
      subst e
      rw [Hx.out, Hx'.out] at ht
      simp at ht
     exact ⟨ret_bool (by rw [hne]), hb.trans (below_drewN' _ _ _)⟩
   ·have he : k = l.length := by omega
    subst he
    go_wp2
    go_ret
    refine ⟨ret_bool ?_, hb⟩
    have hp := hpre.out
    rw [List.take_length, List.take_of_length_le (by have := Hl.out; omega)] at hp
    rw [hp]; simp
 ·have hl' : ((l.length : Int) != (l'.length : Int)) = true := by simp; omega
  have hne : (l == l') = false := by simp; intro h; exact hl (by rw [h])
  rw [hne]
  go_enter Tryz.func13, Tryz.ntmps13
  go_wp2
  go_ret
  exact ⟨rfl, Below.refl _ _⟩

end Go.Proofs.YtnlhocbaighedaaGreatDoor

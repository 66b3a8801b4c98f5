/-
  Contracts and plain facts, one after another: slices.IndexFunc and ContainsFunc on ints, postings, terms and queries; Indexes: a text added, a text removed; plain; Searching: what a query finds; plain.
-/
import Derived.Test.YtiohhajkegpebaaGreatDoorR8
import Derived.Test.YtiohhajkegpebaaGreatDoorIxB
import Derived.Test.YtiohhajkegpebaaGreatDoorR6
namespace Go.Proofs.YtiohhajkegpebaaGreatDoor
open Go.RowKit
set_option linter.unusedVariables false
/-- the place of the first that p holds of -/
def idxP {α : Type} (p : α → Bool) (l : List α) : Int := match l.findIdx? p with | some k => k | none => -1
theorem idxP_hit {α : Type} {p : α → Bool} {l : List α} {k : Nat} (hk : k < l.length) (h : p l[k] = true) (hn : ∀ (j : Nat) (hj : j < l.length), j < k → p l[j] = false) : idxP p l = (k : Int) := by
  unfold idxP
  rw [List.findIdx?_eq_some_iff_getElem.2 ⟨hk, h, fun j hjk => by rw [hn j (by omega) hjk]; simp⟩]
theorem idxP_none {α : Type} {p : α → Bool} {l : List α} (hn : ∀ (j : Nat) (hj : j < l.length), p l[j] = false) : idxP p l = -1 := by
  unfold idxP
  rw [List.findIdx?_eq_none_iff.2 fun x hx => by obtain ⟨j, hj, rfl⟩ := List.getElem_of_mem hx; exact hn j hj]
theorem idxP_any {α : Type} (p : α → Bool) (l : List α) : decide (0 ≤ idxP p l) = l.any p := by
  unfold idxP
  cases h : l.findIdx? p with
  | none =>
    rw [List.findIdx?_eq_none_iff] at h
    have : l.any p = false := by rw [List.any_eq_false]; exact fun x hx => by rw [h x hx]; simp
    rw [this]; simp
  | some k =>
    obtain ⟨hk, hp, _⟩ := List.findIdx?_eq_some_iff_getElem.1 h
    have : l.any p = true := List.any_eq_true.2 ⟨l[k], List.getElem_mem hk, hp⟩
    rw [this]; simp
theorem idxP_ge {α : Type} (p : α → Bool) (l : List α) : -1 ≤ idxP p l := by
  unfold idxP
  split <;> omega
set_option maxRecDepth 100000 in
set_option maxHeartbeats 2000000 in
theorem intIdx_ok (g0 : FuncId) (lb : Array Value) (p : Int → Bool) (l : List Int) (v : Value) (w : World) (h : SlR intC M0 w v l) (eg : ∀ args w, (callFunc g0 args).run Tryz.prog w = .ok (.enter g0 args) w)
    (hf : ∀ (x : Int) (w1 : World), x ∈ l → Below w.heap.size w w1 → -9223372036854775808 ≤ x → x ≤ 9223372036854775807 → Calls Tryz.prog g0 (#[.int .i64 x] ++ lb) w1 fun e w2 => e = .returned (.bool (p x)) ∧ Below w1.heap.size w1 w2) :
    Calls Tryz.prog 141 #[v, .func (.func g0) #[] lb] w fun e w' => e = .returned (.int .i64 (idxP p l)) ∧ Below w.heap.size w w' := by
  obtain ⟨A, c, rfl, _, _⟩ := h.form
  obtain ⟨hlc, hcm⟩ := h.lenM
  have Hf := Lib.hid hf
  clear hf
  go_enter Tryz.func141, Tryz.ntmps141
  go_wp2
  go_loopw [8] (fun i wr => ∃ k : Nat, k ≤ l.length ∧ i = .int .i64 k ∧ Hid (∀ (j : Nat) (hj : j < l.length), j < k → p l[j] = false) ∧ Below w.heap.size w wr) (fun i _ => l.length - (intOf i).toNat)
  case atStart => exact ⟨0, Nat.zero_le _, rfl, Lib.hid fun j _ h => absurd h (by omega), Below.refl _ _⟩
  case round =>
    obtain ⟨k, hk, rfl, hpre, hb⟩ := hrel
    by_cases hlt : k < l.length
    · have hx1 := h.ext hb
      obtain ⟨b, off, rfl, _, _, q0, hl1, hl2⟩ := hx1.intAt hlt
      obtain ⟨x, hx⟩ : ∃ x, x = l[k] := ⟨_, rfl⟩
      rw [← hx] at q0 hl1 hl2
      obtain ⟨t, ht⟩ : ∃ t, p x = t := ⟨_, rfl⟩
      have hfc := Hf.out x wr (by rw [hx]; exact List.getElem_mem hlt) hb hl1 hl2
      rw [ht] at hfc
      have Hfc := Lib.hid hfc; have Hx := Lib.hid hx; have Ht := Lib.hid ht; have Hk0 : Hid ((0 : Int) ≤ (k : Int)) := Lib.hid (by omega)
      clear hfc hx ht hx1
      go_wp2_with fail
      refine Hfc.out.mono ?_
      rintro e w1 ⟨rfl, hb1⟩
      cases t with
      | true =>
        go_wp2_with fail
        go_ret
        exact ⟨by rw [idxP_hit hlt (by rw [← Hx.out]; exact Ht.out) hpre.out]; rfl, hb.trans (hb1.mono hb.size)⟩
      | false =>
        go_wp2_with fail
        go_roundw
        case rel => exact ⟨k + 1, by omega, by go_num, Lib.hid fun j hj hjk => by
          by_cases e : j = k
          · subst e; rw [← Hx.out]; exact Ht.out
          · exact hpre.out j hj (by omega), hb.trans (hb1.mono hb.size)⟩
        case measure => simp [intOf]; omega
    · go_wp2
      go_ret
      exact ⟨by rw [idxP_none fun i hi => hpre.out i hi (by omega)]; rfl, hb⟩
theorem intCont_ok (g0 : FuncId) (lb : Array Value) (p : Int → Bool) (l : List Int) (v : Value) (w : World) (h : SlR intC M0 w v l) (eg : ∀ args w, (callFunc g0 args).run Tryz.prog w = .ok (.enter g0 args) w)
    (hf : ∀ (x : Int) (w1 : World), x ∈ l → Below w.heap.size w w1 → -9223372036854775808 ≤ x → x ≤ 9223372036854775807 → Calls Tryz.prog g0 (#[.int .i64 x] ++ lb) w1 fun e w2 => e = .returned (.bool (p x)) ∧ Below w1.heap.size w1 w2) :
    Calls Tryz.prog 104 #[v, .func (.func g0) #[] lb] w fun e w' => e = .returned (.bool (l.any p)) ∧ Below w.heap.size w w' := by
  have hi := intIdx_ok g0 lb p l v w h eg hf
  rw [← idxP_any p l]
  have hge := idxP_ge p l
  obtain ⟨i, hie⟩ : ∃ i, idxP p l = i := ⟨_, rfl⟩
  rw [hie] at hi hge ⊢
  obtain ⟨A, c, rfl, _, _⟩ := h.form
  have Hi := Lib.hid hi
  clear hi hf hie
  go_enter Tryz.func104, Tryz.ntmps104
  go_wp2_with fail
  refine Hi.out.mono ?_
  rintro e w1 ⟨rfl, hb1⟩
  go_wp2_with fail
  go_ret
  exact ⟨rfl, hb1⟩
set_option maxRecDepth 100000 in
set_option maxHeartbeats 2000000 in
theorem postIdx_ok (g0 : FuncId) (lb : Array Value) (p : Ix.Post → Bool) (l : List Ix.Post) (v : Value) (w : World) (h : SlR postC M0 w v l) (eg : ∀ args w, (callFunc g0 args).run Tryz.prog w = .ok (.enter g0 args) w)
    (hf : ∀ (x : Ix.Post) (A2 : Option Addr) (c2 : Nat) (w1 : World), x ∈ l → Below w.heap.size w w1 → -9223372036854775808 ≤ x.1 → x.1 ≤ 9223372036854775807 → SlR intC M0 w1 (.slice A2 x.2.length c2) x.2 → Calls Tryz.prog g0 (#[.agg #[.int .i64 x.1, .slice A2 x.2.length c2]] ++ lb) w1 fun e w2 => e = .returned (.bool (p x)) ∧ Below w1.heap.size w1 w2) :
    Calls Tryz.prog 140 #[v, .func (.func g0) #[] lb] w fun e w' => e = .returned (.int .i64 (idxP p l)) ∧ Below w.heap.size w w' := by
  obtain ⟨A, c, rfl, _, _⟩ := h.form
  obtain ⟨hlc, hcm⟩ := h.lenM
  have Hf := Lib.hid hf
  clear hf
  go_enter Tryz.func140, Tryz.ntmps140
  go_wp2
  go_loopw [8] (fun i wr => ∃ k : Nat, k ≤ l.length ∧ i = .int .i64 k ∧ Hid (∀ (j : Nat) (hj : j < l.length), j < k → p l[j] = false) ∧ Below w.heap.size w wr) (fun i _ => l.length - (intOf i).toNat)
  case atStart => exact ⟨0, Nat.zero_le _, rfl, Lib.hid fun j _ h => absurd h (by omega), Below.refl _ _⟩
  case round =>
    obtain ⟨k, hk, rfl, hpre, hb⟩ := hrel
    by_cases hlt : k < l.length
    · have hx1 := h.ext hb
      obtain ⟨b, off, A2, c2, rfl, _, _, q0, q1, hl1, hl2, hsl⟩ := hx1.postAt hlt
      obtain ⟨x, hx⟩ : ∃ x, x = l[k] := ⟨_, rfl⟩
      rw [← hx] at q0 q1 hl1 hl2 hsl
      obtain ⟨t, ht⟩ : ∃ t, p x = t := ⟨_, rfl⟩
      have hfc := Hf.out x A2 c2 wr (by rw [hx]; exact List.getElem_mem hlt) hb hl1 hl2 hsl
      rw [ht] at hfc
      have Hfc := Lib.hid hfc; have Hx := Lib.hid hx; have Ht := Lib.hid ht; have Hk0 : Hid ((0 : Int) ≤ (k : Int)) := Lib.hid (by omega)
      clear hfc hx ht hx1
      go_wp2_with fail
      refine Hfc.out.mono ?_
      rintro e w1 ⟨rfl, hb1⟩
      cases t with
      | true =>
        go_wp2_with fail
        go_ret
        exact ⟨by rw [idxP_hit hlt (by rw [← Hx.out]; exact Ht.out) hpre.out]; rfl, hb.trans (hb1.mono hb.size)⟩
      | false =>
        go_wp2_with fail
        go_roundw
        case rel => exact ⟨k + 1, by omega, by go_num, Lib.hid fun j hj hjk => by
          by_cases e : j = k
          · subst e; rw [← Hx.out]; exact Ht.out
          · exact hpre.out j hj (by omega), hb.trans (hb1.mono hb.size)⟩
        case measure => simp [intOf]; omega
    · go_wp2
      go_ret
      exact ⟨by rw [idxP_none fun i hi => hpre.out i hi (by omega)]; rfl, hb⟩
theorem postCont_ok (g0 : FuncId) (lb : Array Value) (p : Ix.Post → Bool) (l : List Ix.Post) (v : Value) (w : World) (h : SlR postC M0 w v l) (eg : ∀ args w, (callFunc g0 args).run Tryz.prog w = .ok (.enter g0 args) w)
    (hf : ∀ (x : Ix.Post) (A2 : Option Addr) (c2 : Nat) (w1 : World), x ∈ l → Below w.heap.size w w1 → -9223372036854775808 ≤ x.1 → x.1 ≤ 9223372036854775807 → SlR intC M0 w1 (.slice A2 x.2.length c2) x.2 → Calls Tryz.prog g0 (#[.agg #[.int .i64 x.1, .slice A2 x.2.length c2]] ++ lb) w1 fun e w2 => e = .returned (.bool (p x)) ∧ Below w1.heap.size w1 w2) :
    Calls Tryz.prog 102 #[v, .func (.func g0) #[] lb] w fun e w' => e = .returned (.bool (l.any p)) ∧ Below w.heap.size w w' := by
  have hi := postIdx_ok g0 lb p l v w h eg hf
  rw [← idxP_any p l]
  have hge := idxP_ge p l
  obtain ⟨i, hie⟩ : ∃ i, idxP p l = i := ⟨_, rfl⟩
  rw [hie] at hi hge ⊢
  obtain ⟨A, c, rfl, _, _⟩ := h.form
  have Hi := Lib.hid hi
  clear hi hf hie
  go_enter Tryz.func102, Tryz.ntmps102
  go_wp2_with fail
  refine Hi.out.mono ?_
  rintro e w1 ⟨rfl, hb1⟩
  go_wp2_with fail
  go_ret
  exact ⟨rfl, hb1⟩
set_option maxRecDepth 100000 in
set_option maxHeartbeats 2000000 in
theorem termIdx_ok (g0 : FuncId) (lb : Array Value) (p : Ix.Term → Bool) (l : List Ix.Term) (v : Value) (w : World) (h : SlR termC M0 w v l) (eg : ∀ args w, (callFunc g0 args).run Tryz.prog w = .ok (.enter g0 args) w)
    (hf : ∀ (x : Ix.Term) (A2 : Option Addr) (c2 : Nat) (w1 : World), x ∈ l → Below w.heap.size w w1 → x.1.length ≤ maxLen → SlR postC M0 w1 (.slice A2 x.2.length c2) x.2 → Calls Tryz.prog g0 (#[.agg #[.string (bs x.1), .slice A2 x.2.length c2]] ++ lb) w1 fun e w2 => e = .returned (.bool (p x)) ∧ Below w1.heap.size w1 w2) :
    Calls Tryz.prog 138 #[v, .func (.func g0) #[] lb] w fun e w' => e = .returned (.int .i64 (idxP p l)) ∧ Below w.heap.size w w' := by
  obtain ⟨A, c, rfl, _, _⟩ := h.form
  obtain ⟨hlc, hcm⟩ := h.lenM
  have Hf := Lib.hid hf
  clear hf
  go_enter Tryz.func138, Tryz.ntmps138
  go_wp2
  go_loopw [8] (fun i wr => ∃ k : Nat, k ≤ l.length ∧ i = .int .i64 k ∧ Hid (∀ (j : Nat) (hj : j < l.length), j < k → p l[j] = false) ∧ Below w.heap.size w wr) (fun i _ => l.length - (intOf i).toNat)
  case atStart => exact ⟨0, Nat.zero_le _, rfl, Lib.hid fun j _ h => absurd h (by omega), Below.refl _ _⟩
  case round =>
    obtain ⟨k, hk, rfl, hpre, hb⟩ := hrel
    by_cases hlt : k < l.length
    · have hx1 := h.ext hb
      obtain ⟨b, off, A2, c2, rfl, _, _, q0, q1, hl1, hsl⟩ := hx1.termAt hlt
      obtain ⟨x, hx⟩ : ∃ x, x = l[k] := ⟨_, rfl⟩
      rw [← hx] at q0 q1 hl1 hsl
      obtain ⟨t, ht⟩ : ∃ t, p x = t := ⟨_, rfl⟩
      have hfc := Hf.out x A2 c2 wr (by rw [hx]; exact List.getElem_mem hlt) hb hl1 hsl
      rw [ht] at hfc
      have Hfc := Lib.hid hfc; have Hx := Lib.hid hx; have Ht := Lib.hid ht; have Hk0 : Hid ((0 : Int) ≤ (k : Int)) := Lib.hid (by omega)
      clear hfc hx ht hx1
      go_wp2_with fail
      refine Hfc.out.mono ?_
      rintro e w1 ⟨rfl, hb1⟩
      cases t with
      | true =>
        go_wp2_with fail
        go_ret
        exact ⟨by rw [idxP_hit hlt (by rw [← Hx.out]; exact Ht.out) hpre.out]; rfl, hb.trans (hb1.mono hb.size)⟩
      | false =>
        go_wp2_with fail
        go_roundw
        case rel => exact ⟨k + 1, by omega, by go_num, Lib.hid fun j hj hjk => by
          by_cases e : j = k
          · subst e; rw [← Hx.out]; exact Ht.out
          · exact hpre.out j hj (by omega), hb.trans (hb1.mono hb.size)⟩
        case measure => simp [intOf]; omega
    · go_wp2
      go_ret
      exact ⟨by rw [idxP_none fun i hi => hpre.out i hi (by omega)]; rfl, hb⟩
theorem termCont_ok (g0 : FuncId) (lb : Array Value) (p : Ix.Term → Bool) (l : List Ix.Term) (v : Value) (w : World) (h : SlR termC M0 w v l) (eg : ∀ args w, (callFunc g0 args).run Tryz.prog w = .ok (.enter g0 args) w)
    (hf : ∀ (x : Ix.Term) (A2 : Option Addr) (c2 : Nat) (w1 : World), x ∈ l → Below w.heap.size w w1 → x.1.length ≤ maxLen → SlR postC M0 w1 (.slice A2 x.2.length c2) x.2 → Calls Tryz.prog g0 (#[.agg #[.string (bs x.1), .slice A2 x.2.length c2]] ++ lb) w1 fun e w2 => e = .returned (.bool (p x)) ∧ Below w1.heap.size w1 w2) :
    Calls Tryz.prog 99 #[v, .func (.func g0) #[] lb] w fun e w' => e = .returned (.bool (l.any p)) ∧ Below w.heap.size w w' := by
  have hi := termIdx_ok g0 lb p l v w h eg hf
  rw [← idxP_any p l]
  have hge := idxP_ge p l
  obtain ⟨i, hie⟩ : ∃ i, idxP p l = i := ⟨_, rfl⟩
  rw [hie] at hi hge ⊢
  obtain ⟨A, c, rfl, _, _⟩ := h.form
  have Hi := Lib.hid hi
  clear hi hf hie
  go_enter Tryz.func99, Tryz.ntmps99
  go_wp2_with fail
  refine Hi.out.mono ?_
  rintro e w1 ⟨rfl, hb1⟩
  go_wp2_with fail
  go_ret
  exact ⟨rfl, hb1⟩
set_option maxRecDepth 100000 in
set_option maxHeartbeats 2000000 in
theorem queryIdx_ok (g0 : FuncId) (lb : Array Value) (f : Nat) (p : Q → Bool) (l : List Q) (v : Value) (w : World) (h : SlR (qF f) M0 w v l) (eg : ∀ args w, (callFunc g0 args).run Tryz.prog w = .ok (.enter g0 args) w)
    (hf : ∀ (x : Q) (g : Nat) (A2 : Option Addr) (c2 : Nat) (w1 : World), x ∈ l → Below w.heap.size w w1 → f = g + 1 → QAt g M0 w1 (.agg #[.int .i64 x.kind, .string (bs x.text), .int .i64 x.num, .slice A2 x.parts.length c2]) x → Calls Tryz.prog g0 (#[.agg #[.int .i64 x.kind, .string (bs x.text), .int .i64 x.num, .slice A2 x.parts.length c2]] ++ lb) w1 fun e w2 => e = .returned (.bool (p x)) ∧ Below w1.heap.size w1 w2) :
    Calls Tryz.prog 108 #[v, .func (.func g0) #[] lb] w fun e w' => e = .returned (.int .i64 (idxP p l)) ∧ Below w.heap.size w w' := by
  obtain ⟨A, c, rfl, _, _⟩ := h.form
  obtain ⟨hlc, hcm⟩ := h.lenM
  have Hf := Lib.hid hf
  clear hf
  go_enter Tryz.func108, Tryz.ntmps108
  go_wp2
  go_loopw [8] (fun i wr => ∃ k : Nat, k ≤ l.length ∧ i = .int .i64 k ∧ Hid (∀ (j : Nat) (hj : j < l.length), j < k → p l[j] = false) ∧ Below w.heap.size w wr) (fun i _ => l.length - (intOf i).toNat)
  case atStart => exact ⟨0, Nat.zero_le _, rfl, Lib.hid fun j _ h => absurd h (by omega), Below.refl _ _⟩
  case round =>
    obtain ⟨k, hk, rfl, hpre, hb⟩ := hrel
    by_cases hlt : k < l.length
    · have hx1 := h.ext hb
      obtain ⟨b, off, g, A2, c2, rfl, hfg, _, _, q0, q1, q2, q3, hqa⟩ := hx1.qAt hlt
      obtain ⟨x, hx⟩ : ∃ x, x = l[k] := ⟨_, rfl⟩
      rw [← hx] at q0 q1 q2 q3 hqa
      obtain ⟨t, ht⟩ : ∃ t, p x = t := ⟨_, rfl⟩
      have hfc := Hf.out x g A2 c2 wr (by rw [hx]; exact List.getElem_mem hlt) hb hfg hqa
      rw [ht] at hfc
      have Hfc := Lib.hid hfc; have Hx := Lib.hid hx; have Ht := Lib.hid ht; have Hk0 : Hid ((0 : Int) ≤ (k : Int)) := Lib.hid (by omega)
      clear hfc hx ht hx1
      go_wp2_with fail
      refine Hfc.out.mono ?_
      rintro e w1 ⟨rfl, hb1⟩
      cases t with
      | true =>
        go_wp2_with fail
        go_ret
        exact ⟨by rw [idxP_hit hlt (by rw [← Hx.out]; exact Ht.out) hpre.out]; rfl, hb.trans (hb1.mono hb.size)⟩
      | false =>
        go_wp2_with fail
        go_roundw
        case rel => exact ⟨k + 1, by omega, by go_num, Lib.hid fun j hj hjk => by
          by_cases e : j = k
          · subst e; rw [← Hx.out]; exact Ht.out
          · exact hpre.out j hj (by omega), hb.trans (hb1.mono hb.size)⟩
        case measure => simp [intOf]; omega
    · go_wp2
      go_ret
      exact ⟨by rw [idxP_none fun i hi => hpre.out i hi (by omega)]; rfl, hb⟩
theorem queryCont_ok (g0 : FuncId) (lb : Array Value) (f : Nat) (p : Q → Bool) (l : List Q) (v : Value) (w : World) (h : SlR (qF f) M0 w v l) (eg : ∀ args w, (callFunc g0 args).run Tryz.prog w = .ok (.enter g0 args) w)
    (hf : ∀ (x : Q) (g : Nat) (A2 : Option Addr) (c2 : Nat) (w1 : World), x ∈ l → Below w.heap.size w w1 → f = g + 1 → QAt g M0 w1 (.agg #[.int .i64 x.kind, .string (bs x.text), .int .i64 x.num, .slice A2 x.parts.length c2]) x → Calls Tryz.prog g0 (#[.agg #[.int .i64 x.kind, .string (bs x.text), .int .i64 x.num, .slice A2 x.parts.length c2]] ++ lb) w1 fun e w2 => e = .returned (.bool (p x)) ∧ Below w1.heap.size w1 w2) :
    Calls Tryz.prog 79 #[v, .func (.func g0) #[] lb] w fun e w' => e = .returned (.bool (l.any p)) ∧ Below w.heap.size w w' := by
  have hi := queryIdx_ok g0 lb f p l v w h eg hf
  rw [← idxP_any p l]
  have hge := idxP_ge p l
  obtain ⟨i, hie⟩ : ∃ i, idxP p l = i := ⟨_, rfl⟩
  rw [hie] at hi hge ⊢
  obtain ⟨A, c, rfl, _, _⟩ := h.form
  have Hi := Lib.hid hi
  clear hi hf hie
  go_enter Tryz.func79, Tryz.ntmps79
  go_wp2_with fail
  refine Hi.out.mono ?_
  rintro e w1 ⟨rfl, hb1⟩
  go_wp2_with fail
  go_ret
  exact ⟨rfl, hb1⟩
end Go.Proofs.YtiohhajkegpebaaGreatDoor
namespace Go.Proofs.YtiohhajkegpebaaGreatDoor
namespace Ix
set_option linter.unusedVariables false
def insId (ids : List Int) (id : Int) : List Int := ids.filter (fun n => decide (n < id)) ++ id :: ids.filter (fun n => decide (id < n))
def addF (x : Idx) (id : Int) (s : List Str) : Idx := (insId x.1 id, putAll id s 0 x.2)
def removeF (x : Idx) (id : Int) : Idx := (x.1.filter (fun n => !(n == id)), removeT id x.2)
theorem split_at {ids : List Int} {id : Int} {k : Nat} (hk : k ≤ ids.length) (h1 : ∀ (m : Nat) (h : m < ids.length), m < k → ids[m] < id) (h2 : ∀ (m : Nat) (h : m < ids.length), k ≤ m → id < ids[m]) :
    ids.filter (fun n => decide (n < id)) = ids.take k ∧ ids.filter (fun n => decide (id < n)) = ids.drop k := by
  have ht : ∀ n ∈ ids.take k, n < id := fun n hn => by
    obtain ⟨m, hm, rfl⟩ := List.mem_iff_getElem.1 hn
    rw [List.length_take] at hm
    rw [List.getElem_take]
    exact h1 m (by omega) (by omega)
  have hd : ∀ n ∈ ids.drop k, id < n := fun n hn => by
    obtain ⟨m, hm, rfl⟩ := List.mem_iff_getElem.1 hn
    rw [List.length_drop] at hm
    rw [List.getElem_drop]
    exact h2 _ (by omega) (by omega)
  constructor
  · conv => lhs; rw [← List.take_append_drop k ids]
    rw [List.filter_append, List.filter_eq_self.2 fun n hn => by simpa using ht n hn, List.filter_eq_nil_iff.2 fun n hn => by have := hd n hn; simp; omega, List.append_nil]
  · conv => lhs; rw [← List.take_append_drop k ids]
    rw [List.filter_append, List.filter_eq_nil_iff.2 fun n hn => by have := ht n hn; simp; omega, List.filter_eq_self.2 fun n hn => by simpa using hd n hn, List.nil_append]
theorem insId_at {ids : List Int} {id : Int} {k : Nat} (hk : k ≤ ids.length) (h1 : ∀ (m : Nat) (h : m < ids.length), m < k → ids[m] < id) (h2 : ∀ (m : Nat) (h : m < ids.length), k ≤ m → id < ids[m]) : insId ids id = ids.take k ++ id :: ids.drop k := by
  obtain ⟨a, b⟩ := split_at hk h1 h2
  unfold insId
  rw [a, b]
theorem mem_insId {ids : List Int} {id n : Int} : n ∈ insId ids id ↔ n = id ∨ n ∈ ids := by
  unfold insId
  simp only [List.mem_append, List.mem_cons, List.mem_filter, decide_eq_true_eq]
  constructor
  · rintro (⟨h, _⟩ | h | ⟨h, _⟩)
    · exact .inr h
    · exact .inl h
    · exact .inr h
  · rintro (h | h)
    · exact .inr (.inl h)
    · rcases Int.lt_trichotomy n id with e | e | e
      · exact .inl ⟨h, e⟩
      · exact .inr (.inl e)
      · exact .inr (.inr ⟨h, e⟩)
theorem insId_sorted {ids : List Int} {id : Int} (h : ids.Pairwise (· < ·)) : (insId ids id).Pairwise (· < ·) := by
  unfold insId
  rw [List.pairwise_append]
  refine ⟨h.sublist List.filter_sublist, List.pairwise_cons.2 ⟨fun n hn => by simpa using (List.mem_filter.1 hn).2, h.sublist List.filter_sublist⟩, fun a ha b hb => ?_⟩
  have h1 : a < id := by simpa using (List.mem_filter.1 ha).2
  rcases List.mem_cons.1 hb with e | e
  · rw [e]; exact h1
  · have h2 : id < b := by simpa using (List.mem_filter.1 e).2
    omega
theorem filter_parts {ids : List Int} {id : Int} (hid : id ∉ ids) (h : ids.Pairwise (· < ·)) : ids.filter (fun n => decide (n < id)) ++ ids.filter (fun n => decide (id < n)) = ids := by
  induction ids with
  | nil => rfl
  | cons a r ih =>
    rw [List.pairwise_cons] at h
    have hne : a ≠ id := fun e => hid (by rw [e]; exact List.mem_cons_self)
    have hr : id ∉ r := fun e => hid (List.mem_cons_of_mem _ e)
    by_cases ha : a < id
    · have : ¬ id < a := by omega
      simp [ha, this, ih hr h.2]
    · have ha2 : id < a := by omega
      have : r.filter (fun n => decide (n < id)) = [] := List.filter_eq_nil_iff.2 fun n hn => by have := h.1 n hn; simp; omega
      have h3 : r.filter (fun n => decide (id < n)) = r := List.filter_eq_self.2 fun n hn => by have := h.1 n hn; simp; omega
      simp [ha, ha2, this, h3]
theorem insId_len {ids : List Int} {id : Int} (hid : id ∉ ids) (h : ids.Pairwise (· < ·)) : (insId ids id).length = ids.length + 1 := by
  have := congrArg List.length (filter_parts hid h)
  rw [List.length_append] at this
  unfold insId
  rw [List.length_append, List.length_cons]
  omega
theorem remove_insId {ids : List Int} {id : Int} (hid : id ∉ ids) (h : ids.Pairwise (· < ·)) : (insId ids id).filter (fun n => !(n == id)) = ids := by
  conv => rhs; rw [← filter_parts hid h]
  unfold insId
  rw [List.filter_append, List.filter_cons, List.filter_filter, List.filter_filter]
  simp only [beq_self_eq_true, Bool.not_true, Bool.false_eq_true, if_false]
  congr 1
  · exact List.filter_congr fun n _ => by by_cases e : n < id <;> simp [e]; omega
  · exact List.filter_congr fun n _ => by by_cases e : id < n <;> simp [e]; omega
theorem sorted_ext {a b : List Int} (ha : a.Pairwise (· < ·)) (hb : b.Pairwise (· < ·)) (h : ∀ n, n ∈ a ↔ n ∈ b) : a = b := by
  refine List.Perm.eq_of_pairwise (le := fun x y => x < y) (fun x y _ _ h1 h2 => by omega) ha hb ?_
  exact (List.perm_ext_iff_of_nodup (ha.imp fun h => by omega) (hb.imp fun h => by omega)).2 h
theorem insId_comm {ids : List Int} {a b : Int} (h : ids.Pairwise (· < ·)) : insId (insId ids a) b = insId (insId ids b) a := by
  refine sorted_ext (insId_sorted (insId_sorted h)) (insId_sorted (insId_sorted h)) fun n => ?_
  simp only [mem_insId]
  constructor <;> rintro (h | h | h) <;> simp [h]
theorem eraseIdx_filter {ids : List Int} (h : ids.Pairwise (· < ·)) {k : Nat} (hk : k < ids.length) : ids.eraseIdx k = ids.filter fun n => !(n == ids[k]) := by
  have hp := List.pairwise_iff_getElem.1 h
  refine sorted_ext (h.sublist (List.eraseIdx_sublist _ _)) (h.sublist List.filter_sublist) fun n => ?_
  rw [List.mem_eraseIdx_iff_getElem, List.mem_filter]
  constructor
  · rintro ⟨i, hi, hik, rfl⟩
    refine ⟨List.getElem_mem _, ?_⟩
    rcases Nat.lt_or_gt_of_ne hik with e | e
    · have := hp i k hi hk e; simp; omega
    · have := hp k i hk hi e; simp; omega
  · rintro ⟨h1, h2⟩
    obtain ⟨i, hi, rfl⟩ := List.mem_iff_getElem.1 h1
    exact ⟨i, hi, fun e => by subst e; simp at h2, rfl⟩
/-! ### members and contents -/
theorem cont_mem {ts : List Term} (h : Wf ts) {t : Term} (ht : t ∈ ts) {p : Post} (hp : p ∈ t.2) : cont ts t.1 p.1 = p.2 := by
  unfold cont
  rw [Al.look_of_mem tot_str h.srt (show (t.1, t.2) ∈ ts from ht)]
  show (Al.look t.2 p.1).getD [] = _
  rw [Al.look_of_mem totI (h.post t ht).2.1 (show (p.1, p.2) ∈ t.2 from hp)]
  rfl
theorem mem_cont {ts : List Term} {w : Str} {i : Int} (h : cont ts w i ≠ []) : ∃ t ∈ ts, t.1 = w ∧ ∃ p ∈ t.2, p.1 = i ∧ p.2 = cont ts w i := by
  unfold cont at h ⊢
  cases hw : Al.look ts w with
  | none => rw [hw] at h; exact absurd rfl h
  | some ps =>
    rw [hw] at h
    simp only [Option.bind_some] at h ⊢
    cases hq : Al.look ps i with
    | none => rw [hq] at h; exact absurd rfl h
    | some q => exact ⟨_, Al.look_mem hw, rfl, _, Al.look_mem hq, rfl, rfl⟩
theorem occ_range (w : Str) : ∀ (s : List Str) (n : Nat), (occ w s n).Pairwise (· < ·) ∧ ∀ m ∈ occ w s n, (n : Int) ≤ m ∧ m < n + s.length
  | [], n => by simp [occ]
  | a :: s, n => by
    have ih := occ_range w s (n + 1)
    rw [occ]
    split
    · refine ⟨List.pairwise_cons.2 ⟨fun m hm => by have := (ih.2 m hm).1; omega, ih.1⟩, fun m hm => ?_⟩
      rcases List.mem_cons.1 hm with e | e
      · simp; omega
      · have := ih.2 m e; simp; omega
    · exact ⟨ih.1, fun m hm => by have := ih.2 m hm; simp; omega⟩
theorem occ_nil (w : Str) : ∀ (s : List Str) (n : Nat), occ w s n = [] ↔ w ∉ s
  | [], n => by simp [occ]
  | a :: s, n => by
    rw [occ]
    split
    · rename_i e; simp [e]
    · rename_i e
      rw [occ_nil w s (n + 1), List.mem_cons]
      simp only [not_or]
      exact ⟨fun h => ⟨fun e' => e e'.symm, h⟩, fun h => h.2⟩
theorem strange {x : Idx} (h : Canon x) {id : Int} (hid : id ∉ x.1) (w : Str) : cont x.2 w id = [] := by
  cases hc : cont x.2 w id with
  | nil => rfl
  | cons a r =>
    obtain ⟨t, ht, _, p, hp, e, _⟩ := mem_cont (ts := x.2) (w := w) (i := id) (by rw [hc]; simp)
    exact absurd (e ▸ ((h.post t ht).2.2 p hp).1) hid
theorem canon_add {x : Idx} (h : Canon x) {id : Int} {s : List Str} (h1 : 1 ≤ id ∧ id ≤ 1000000) (hid : id ∉ x.1) (hn : x.1.length < 300) (hs : ∀ w ∈ s, w ≠ [] ∧ w.length ≤ 8000) (hsl : s.length ≤ 1000000) (hm : (putAll id s 0 x.2).length ≤ 1000000) : Canon (addF x id s) := by
  have hwf := h.wf
  have hw' := Wf.putAll id s 0 hwf
  have hc := cont_putAll id s 0 hwf
  have key : ∀ t ∈ putAll id s 0 x.2, ∀ p ∈ t.2, (t.1 ≠ [] ∧ t.1.length ≤ 8000) ∧ p.1 ∈ insId x.1 id ∧ p.2.Pairwise (· < ·) ∧ ∀ n ∈ p.2, 0 ≤ n ∧ n ≤ 1000000 := by
    intro t ht p hp
    have e := cont_mem hw' ht hp
    have hne := (hw'.post t ht).2.2 p hp
    rw [hc] at e
    split at e
    · rename_i hi
      rw [strange h hid, List.nil_append] at e
      rw [← e] at hne ⊢
      have hmem : t.1 ∈ s := Classical.byContradiction fun hno => hne ((occ_nil _ _ _).2 hno)
      have ho := occ_range t.1 s 0
      exact ⟨hs _ hmem, mem_insId.2 (.inl hi), ho.1, fun n hn => by have := ho.2 n hn; omega⟩
    · rename_i hi
      rw [← e] at hne
      obtain ⟨t', ht', e1, p', hp', e2, e3⟩ := mem_cont hne
      have h2 := (h.post t' ht').2.2 p' hp'
      rw [e3, e] at h2
      exact ⟨by rw [← e1]; exact h.word t' ht', mem_insId.2 (.inr (e2 ▸ h2.1)), h2.2.2⟩
  refine ⟨by show (insId x.1 id).length ≤ 300; rw [insId_len hid h.ids]; omega, insId_sorted h.ids, fun n hn => ?_, hm, hw'.srt, fun t ht => ?_, fun t ht => ?_⟩
  · rcases mem_insId.1 hn with e | e
    · rw [e]; exact h1
    · exact h.idr n e
  · obtain ⟨hne, _, _⟩ := hw'.post t ht
    obtain ⟨p, r, e⟩ : ∃ p r, t.2 = p :: r := by cases h : t.2 with | nil => exact absurd h hne | cons p r => exact ⟨p, r, rfl⟩
    exact (key t ht p (by rw [e]; exact List.mem_cons_self)).1
  · obtain ⟨hne, hsr, hno⟩ := hw'.post t ht
    exact ⟨hne, hsr, fun p hp => ⟨(key t ht p hp).2.1, hno p hp, (key t ht p hp).2.2⟩⟩
theorem len_filter_lt {ids : List Int} (p : Int → Bool) : (ids.filter p).length ≤ ids.length := List.length_filter_le _ _
theorem canon_remove {x : Idx} (h : Canon x) (id : Int) : Canon (removeF x id) := by
  have hw' := h.wf.remove id
  have hc := cont_remove h.wf id
  have key : ∀ t ∈ removeT id x.2, ∀ p ∈ t.2, (t.1 ≠ [] ∧ t.1.length ≤ 8000) ∧ p.1 ∈ x.1.filter (fun n => !(n == id)) ∧ p.2.Pairwise (· < ·) ∧ ∀ n ∈ p.2, 0 ≤ n ∧ n ≤ 1000000 := by
    intro t ht p hp
    have e := cont_mem hw' ht hp
    have hne := (hw'.post t ht).2.2 p hp
    rw [hc] at e
    split at e
    · exact absurd e.symm hne
    · rename_i hi
      rw [← e] at hne
      obtain ⟨t', ht', e1, p', hp', e2, e3⟩ := mem_cont hne
      have h2 := (h.post t' ht').2.2 p' hp'
      rw [e3, e] at h2
      refine ⟨by rw [← e1]; exact h.word t' ht', List.mem_filter.2 ⟨e2 ▸ h2.1, by simpa using hi⟩, h2.2.2⟩
  refine ⟨?_, h.ids.sublist List.filter_sublist, fun n hn => h.idr n (List.mem_filter.1 hn).1, ?_, hw'.srt, fun t ht => ?_, fun t ht => ?_⟩
  · have := h.few
    have := List.length_filter_le (fun n => !(n == id)) x.1
    show (x.1.filter _).length ≤ 300
    omega
  · have := h.many
    have h2 : (removeT id x.2).length ≤ x.2.length := by
      unfold removeT
      refine Nat.le_trans (List.length_filter_le _ _) ?_
      rw [List.length_map]
      exact Nat.le_refl _
    show (removeT id x.2).length ≤ 1000000
    omega
  · obtain ⟨hne, _, _⟩ := hw'.post t ht
    obtain ⟨p, r, e⟩ : ∃ p r, t.2 = p :: r := by cases h : t.2 with | nil => exact absurd h hne | cons p r => exact ⟨p, r, rfl⟩
    exact (key t ht p (by rw [e]; exact List.mem_cons_self)).1
  · obtain ⟨hne, hsr, hno⟩ := hw'.post t ht
    exact ⟨hne, hsr, fun p hp => ⟨(key t ht p hp).2.1, hno p hp, (key t ht p hp).2.2⟩⟩
/-! ### the laws -/
theorem remove_add {x : Idx} (h : Canon x) {id : Int} (hid : id ∉ x.1) (s : List Str) : removeF (addF x id s) id = x := by
  unfold removeF addF
  rw [remove_insId hid h.ids, remove_put h.wf id s (strange h hid)]
theorem add_comm {x : Idx} (h : Canon x) {a b : Int} (s t : List Str) (hab : a ≠ b) : addF (addF x a s) b t = addF (addF x b t) a s := by
  unfold addF
  simp only
  rw [insId_comm h.ids, put_comm h.wf a b s t hab]
/-! ### how many terms there are -/
theorem upd_len {f : Option (List Post) → List Post} {w : Str} : ∀ {ts : List Term}, Al.Sorted ltS ts → (Al.upd ltS f w ts).length = ts.length + if Al.look ts w = none then 1 else 0
  | [], _ => by simp [Al.upd, Al.look]
  | t :: ts, h => by
    have h0 := h
    unfold Al.Sorted at h
    rw [List.pairwise_cons] at h
    rw [Al.upd]
    split
    · rename_i hlt
      have hne : ¬ t.1 = w := tot_str.ne hlt
      rw [List.length_cons, upd_len h.2, Al.look, if_neg hne, List.length_cons]
      omega
    · rename_i hlt
      split
      · rename_i e
        rw [Al.look, if_pos e]
        simp
      · rename_i e
        have hgt : ltS w t.1 = true := by
          cases hh : ltS w t.1 with
          | true => rfl
          | false => exact absurd (tot_str.total _ _ (by simpa using hlt) hh) e
        have hn : Al.look (t :: ts) w = none := Al.look_none fun q hq e2 => by
          rcases List.mem_cons.1 hq with e3 | e3
          · subst e3; exact e e2
          · exact tot_str.ne (tot_str.trans _ _ _ hgt (h.1 _ e3)) e2.symm
        rw [hn]
        simp
/-- how many words are new -/
def fresh (ts : List Term) : List Str → List Str → Nat
  | _, [] => 0
  | seen, w :: s => (if Al.look ts w = none ∧ w ∉ seen then 1 else 0) + fresh ts (seen ++ [w]) s
theorem look_putT {id place : Int} {ts : List Term} (h : Wf ts) (w w' : Str) : Al.look (putT id place w ts) w' = none ↔ Al.look ts w' = none ∧ w' ≠ w := by
  unfold putT
  rw [Al.look_upd tot_str h.srt]
  by_cases e : w' = w
  · simp [e]
  · simp [e]
theorem putAll_len (id : Int) (ts0 : List Term) : ∀ (s : List Str) (n : Nat) (seen : List Str) {ts : List Term}, Wf ts → (∀ w, Al.look ts w = none ↔ Al.look ts0 w = none ∧ w ∉ seen) → (putAll id s n ts).length = ts.length + fresh ts0 seen s
  | [], n, seen, ts, _, _ => rfl
  | w :: s, n, seen, ts, h, hl => by
    rw [putAll, putAll_len id ts0 s (n + 1) (seen ++ [w]) (h.put id n w) fun w' => by
      rw [look_putT h, hl w', List.mem_append, List.mem_singleton]
      constructor
      · rintro ⟨⟨a, b⟩, c⟩; exact ⟨a, fun e => e.elim b c⟩
      · rintro ⟨a, b⟩; exact ⟨⟨a, fun e => b (.inl e)⟩, fun e => b (.inr e)⟩]
    rw [show (putT id n w ts).length = _ from upd_len h.srt, fresh]
    by_cases e : Al.look ts w = none
    · rw [if_pos e, if_pos ((hl w).1 e)]; omega
    · rw [if_neg e, if_neg fun e' => e ((hl w).2 e')]; omega
theorem fresh_le (ts : List Term) : ∀ (s seen : List Str), fresh ts seen s ≤ s.length
  | [], _ => Nat.le_refl _
  | w :: s, seen => by
    have := fresh_le ts s (seen ++ [w])
    rw [fresh, List.length_cons]
    split <;> omega
end Ix
end Go.Proofs.YtiohhajkegpebaaGreatDoor
namespace Go.Proofs.YtiohhajkegpebaaGreatDoor
set_option linter.unusedVariables false
namespace Sr
open Q
/-- where the stem of a word occurs in a text -/
def places (x : Ix.Idx) (word : Str) (id : Int) : List Int := Ix.cont x.2 (Sm.stem word) id
theorem places_eq (x : Ix.Idx) (word : Str) (id : Int) : places x word id = (Al.look ((Al.look x.2 (Sm.stem word)).getD []) id).getD [] := by
  unfold places Ix.cont
  cases Al.look x.2 (Sm.stem word) <;> rfl
def prefixF (x : Ix.Idx) (s : Str) (id : Int) : Bool := x.2.any fun t => s.isPrefixOf t.1 && t.2.any fun p => p.1 == id
/-- words at consecutive places, from one on -/
def rowAt (x : Ix.Idx) (id at_ : Int) : List Str → Int → Bool
  | [], _ => true
  | w :: l, k => (places x w id).contains (at_ + k) && rowAt x id at_ l (k + 1)
def phraseF (x : Ix.Idx) (l : List Str) (id : Int) : Bool := (places x (l.headD []) id).any fun a => rowAt x id a l 0
def nearF (x : Ix.Idx) (a b : Str) (most id : Int) : Bool := (places x a id).any fun i => (places x b id).any fun k => (!(k == i) && decide (k - i ≤ most)) && decide (i - k ≤ most)
def findsF : Nat → Ix.Idx → Q → Int → Bool
  | 0, _, _, _ => true
  | f + 1, x, q, id =>
    if q.kind = 2 then decide (0 < (places x q.text id).length)
    else if q.kind = 3 then prefixF x q.text id
    else if q.kind = 4 then phraseF x (splitS q.text) id
    else if q.kind = 5 then nearF x ((splitS q.text).headD []) ((splitS q.text).getD 1 []) q.num id
    else if q.kind = 6 then !(q.parts.any fun p => !findsF f x p id)
    else if q.kind = 7 then q.parts.any fun p => findsF f x p id
    else if q.kind = 8 then !findsF f x (q.parts.headD (.node 0 [] 0 [])) id
    else true
theorem any_same {α : Type} {l : List α} {f g : α → Bool} (h : ∀ a ∈ l, f a = g a) : l.any f = l.any g := by
  induction l with
  | nil => rfl
  | cons a l ih => rw [List.any_cons, List.any_cons, h a (.head _), ih fun b hb => h b (.tail _ hb)]
theorem findsF_fits : ∀ {f : Nat} {q : Q} (x : Ix.Idx) (id : Int), Fits f q → (q.kind = 8 → q.parts ≠ []) → (∀ p ∈ pre f q, p.kind = 8 → p.parts ≠ []) → findsF (f + 1) x q id = findsF f x q id
  | 0, q, x, id, h, _, _ => h.elim
  | f + 1, q, x, id, h, h8, ha => by
    have hp : ∀ p ∈ q.parts, findsF (f + 1) x p id = findsF f x p id := fun p hp => by
      have hin : ∀ r ∈ pre f p, r ∈ pre (f + 1) q := fun r hr => by
        rw [pre]; exact .tail _ (List.mem_flatMap.2 ⟨p, hp, hr⟩)
      have hself : p ∈ pre f p := by
        match f, h p hp with
        | f + 1, _ => rw [pre]; exact .head _
      exact findsF_fits x id (h p hp) (ha p (hin p hself)) fun r hr => ha r (hin r hr)
    rw [findsF, any_same hp, any_same fun p hq => by rw [hp p hq]]
    by_cases e : q.kind = 8
    · have hne := h8 e
      obtain ⟨a, l, hl⟩ : ∃ a l, q.parts = a :: l := by
        cases hh : q.parts with
        | nil => exact absurd hh hne
        | cons a l => exact ⟨a, l, rfl⟩
      have := hp a (by rw [hl]; exact .head _)
      have hh : q.parts.headD (.node 0 [] 0 []) = a := by rw [hl]; rfl
      rw [hh, this, findsF, hh]
    · rw [if_neg e, findsF, if_neg e]
/-- the texts that a query finds -/
def foundF (x : Ix.Idx) (q : Q) : List Int := x.1.filter fun id => findsF 8 x q id
def findR (x : Ix.Idx) (q : Q) : List Int × Int × Int :=
  if (Ix.indexF x).1 ≠ 0 then ([], Ix.indexF x) else if (fault q).1 ≠ 0 then ([], (fault q).1, -5) else (foundF x q, 0, 0)
theorem notempty {q : Q} (h : (fault q).1 = 0) : ∀ p ∈ pre 8 q, p.kind = 8 → p.parts ≠ [] := fun p hp hk hn => by
  have he := (fault_zero.1 h).2.2 p hp
  unfold errOf at he
  rw [hk, hn] at he
  simp [least] at he
theorem pre_self {f : Nat} {q : Q} (h : Fits f q) : q ∈ pre f q := by
  match f, h with
  | f + 1, _ => rw [pre]; exact .head _
/-- a valid query finds the same at all levels that are enough -/
theorem finds_up {q : Q} (h : (fault q).1 = 0) {f : Nat} (hf : 8 ≤ f) (x : Ix.Idx) (id : Int) : findsF f x q id = findsF 8 x q id := by
  have hg := fault_zero.1 h
  have key : ∀ n, Fits (8 + n) q ∧ pre (8 + n) q = pre 8 q ∧ findsF (8 + n) x q id = findsF 8 x q id := by
    intro n
    induction n with
    | zero => exact ⟨hg.1, rfl, rfl⟩
    | succ n ih =>
      obtain ⟨h1, h2, h3⟩ := ih
      have hne := notempty h
      refine ⟨h1.succ, (pre_fits h1).trans h2, (findsF_fits x id h1 (hne q (pre_self hg.1)) (by rw [h2]; exact hne)).trans h3⟩
  obtain ⟨n, rfl⟩ : ∃ n, f = 8 + n := ⟨f - 8, by omega⟩
  exact (key n).2.2
end Sr
end Go.Proofs.YtiohhajkegpebaaGreatDoor

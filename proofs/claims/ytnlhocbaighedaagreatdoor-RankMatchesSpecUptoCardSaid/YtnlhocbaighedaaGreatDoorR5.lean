/-
  Contracts and plain facts, one after another: index.rising, index.has; Names, groups, grants and rights: plain Lean; Names: package basic and its reference, function by function; An iterator that turns blocks of its own between two rounds: its contract, the law of the loop over it. No program is named here; append(s[:i], make(S, m)...) where s has no room: a new row. No program is named here; slices.Insert on what the call owns: []api.Term; slices.Insert on what the call owns: []api.Posting; Boxes under names; the stores of two cells. No program is named here.
-/
import Derived.Test.YtnlhocbaighedaaGreatDoorR4
import Derived.Test.YtnlhocbaighedaaGreatDoorShelf
import Derived.Test.YtnlhocbaighedaaGreatDoorR1
import Derived.Test.YtnlhocbaighedaaGreatDoorR2
import Derived.Test.YtnlhocbaighedaaGreatDoorR3
import Derived.Outline
import Derived.Shelf.RegionOpen
import Derived.RangeFuncCalls
namespace Go.Proofs.YtnlhocbaighedaaGreatDoor
open Go.RowKit
set_option linter.unusedVariables false
theorem rising_false {l : List Int} {low : Int} {k : Nat} (hk : k < l.length) (h : Ix.okAt l low k = false) : Ix.rising l low = false := by
 unfold Ix.rising
 rw [List.all_eq_false]
 exact ⟨k, List.mem_range.2 hk, by rw [h]; simp⟩
theorem rising_true {l : List Int} {low : Int} (h : ∀ k, k < l.length → Ix.okAt l low k = true) : Ix.rising l low = true := by
 unfold Ix.rising
 rw [List.all_eq_true]
 exact fun k hk => h k (List.mem_range.1 hk)
set_option maxHeartbeats 1000000 in
theorem rising_ok (M : Nat → Prop) (v : Value) (l : List Int) (low : Int) (w : World) (h : SlR intC M w v l) : Calls Tryz.prog 53 #[v, .int .i64 low] w fun e w' => e = .returned (.bool (Ix.rising l low)) ∧ w = w' := by
 obtain ⟨A, c, rfl, hlc, hcm⟩ := h.form
 unfold maxLen at hcm
 go_enter Tryz.func53, Tryz.ntmps53
 go_wp2
 go_loop [9] (fun i => ∃ k : Nat, k ≤ l.length ∧ i = .int .i64 (k : Int) ∧ Hid (∀ j, j < k → Ix.okAt l low j = true)) (fun i => l.length - (intOf i).toNat)
 case atStart => exact ⟨0, Nat.zero_le _, rfl, Lib.hid fun j hj => absurd hj (by omega)⟩
 case round =>
  obtain ⟨k, hk, rfl, hok⟩ := hrel
  by_cases hlt : k < l.length
  ·obtain ⟨b, off, rfl, _, _, p0, _, _⟩ := h.intAt hlt
   have hki : Ix.okAt l low k = ((decide (low ≤ l[k]) && decide (l[k] ≤ 1000000)) && (decide (k = 0) || decide (l.getD (k - 1) 0 < l[k]))) := by unfold Ix.okAt; rw [Ix.getD_get hlt]
   have hfalse := fun hf => rising_false (l := l) (low := low) hlt hf
   have hnext : Ix.okAt l low k = true → Hid (∀ j, j < k + 1 → Ix.okAt l low j = true) := fun ht => Lib.hid fun j hj => by
    by_cases e : j = k
    ·rw [e]; exact ht
    ·exact hok.out j (by omega)
   have hil : (k : Int) < (l.length : Int) := by omega
   have hi0 : (0 : Int) ≤ (k : Int) := by omega
   have hiw : IntKind.i64.wrap (k : Int) = (k : Int) := IntWalk.i64_in _ (by omega)
   by_cases hk0 : k = 0
   ·subst hk0
    rw [decide_eq_true rfl, Bool.true_or, Bool.and_true] at hki
    obtain ⟨n, hn⟩ : ∃ n, l[0] = n := ⟨_, rfl⟩
    rw [hn] at hki p0
    rw [Nat.add_zero] at p0
    have Hki := Lib.hid hki; have Hf := Lib.hid hfalse; have Hn := Lib.hid hnext
    clear hki hfalse hnext hn
    by_cases h1 : n < low
    ·go_wp2
     go_ret
     exact ⟨ret_bool (Hf.out (by rw [Hki.out, decide_eq_false (by omega)]; rfl)).symm, rfl⟩
    ·by_cases h2 : 1000000 < n
     ·go_wp2
      go_ret
      exact ⟨ret_bool (Hf.out (by rw [Hki.out, decide_eq_false (show ¬ n ≤ 1000000 by omega), Bool.and_false])).symm, rfl⟩
     ·have hn1 := Hn.out (by rw [Hki.out, decide_eq_true (by omega), decide_eq_true (by omega)]; rfl)
      clear hok
      go_wp2
      go_round
      case rel => exact ⟨1, by omega, by go_num, hn1⟩
      case measure => simp [intOf]; omega
   ·obtain ⟨b2, off2, hA, _, _, q0, _, _⟩ := h.intAt (k := k - 1) (by omega)
    injection hA with hA
    injection hA with hA1 hA2
    subst hA1 hA2
    rw [decide_eq_false hk0, Bool.false_or, Ix.getD_get (show k - 1 < l.length by omega)] at hki
    obtain ⟨n, hn⟩ : ∃ n, l[k] = n := ⟨_, rfl⟩
    obtain ⟨m, hm⟩ : ∃ m, l[k - 1]'(by omega) = m := ⟨_, rfl⟩
    rw [hn, hm] at hki
    rw [hn] at p0
    rw [hm] at q0
    obtain ⟨k', rfl⟩ : ∃ k', k = k' + 1 := ⟨k - 1, by omega⟩
    rw [Nat.add_sub_cancel] at q0
    have Hki := Lib.hid hki; have Hf := Lib.hid hfalse; have Hn := Lib.hid hnext
    have hk1 : (0 : Int) < ((k' + 1 : Nat) : Int) := by omega
    have hw1 : ((k' + 1 : Nat) : Int) - 1 = (k' : Int) := by omega
    have hw2 : IntKind.i64.wrap (k' : Int) = (k' : Int) := IntWalk.i64_in _ (by omega)
    have hj1 : (k' : Int) < (l.length : Int) := by omega
    have hj0 : (0 : Int) ≤ (k' : Int) := by omega
    clear hki hfalse hnext hn hm
    by_cases h1 : n < low
    ·go_wp2
     go_ret
     exact ⟨ret_bool (Hf.out (by rw [Hki.out, decide_eq_false (by omega)]; rfl)).symm, rfl⟩
    ·by_cases h2 : 1000000 < n
     ·go_wp2
      go_ret
      exact ⟨ret_bool (Hf.out (by rw [Hki.out, decide_eq_false (show ¬ n ≤ 1000000 by omega), Bool.and_false]; rfl)).symm, rfl⟩
     ·by_cases h3 : n ≤ m
      ·go_wp2
       go_ret
       exact ⟨ret_bool (Hf.out (by rw [Hki.out, decide_eq_false (show ¬ m < n by omega), Bool.and_false])).symm, rfl⟩
      ·have hn1 := Hn.out (by rw [Hki.out, decide_eq_true (by omega), decide_eq_true (by omega), decide_eq_true (by omega)]; rfl)
       clear hok
       go_wp2
       go_round
       case rel => exact ⟨k' + 2, by omega, by go_num, hn1⟩
       case measure => simp [intOf]; omega
  ·obtain rfl : k = l.length := by omega
   have ht := rising_true (l := l) (low := low) hok.out
   have Ht := Lib.hid ht
   clear ht hok
   go_wp2
   go_ret
   exact ⟨ret_bool Ht.out.symm, rfl⟩
theorem bsearchI_ok (M : Nat → Prop) (v : Value) (l : List Int) (x : Int) (w : World) (h : SlR intC M w v l) (hs : l.Pairwise (· < ·)) (hln : l.length ≤ 1000000) : Calls Tryz.prog 103 #[v, .int .i64 x] w fun e w' =>
  e = .returned (.tuple #[.int .i64 (l.countP (· < x) : Nat), .bool (l.contains x)]) ∧ Below w.heap.size w w' := by
 obtain ⟨A, c, rfl, hlc, hcm⟩ := h.form
 have hn := h.len_le
 by_cases h0 : l.length = 0
 ·have : l = [] := List.eq_nil_of_length_eq_zero h0
  subst this
  refine (Tryz.slices_BinarySearch_int_empty A c x w).mono ?_
  rintro e w' ⟨rfl, rfl⟩
  exact ⟨rfl, Below.refl _ _⟩
 ·obtain ⟨b, off, rfl, _⟩ := h.intAt (k := 0) (by omega)
  have hb : l.length < 4611686018427387904 := by omega
  refine (Tryz.slices_BinarySearch_int b off l.length c l x w (Nat.le_refl _) hb (fun j hj => ?_) ?_).mono ?_
  ·obtain ⟨b2, off2, hA, _, _, q0, _, _⟩ := h.intAt hj
   injection hA with hA
   injection hA with hA1 hA2
   subst hA1 hA2
   rw [Ix.getD_get hj]
   exact q0
  ·rw [List.take_length]
   exact hs.imp fun h => by omega
  ·rintro e w' ⟨rfl, q, rfl⟩
   rw [List.take_length]
   exact ⟨rfl, below_drewN' _ _ _⟩
end Go.Proofs.YtnlhocbaighedaaGreatDoor
namespace Go.Proofs.YtnlhocbaighedaaGreatDoor

/-! ### Names -/
def lowc (c : UInt8) : Bool := (decide (97 ≤ c) && decide (c ≤ 122)) || (decide (48 ≤ c) && decide (c ≤ 57)) || c == 45 || c == 95 || c == 46
def letc (c : UInt8) : Bool := (decide (97 ≤ c) && decide (c ≤ 122)) || (decide (65 ≤ c) && decide (c ≤ 90)) || (decide (48 ≤ c) && decide (c ≤ 57))
def bigc (c : UInt8) : Bool := letc c || c == 45 || c == 95 || c == 46
def upc (c : UInt8) : Bool := decide (65 ≤ c) && decide (c ≤ 90)
def lowerC (c : UInt8) : UInt8 := if upc c then c + 32 else c
def lowerF (s : Str) : Str := s.map lowerC
def userF (s : Str) : Bool := s.all lowc && (decide (1 ≤ s.length) && decide (s.length ≤ 60))
def nameF (s : Str) : Bool := !s.isEmpty && decide (s.length ≤ 60) && s.all bigc
def smallF (s : Str) : Bool := nameF s && lowerF s == s
def hashF (s : Str) : Bool := match s with | [] => false | c :: t => c == 35 && userF t
def whoF (s : Str) : Bool := userF s || hashF s
/-- Without '#'. -/
def trimH (s : Str) : Str := match s with | [] => [] | c :: t => if c = 35 then t else c :: t
/-! ### The first that errs -/
def scanF (err : Nat → Option Int) (base : Int) (n : Nat) : Int × Int :=
 match (List.range n).find? fun i => (err i).isSome with
 | some i => ((err i).getD 0, base + i)
 | none => (0, 0)
/-! ### Groups and grants -/
abbrev Group := Str × List Str
abbrev Grant := Str × Bool × Int
def grpErr (l : List Group) (i : Nat) : Option Int :=
 match l[i]? with
 | none => none
 | some g => if !userF g.1 then some 10 else if (l.take i).any (fun x => x.1 == g.1) then some 7 else if 300 < g.2.length then some 2 else if g.2.any (fun s => !userF s) then some 10 else none
def groupsF (l : List Group) : Int × Int := if 60 < l.length then (2, -1) else scanF (grpErr l) 0 l.length
/-- Grant a comes after b. -/
def afterF (a b : Grant) : Bool := ltS b.1 a.1 || (a.1 == b.1 && a.2.1 && !b.2.1)
def orderF (a b : Grant) : Int := let c := Lib.compareBytes a.1 b.1; if c ≠ 0 ∨ a.2.1 = b.2.1 then c else if a.2.1 then 1 else -1
def grantErr (l : List Grant) (i : Nat) : Option Int :=
 match l[i]? with
 | none => none
 | some g => if !whoF g.1 then some 10 else if g.2.2 < 1 ∨ 63 < g.2.2 then some 3 else if i = 0 then none else match l[i - 1]? with
  | none => none
  | some p => if !afterF g p then some 19 else none
def grantsF (l : List Grant) : Int × Int := if 60 < l.length then (2, -2) else scanF (grantErr l) 100 l.length

/-! ### Rights -/
def anyoneF : Str := [97, 110, 121, 111, 110, 101]
def isHash (s : Str) : Bool := match s with | [] => false | c :: _ => c == 35
def memberF (gs : List Group) (name user : Str) : Bool := gs.any fun x => x.1 == name && x.2.any (· == user)
def appliesF (gs : List Group) (who user : Str) : Bool := if isHash who then memberF gs (trimH who) user else (trimH who == anyoneF || trimH who == user)
def concernsF (gs : List Group) (who user : Str) : Bool := gs.any (fun x => (35 :: x.1 == who) && x.2.any (· == user)) || (who == user || who == anyoneF)
/-- What is given, and what denied. -/
def givenF (gs : List Group) (user : Str) (l : List Grant) : Nat := l.foldl (fun n g => if appliesF gs g.1 user && !g.2.1 then n ||| g.2.2.toNat else n) 0
def deniedF (gs : List Group) (user : Str) (l : List Grant) : Nat := l.foldl (fun n g => if appliesF gs g.1 user && g.2.1 then n ||| g.2.2.toNat else n) 0
def andNot (a b : Nat) : Nat := a ^^^ (a &&& b)
def ofF (gs : List Group) (l : List Grant) (user : Str) : Nat := andNot (givenF gs user l) (deniedF gs user l)
def Small64 (l : List Grant) : Prop := ∀ g ∈ l, 0 ≤ g.2.2 ∧ g.2.2 ≤ 63
/-- The reference's sum. -/
def bitsF (f : Nat → Bool) : Nat → Nat
 | 0 => 0
 | i + 1 => bitsF f i + if f i then 2 ^ i else 0
def refBit (gs : List Group) (l : List Grant) (user : Str) (i : Nat) : Bool :=
 (l.any fun g => decide (g.2.2 / (2 ^ i : Int) % 2 = 1) && concernsF gs g.1 user && !g.2.1) && !(l.any fun g => decide (g.2.2 / (2 ^ i : Int) % 2 = 1) && concernsF gs g.1 user && g.2.1)
end Go.Proofs.YtnlhocbaighedaaGreatDoor
namespace Go.Proofs.YtnlhocbaighedaaGreatDoor
open Go.RowKit

theorem all_true (s : Str) (p : UInt8 → Bool) (h : ∀ (i : Nat) (hi : i < s.length), p s[i] = true) : s.all p = true := by
 rw [List.all_eq_true]
 intro x hx
 obtain ⟨i, hi, rfl⟩ := List.mem_iff_getElem.1 hx
 exact h i hi
theorem all_false (s : Str) (p : UInt8 → Bool) (i : Nat) (hi : i < s.length) (h : p s[i] = false) : s.all p = false := by
 rw [Bool.eq_false_iff]
 intro e
 rw [List.all_eq_true] at e
 have := e _ (List.getElem_mem hi)
 rw [h] at this
 cases this

set_option maxHeartbeats 400000 in
theorem allB_ok (f : FuncId) (p : UInt8 → Bool) (eg : ∀ args w, (callFunc f args).run Tryz.prog w = .ok (.enter f args) w) (hf : ∀ (c : UInt8) (w : World), Calls Tryz.prog f #[.int .u8 (c.toNat : Int)] w fun e w' => e = .returned (.bool (p c)) ∧ w = w')
  (s : Str) (hs : s.length ≤ maxLen) (w : World) :
  Calls Tryz.prog 98 #[.string (bs s), .func (.func f) #[] #[]] w fun e w' => e = .returned (.bool (s.all p)) ∧ w = w' := by
 unfold maxLen at hs
 have Hf := Lib.hid hf
 clear hf
 go_enter Tryz.func98, Tryz.ntmps98
 go_wp2
 go_loop [8] (fun i => ∃ k : Nat, k ≤ s.length ∧ i = .int .i64 k ∧ Hid (∀ (j : Nat) (hj : j < s.length), j < k → p s[j] = true)) (fun i => s.length - (intOf i).toNat)
 case atStart => exact ⟨0, Nat.zero_le _, rfl, Lib.hid fun j _ h => absurd h (by omega)⟩
 case round =>
  obtain ⟨k, hk, rfl, hpre⟩ := hrel
  by_cases hlt : k < s.length
  ·obtain ⟨t, ht⟩ : ∃ t, t = p s[k] := ⟨_, rfl⟩
   have hfc := (Hf.out s[k] w).mono fun e w' h => (⟨by rw [h.1, ht], h.2⟩ : e = .returned (.bool t) ∧ w = w')
   have Hfc := Lib.hid hfc
   have Ht := Lib.hid ht
   clear hfc ht
   go_wp2_with fail
   refine Hfc.out.mono ?_
   rintro e w1 ⟨rfl, rfl⟩
   cases t with
   | true =>
    go_wp2
    go_round
    case rel => exact ⟨k + 1, by omega, by go_num, Lib.hid fun j hj h => by
     by_cases e : j = k
     ·subst e; exact Ht.out.symm
     ·exact hpre.out j hj (by omega)⟩
    case measure => simp [intOf]; omega
   | false =>
    go_wp2
    go_ret
    exact ⟨by rw [all_false s p k hlt Ht.out.symm]; rfl, rfl⟩
  ·go_wp2
   go_ret
   exact ⟨by rw [all_true s p fun i hi => hpre.out i hi (by omega)]; rfl, rfl⟩

/-- The bytes up to k in lower case. -/
def lowTo (s : Str) (k : Nat) : Str := (s.take k).map lowerC ++ s.drop k
end Go.Proofs.YtnlhocbaighedaaGreatDoor
namespace Go.Proofs.YtnlhocbaighedaaGreatDoor
open Go.RowKit
/-- Between two rounds: what lay below n, and the blocks of S, lie as they lay, but for the iterator's own. -/
structure KeptX (X : Nat → Prop) (n : Nat) (S : Nat → Prop) (w w' : World) : Prop where
 os : w'.os = w.os
 tape : w'.tape = w.tape
 output : w'.output = w.output
 size : w.heap.size ≤ w'.heap.size
 same : ∀ b, b < w.heap.size → ¬ X b → (b < n ∨ S b) → w'.heap[b]? = w.heap[b]?
theorem KeptX.refl (X : Nat → Prop) (n : Nat) (S : Nat → Prop) (w : World) : KeptX X n S w w := ⟨rfl, rfl, rfl, Nat.le_refl _, fun _ _ _ _ => rfl⟩
theorem KeptX.trans {X : Nat → Prop} {n : Nat} {S : Nat → Prop} {a b c : World} (h : KeptX X n S a b) (k : KeptX X n S b c) : KeptX X n S a c :=
 ⟨k.os.trans h.os, k.tape.trans h.tape, k.output.trans h.output, Nat.le_trans h.size k.size, fun i hi hx hs => (k.same i (by have := h.size; omega) hx hs).trans (h.same i hi hx hs)⟩
theorem KeptX.of_below {X : Nat → Prop} {n : Nat} {S : Nat → Prop} {w w' : World} (h : Below w.heap.size w w') : KeptX X n S w w' := ⟨h.os, h.tape, h.output, h.size, fun b hb _ _ => h.block b hb⟩
theorem KeptX.putObj {X : Nat → Prop} {n : Nat} {S : Nat → Prop} {w : World} {r : Nat} {o : Obj} (hn : n ≤ r) (hS : ¬ S r) : KeptX X n S w (w.putObj r o) :=
 ⟨rfl, rfl, rfl, by simp, fun b _ _ hb => World.putObj_heap_other (fun e => by subst e; rcases hb with h | h; omega; exact hS h)⟩
theorem KeptX.setCell {X : Nat → Prop} {n : Nat} {S : Nat → Prop} {w : World} {p : Addr} (hx : X p.block) (v : Value) : KeptX X n S w (w.setCell p v) :=
 ⟨rfl, rfl, rfl, by simp, fun b _ hb _ => Below.heap_setCell _ _ _ _ (fun e => hb (e ▸ hx))⟩
/-- '.func gf' with lb behind it yields xs, in order; X: what it turns itself. -/
def IterX {α : Type} (P : Program) (gf : Nat) (lb : Array Value) (encs : α → Array Value) (xs : List α) (X : Nat → Prop) (FP : (Nat → Prop) → World → Prop) : Prop :=
 ∀ (l : Nat) (J Jx : Nat → (Nat → Prop) → World → Prop) (S : Nat → Prop) (W : World), FP S W → (∀ b, S b → b < W.heap.size) →
  (∀ k S W1 W2, J k S W1 → KeptX X W.heap.size S W1 W2 → J k S W2) → (∀ k S W1 W2, Jx k S W1 → KeptX X W.heap.size S W1 W2 → Jx k S W2) →
  (∀ k (h : k < xs.length) S W1, J k S W1 → W.heap.size ≤ W1.heap.size → YieldAt Fence.wide 0 P l (encs xs[k]) W1 fun e W' => ∃ S', Chg S S' W1 W' ∧
   ((e = .returned (.bool true) ∧ J (k + 1) S' W') ∨ (e = .returned (.bool false) ∧ Jx (k + 1) S' W'))) →
  J 0 S W →
  CallsIn Fence.wide 0 P gf (#[.func (.yield l) #[] #[]] ++ lb) W fun e W' => (∃ v, e = .returned v) ∧ ((∃ S', J xs.length S' W') ∨ ∃ k S', Jx k S' W')
theorem wp_rangeFunc_iterX {P : Program} {α : Type} {g : Operand} {ps : Array Tmp} {assign body : Code} {Q : Exit → Act → World → Prop} {a : Act} {w : World}
  {gf : Nat} {lb : Array Value} {encs : α → Array Value} {xs : List α} {FP : (Nat → Prop) → World → Prop} {X : Nat → Prop} (hX : ∀ b, X b → b < w.heap.size)
  (hit : IterX P gf lb encs xs X FP) (hg : a.eval g = .func (.func gf) #[] lb) (eg : ∀ args w, (callFunc gf args).run P w = .ok (.enter gf args) w)
  (hps : ∀ x, (encs x).size = ps.size)
  (I : Nat → (Nat → Prop) → World → Prop) (Ix : Code → Nat → (Nat → Prop) → World → Prop) (S : Nat → Prop)
  (hS : ∀ b, S b → b < w.heap.size)
  (hFP : ∀ S' W, (∀ b, S' b → S b ∨ w.heap.size ≤ b) → Below w.heap.size w W → FP S' W)
  (hI : ∀ k S W W', I k S W → KeptX X w.heap.size S W W' → I k S W') (hIx : ∀ c k S W W', Ix c k S W → KeptX X w.heap.size S W W' → Ix c k S W')
  (h0 : I 0 S w) (a₁ : α → Act)
  (hassign : ∀ (l : Nat) (x : α) (W : World) (K : Act → World → Prop), K (a₁ x) W →
   assign.wpIn (Fence.wide.inRound l) 0 P (Exit.then K (fun _ _ _ => False)) { tmps := (ps.zip (encs x)).foldl (fun t (p, v) => t.setIfInBounds p v) a.tmps, defers := [] } W)
  (hbody : ∀ (l k : Nat) (h : k < xs.length) (S : Nat → Prop) (W : World), I k S W → (∀ b, S b → b < W.heap.size) → w.heap.size ≤ W.heap.size →
   body.wpIn (Fence.wide.inRound l) 0 P (itPost I Ix k S W) (a₁ xs[k]) W)
  (hdone : ∀ (D : Nat) (S : Nat → Prop) (W : World), w.heap.size ≤ D → ¬ S D → I xs.length S W → W.heap[D]? = some (.deferred (some [])) → Q .normal { a with defers := { target := .collected D, args := #[] } :: a.defers } W)
  (hstop : ∀ (D : Nat) (c : Code) (k : Nat) (S : Nat → Prop) (W : World), w.heap.size ≤ D → ¬ S D → Ix c k S W → W.heap[D]? = some (.deferred (some [])) → c.wp P Q { a with defers := { target := .collected D, args := #[] } :: a.defers } W) :
  (Code.rangeFunc g ps assign body).wp P Q a w := by
 refine (wpIn_wide (n := 0)).1 (wpIn_rangeFunc ?_)
 intro fn hfn
 obtain ⟨rec, hrec⟩ : ∃ rec : LoopState → Option Code → Loop, rec = fun st pe => { state := st, pending := pe, fn, tmps := a.tmps, params := ps, assign, body, defers := w.heap.size } := ⟨_, rfl⟩
 obtain ⟨W1, hW1⟩ : ∃ W1, (w.alloc (.deferred (some []))).alloc (.loop (rec .ready none)) = W1 := ⟨_, rfl⟩
 have hs1 : W1.heap.size = w.heap.size + 2 := by rw [← hW1]; simp
 have hL1 : W1.heap[w.heap.size + 1]? = some (.loop (rec .ready none)) := by
  rw [← hW1]; have := World.alloc_heap_new (w.alloc (.deferred (some []))) (.loop (rec .ready none)); rwa [World.size_alloc] at this
 have hK1 : W1.heap[w.heap.size]? = some (.deferred (some [])) := by
  rw [← hW1]; exact (Below.heap_alloc _ _ _ (by simp)).trans (World.alloc_heap_new w _)
 have hb1 : Below w.heap.size w W1 := by
  rw [← hW1]; exact ((Below.refl _ w).alloc (Nat.le_refl _) _).alloc (by simp) _
 -- the iterator's invariant: the caller's, and the two blocks of book-keeping
 let bk (T S : Nat → Prop) : Prop := (∀ b, T b ↔ S b ∨ b = w.heap.size ∨ b = w.heap.size + 1) ∧ ¬ S w.heap.size ∧ ¬ S (w.heap.size + 1)
 let J : Nat → (Nat → Prop) → World → Prop := fun k T W => ∃ S, bk T S ∧ I k S W ∧ (∀ b, S b → b < W.heap.size) ∧ W.heap[w.heap.size + 1]? = some (.loop (rec .ready none)) ∧ W.heap[w.heap.size]? = some (.deferred (some []))
 let Jx : Nat → (Nat → Prop) → World → Prop := fun k T W => ∃ S c, bk T S ∧ Ix c k S W ∧ W.heap[w.heap.size + 1]? = some (.loop (rec .done (some c))) ∧ W.heap[w.heap.size]? = some (.deferred (some []))
 have keptS : ∀ {T S : Nat → Prop} {A B : World}, bk T S → KeptX X W1.heap.size T A B → KeptX X w.heap.size S A B := fun hb hk =>
  ⟨hk.os, hk.tape, hk.output, hk.size, fun b hlt hx hor => hk.same b hlt hx (hor.elim (fun h => .inl (by omega)) (fun h => .inr ((hb.1 b).2 (.inl h))))⟩
 refine ⟨w.heap.size + 1, [{ target := .collected w.heap.size, args := #[] }], W1, { target := .fn (.func gf) lb, args := #[.func (.yield (w.heap.size + 1)) #[] #[]] }, W1, gf,
  #[.func (.yield (w.heap.size + 1)) #[] #[]] ++ lb, W1, ?_, ?_, ?_, ?_, fun h => by simp [Fence.wide] at h, ?_⟩
 ·rw [← hW1, hrec]; exact run_enterLoop_outer _ _ _ _ _
 ·simp only [resolve, hg]
  simp [go_sem]
 ·intro f' _; trivial
 ·simp [invoke, go_sem, eg]
 ·refine (hit (w.heap.size + 1) J Jx (fun b => S b ∨ b = w.heap.size ∨ b = w.heap.size + 1) W1
   (hFP _ _ (fun b hb => hb.elim .inl fun h => .inr (by omega)) hb1) (fun b hb => by rcases hb with h | h | h; have := hS b h; omega; omega; omega) ?_ ?_ ?_ ?_).mono ?_
  ·rintro k T A B ⟨S', hbk, hi, hlt, hl, hk⟩ hkept
   exact ⟨S', hbk, hI _ _ _ _ hi (keptS hbk hkept), fun b hb => Nat.lt_of_lt_of_le (hlt b hb) hkept.size,
    (hkept.same _ (Array.getElem?_eq_some_iff.1 hl).1 (fun h => by have := hX _ h; omega) (.inl (by omega))).trans hl, (hkept.same _ (Array.getElem?_eq_some_iff.1 hk).1 (fun h => by have := hX _ h; omega) (.inl (by omega))).trans hk⟩
  ·rintro k T A B ⟨S', c, hbk, hi, hl, hk⟩ hkept
   exact ⟨S', c, hbk, hIx _ _ _ _ _ hi (keptS hbk hkept),
    (hkept.same _ (Array.getElem?_eq_some_iff.1 hl).1 (fun h => by have := hX _ h; omega) (.inl (by omega))).trans hl, (hkept.same _ (Array.getElem?_eq_some_iff.1 hk).1 (fun h => by have := hX _ h; omega) (.inl (by omega))).trans hk⟩
  ·-- one round
   rintro k hk T W ⟨S', hbk, hi, hlt, hl, hd⟩ hsz
   have hll : w.heap.size + 1 < W.heap.size := (Array.getElem?_eq_some_iff.1 hl).1
   have hy := run_yield (P := P) (args := encs xs[k]) hl (by rw [hrec]; exact hps _)
   rw [hrec] at hy
   refine ⟨fn, _, assign, body, hy, roundIn_of_wpIn hfn (hassign _ xs[k] W _ ⟨_, run_beginRound hl (by rw [hrec]), ?_⟩)⟩
   obtain ⟨W2, hW2⟩ : ∃ W2, W.putObj (w.heap.size + 1) (.loop { rec .ready none with state := .busy }) = W2 := ⟨_, rfl⟩
   have hl2 : W2.heap[w.heap.size + 1]? = some (.loop { rec .ready none with state := .busy }) := by rw [← hW2]; exact World.putObj_heap_same hll
   have hd2 : W2.heap[w.heap.size]? = some (.deferred (some [])) := by rw [← hW2]; exact (World.putObj_heap_other (by omega)).trans hd
   have hs2 : W2.heap.size = W.heap.size := by rw [← hW2]; simp
   have hi2 : I k S' W2 := by rw [← hW2]; exact hI _ _ _ _ hi (KeptX.putObj (by omega) hbk.2.2)
   have hsame2 : ∀ b, b ≠ w.heap.size + 1 → W2.heap[b]? = W.heap[b]? := fun b hb => by rw [← hW2]; exact World.putObj_heap_other hb
   have ho2 : W2.os = W.os ∧ W2.tape = W.tape ∧ W2.output = W.output := by rw [← hW2]; exact ⟨rfl, rfl, rfl⟩
   rw [hW2]
   refine wpIn_mono (hbody _ k hk S' W2 hi2 (fun b hb => by rw [hs2]; exact hlt b hb) (by omega)) ?_
   have fin : ∀ (jump : Option Code) (S'' : Nat → Prop) (W3 : World), Chg S' S'' W2 W3 →
     (Instr.endRound (w.heap.size + 1) jump).run P W3 = .ok (.bool jump.isNone) (W3.putObj (w.heap.size + 1) (.loop (rec (if jump.isNone then .ready else .done) jump))) ∧
     Chg T (fun b => S'' b ∨ b = w.heap.size ∨ b = w.heap.size + 1) W (W3.putObj (w.heap.size + 1) (.loop (rec (if jump.isNone then .ready else .done) jump))) ∧
     bk (fun b => S'' b ∨ b = w.heap.size ∨ b = w.heap.size + 1) S'' ∧
     KeptX X w.heap.size S'' W3 (W3.putObj (w.heap.size + 1) (.loop (rec (if jump.isNone then .ready else .done) jump))) ∧
     (W3.putObj (w.heap.size + 1) (.loop (rec (if jump.isNone then .ready else .done) jump))).heap[w.heap.size + 1]? = some (.loop (rec (if jump.isNone then .ready else .done) jump)) ∧
     (W3.putObj (w.heap.size + 1) (.loop (rec (if jump.isNone then .ready else .done) jump))).heap[w.heap.size]? = some (.deferred (some [])) := fun jump S'' W3 hc => by
    have hl3 : W3.heap[w.heap.size + 1]? = some (.loop { rec .ready none with state := .busy }) := (hc.same _ (by omega) hbk.2.2).trans hl2
    have hd3 : W3.heap[w.heap.size]? = some (.deferred (some [])) := (hc.same _ (by omega) hbk.2.1).trans hd2
    have hsz3 := hc.size
    have hn1 : ¬ S'' w.heap.size := fun h => (hc.own _ h).2.elim hbk.2.1 (by omega)
    have hn2 : ¬ S'' (w.heap.size + 1) := fun h => (hc.own _ h).2.elim hbk.2.2 (by omega)
    have hr := run_endRound (P := P) jump hl3
    rw [hrec] at hr ⊢
    refine ⟨hr, ⟨hc.os.trans ho2.1, hc.tape.trans ho2.2.1, hc.output.trans ho2.2.2, by rw [World.putObj_size]; omega, fun b hb hT => ?_, fun b hb => ?_⟩, ⟨fun b => Iff.rfl, hn1, hn2⟩, KeptX.putObj (by omega) hn2, World.putObj_heap_same (by omega), (World.putObj_heap_other (by omega)).trans hd3⟩
    ·have hb1 : b ≠ w.heap.size + 1 := fun e => hT ((hbk.1 b).2 (.inr (.inr e)))
     exact (World.putObj_heap_other hb1).trans ((hc.same b (by omega) (fun h => hT ((hbk.1 b).2 (.inl h)))).trans (hsame2 b hb1))
    ·rw [World.putObj_size]
     rcases hb with h | h | h
     ·obtain ⟨h1, h2⟩ := hc.own b h
      exact ⟨h1, h2.elim (fun h => .inl ((hbk.1 b).2 (.inl h))) (fun h => .inr (by omega))⟩
     ·exact ⟨by omega, .inl ((hbk.1 b).2 (.inr (.inl h)))⟩
     ·exact ⟨by omega, .inl ((hbk.1 b).2 (.inr (.inr h)))⟩
   rintro e a3 W3 hp
   cases e with
   | normal =>
    obtain ⟨S'', hc, hi3⟩ := hp
    obtain ⟨hr, hc4, hbk4, hk4, hl4, hd4⟩ := fin none S'' W3 hc
    exact ⟨_, _, hr, _, hc4, .inl ⟨rfl, S'', hbk4, hI _ _ _ _ hi3 hk4, fun b hb => by rw [World.putObj_size]; exact (hc.own b hb).1, hl4, hd4⟩⟩
   | ret =>
    obtain ⟨S'', hc, hi3⟩ := hp
    obtain ⟨hr, hc4, hbk4, hk4, hl4, hd4⟩ := fin (some .ret) S'' W3 hc
    exact ⟨_, _, hr, _, hc4, .inr ⟨rfl, S'', .ret, hbk4, hIx _ _ _ _ _ hi3 hk4, hl4, hd4⟩⟩
   | exit id =>
    obtain ⟨S'', hc, hi3⟩ := hp
    obtain ⟨hr, hc4, hbk4, hk4, hl4, hd4⟩ := fin (some (.exit id)) S'' W3 hc
    exact ⟨_, _, hr, _, hc4, .inr ⟨rfl, S'', .exit id, hbk4, hIx _ _ _ _ _ hi3 hk4, hl4, hd4⟩⟩
   | goto t => exact hp.elim
   | panic ch => exact hp.elim
   | outgrown => exact hp.elim
  ·exact ⟨S, ⟨fun b => Iff.rfl, fun h => by have := hS _ h; omega, fun h => by have := hS _ h; omega⟩, hI _ _ _ _ h0 (KeptX.of_below hb1), fun b hb => by have := hS b hb; omega, hL1, hK1⟩
  ·-- behind the iterator
   rintro e W2 ⟨⟨v, rfl⟩, (⟨T, S', hbk, hi, _, hl, hd⟩ | ⟨k, T, S', c, hbk, hi, hl, hd⟩)⟩
   ·refine ⟨none, _, by have := run_endLoop (P := P) hl (by rw [hrec]; simp); rw [hrec] at this; exact this, hdone _ S' _ (Nat.le_refl _) hbk.2.1 (hI _ _ _ _ hi (KeptX.putObj (by omega) hbk.2.2)) ((World.putObj_heap_other (by omega)).trans hd)⟩
   ·exact ⟨some c, _, by have := run_endLoop (P := P) hl (by rw [hrec]; simp); rw [hrec] at this; exact this,
     (wpIn_wide (n := 0)).2 (hstop _ c k S' _ (Nat.le_refl _) hbk.2.1 (hIx _ _ _ _ _ hi (KeptX.putObj (by omega) hbk.2.2)) ((World.putObj_heap_other (by omega)).trans hd))⟩

end Go.Proofs.YtnlhocbaighedaaGreatDoor
namespace Go.Proofs.YtnlhocbaighedaaGreatDoor
open Go.RowKit
end Go.Proofs.YtnlhocbaighedaaGreatDoor
namespace Go.Proofs.YtnlhocbaighedaaGreatDoor
open Go.RowKit
set_option linter.unusedVariables false

end Go.Proofs.YtnlhocbaighedaaGreatDoor
namespace Go.Proofs.YtnlhocbaighedaaGreatDoor
open Go.RowKit
set_option linter.unusedVariables false

end Go.Proofs.YtnlhocbaighedaaGreatDoor
namespace Go.Proofs.YtnlhocbaighedaaGreatDoor
open Go.RowKit
set_option linter.unusedVariables false
/-- one box, two boxes: under names -/
theorem box1 (w : World) (cs : Array Value) (t : TypeId) : ∃ W g, w.alloc (.cells cs t) = W ∧ w.heap.size = g ∧ W.heap.size = g + 1 ∧ Blk W g t cs ∧ Below w.heap.size w W := ⟨_, _, rfl, rfl, by simp, Blk.new w t _, (Below.refl _ _).alloc (Nat.le_refl _) _⟩
theorem box2 (w : World) (cs : Array Value) (t : TypeId) (ds : Array Value) (t' : TypeId) : ∃ W g h, (w.alloc (.cells cs t)).alloc (.cells ds t') = W ∧ w.heap.size = g ∧ g + 1 = h ∧ W.heap.size = h + 1 ∧ Blk W g t cs ∧ Blk W h t' ds ∧ Below w.heap.size w W := by
 refine ⟨_, _, _, rfl, rfl, rfl, by simp, (Blk.new w t cs).alloc _, ?_, ((Below.refl _ _).alloc (Nat.le_refl _) _).alloc (by simp) _⟩
 have := Blk.new (w.alloc (.cells cs t)) t' ds
 rw [World.size_alloc] at this
 exact this
theorem put2 {w : World} {g7 : Nat} {t' : TypeId} {u v : Value} (h7 : Blk w g7 t' #[u, v]) (c d : Value) {W : World} (hW : (w.setCell ⟨g7, 0, none⟩ c).setCell ⟨g7, 1, none⟩ d = W) : Blk W g7 t' #[c, d] ∧ ∀ b, b ≠ g7 → W.heap[b]? = w.heap[b]? := by
 subst hW
 exact ⟨(h7.set_ 0 c).set_ 1 d, fun b h2 => by rw [heap_set_ne _ _ _ h2, heap_set_ne _ _ _ h2]⟩
theorem below_put2 {w w1 W : World} {g7 : Nat} (hb : Below w.heap.size w w1) (h7 : w.heap.size ≤ g7) (c d : Value) (hW : (w1.setCell ⟨g7, 0, none⟩ c).setCell ⟨g7, 1, none⟩ d = W) : Below w.heap.size w W := by
 subst hW
 exact (hb.setCell (p := ⟨g7, 0, none⟩) h7 _).setCell (p := ⟨g7, 1, none⟩) h7 _
end Go.Proofs.YtnlhocbaighedaaGreatDoor

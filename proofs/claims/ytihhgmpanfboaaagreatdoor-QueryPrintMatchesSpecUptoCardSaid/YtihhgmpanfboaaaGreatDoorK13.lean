/-
  Contracts and plain facts, one after another: stem: a rule applied; stem: a step (printed by gen/smstep.py); Names, groups, grants and rights: plain Lean; Names: package basic and its reference, function by function; stem.Of; The reference's ends, Letters; The reference's step (printed by gen/smref.py); The reference's Stem; The reference's Words and Stems.
-/
import Derived.Test.YtihhgmpanfboaaaGreatDoorSmPure
import Derived.Test.YtihhgmpanfboaaaGreatDoorShelf
import Derived.Test.YtihhgmpanfboaaaGreatDoorK6
import Derived.Test.YtihhgmpanfboaaaGreatDoorK1
import Derived.Test.YtihhgmpanfboaaaGreatDoorK3
import Derived.Test.YtihhgmpanfboaaaGreatDoorK8
import Derived.Outline
import Derived.Shelf.RegionOpen
import Derived.RangeFuncCalls
namespace Go.Proofs.YtihhgmpanfboaaaGreatDoor
open Go.RowKit
set_option linter.unusedVariables false

end Go.Proofs.YtihhgmpanfboaaaGreatDoor
namespace Go.Proofs.YtihhgmpanfboaaaGreatDoor
open Go.RowKit
set_option linter.unusedVariables false
theorem lit_els (M : Nat → Prop) (w : World) : ∀ l : List Str, (∀ s ∈ l, s.length ≤ maxLen) → Els strC M w (l.map fun s => .string (bs s)) l
  | [], _ => Els.nil _ _ _
  | s :: l, h => (Els.single (C := strC) (cs := [.string (bs s)]) ⟨rfl, h s (by simp)⟩).append (lit_els M w l fun x hx => h x (by simp [hx]))
theorem lit_row (w : World) (l : List Str) (h : ∀ s ∈ l, s.length ≤ 1000) (hn : l.length ≤ 1000) : SlR strC M0 (w.alloc (.cells (l.map fun s => Value.string (bs s)).toArray 9)) (.slice (some ⟨w.heap.size, 0, none⟩) l.length l.length) l :=
  (Own.built (M := M0) (B := w.heap.size) 9 (lit_els _ w l fun s hs => by have := h s hs; unfold maxLen; omega) (Nat.le_refl _) (by unfold maxLen; omega)).read0
theorem Sm.twice_of {s : List UInt8} {x y : UInt8} (h4 : 4 ≤ s.length) (hx : s[s.length - 1] = x) (hy : s[s.length - 2] = y) : Sm.twice s = ((x == y) && !(Sm.vowels.any (· == x))) := by
  have e1 : s[s.length - 1]? = some x := by rw [List.getElem?_eq_getElem (by omega), hx]
  have e2 : s[s.length - 2]? = some y := by rw [List.getElem?_eq_getElem (by omega), hy]
  simp [Sm.twice, e1, e2, h4, BEq.comm]
theorem Sm.index_hit {x : UInt8} (h : Sm.vowels.any (· == x) = true) : decide (Lib.indexByte [97, 101, 105, 111, 117, 108, 115, 122] x < 0) = false := by
  simp only [Sm.vowels, List.any_cons, List.any_nil, Bool.or_eq_true, beq_iff_eq, Bool.or_false] at h
  rcases h with h | h | h | h | h | h | h | h <;> (subst h; rfl)
theorem Sm.index_miss {x : UInt8} (h : Sm.vowels.any (· == x) = false) : decide (Lib.indexByte [97, 101, 105, 111, 117, 108, 115, 122] x < 0) = true := by
  simp only [Sm.vowels, List.any_cons, List.any_nil, Bool.or_eq_false_iff, beq_eq_false_iff_ne, Bool.or_false] at h
  simp [Lib.indexByte, h, Ne.symm]
end Go.Proofs.YtihhgmpanfboaaaGreatDoor
namespace Go.Proofs.YtihhgmpanfboaaaGreatDoor

/-! ### Names -/
def lowc (c : UInt8) : Bool := (decide (97 ≤ c) && decide (c ≤ 122)) || (decide (48 ≤ c) && decide (c ≤ 57)) || c == 45 || c == 95 || c == 46
def letc (c : UInt8) : Bool := (decide (97 ≤ c) && decide (c ≤ 122)) || (decide (65 ≤ c) && decide (c ≤ 90)) || (decide (48 ≤ c) && decide (c ≤ 57))
def bigc (c : UInt8) : Bool := letc c || c == 45 || c == 95 || c == 46
def upc (c : UInt8) : Bool := decide (65 ≤ c) && decide (c ≤ 90)
def lowerC (c : UInt8) : UInt8 := if upc c then c + 32 else c
def lowerF (s : Str) : Str := s.map lowerC
def userF (s : Str) : Bool := s.all lowc && (decide (1 ≤ s.length) && decide (s.length ≤ 60))
def nameF (s : Str) : Bool := !s.isEmpty && decide (s.length ≤ 60) && s.all bigc
def smallF (s : Str) : Bool := nameF s && lowerF s == s
theorem lowerC_ne (c : UInt8) (h : upc c = true) : lowerC c ≠ c := by
  rw [lowerC, if_pos h]
  intro e
  have := congrArg UInt8.toNat e
  simp [upc, UInt8.le_iff_toNat_le] at h
  rw [UInt8.toNat_add] at this
  have := c.toNat_lt
  simp at *
theorem low_big (c : UInt8) : lowc c = (bigc c && !upc c) := by
  have hc := c.toNat_lt
  rw [Bool.eq_iff_iff]
  simp only [lowc, bigc, letc, upc, Bool.or_eq_true, Bool.and_eq_true, decide_eq_true_eq, beq_iff_eq, Bool.not_eq_true', Bool.and_eq_false_iff, decide_eq_false_iff_not, UInt8.le_iff_toNat_le, ← UInt8.toNat_inj]
  simp only [UInt8.reduceToNat]
  omega
theorem lower_same (s : Str) : (lowerF s == s) = s.all fun c => !upc c := by
  induction s with
  | nil => rfl
  | cons c s ih =>
    have e : (lowerF (c :: s) == c :: s) = ((lowerC c == c) && (lowerF s == s)) := rfl
    rw [e, ih, List.all_cons]
    congr 1
    cases h : upc c with
    | true => simpa using lowerC_ne c h
    | false => simp [lowerC, h]
theorem small_user (s : Str) : smallF s = userF s := by
  have h : s.all lowc = (s.all bigc && s.all fun c => !upc c) := by
    induction s with
    | nil => rfl
    | cons c s ih => simp only [List.all_cons, ih, low_big]; cases bigc c <;> cases upc c <;> simp
  rw [smallF, nameF, lower_same, userF, h]
  cases s with
  | nil => rfl
  | cons c s => simp [Bool.and_comm, Bool.and_left_comm, Bool.and_assoc]
def hashF (s : Str) : Bool := match s with | [] => false | c :: t => c == 35 && userF t
def whoF (s : Str) : Bool := userF s || hashF s
/-- Without '#'. -/
def trimH (s : Str) : Str := match s with | [] => [] | c :: t => if c = 35 then t else c :: t
theorem who_trim (s : Str) : smallF (trimH s) = whoF s := by
  rw [small_user]
  cases s with
  | nil => rfl
  | cons c t =>
    by_cases h : c = 35
    · subst h
      simp [trimH, whoF, hashF, userF, lowc]
    · simp [trimH, whoF, hashF, h]

/-! ### The first that errs -/
def scanF (err : Nat → Option Int) (base : Int) (n : Nat) : Int × Int :=
  match (List.range n).find? fun i => (err i).isSome with
  | some i => ((err i).getD 0, base + i)
  | none => (0, 0)
theorem scan_hit {err : Nat → Option Int} {base : Int} {n i : Nat} {c : Int} (hi : i < n) (h0 : ∀ j, j < i → err j = none) (h : err i = some c) : scanF err base n = (c, base + i) := by
  have : (List.range n).find? (fun i => (err i).isSome) = some i := by
    rw [List.find?_range_eq_some]
    exact ⟨by simp [h], by simpa using hi, fun j hj => by simp [h0 j hj]⟩
  rw [scanF, this]
  simp [h]
theorem scan_none {err : Nat → Option Int} {base : Int} {n : Nat} (h0 : ∀ j, j < n → err j = none) : scanF err base n = (0, 0) := by
  have : (List.range n).find? (fun i => (err i).isSome) = none := by
    rw [List.find?_eq_none]
    intro j hj
    simp [h0 j (by simpa using hj)]
  rw [scanF, this]
theorem scan_code {err : Nat → Option Int} {base : Int} {n : Nat} (hc : ∀ i c, err i = some c → c ≠ 0) (h : (scanF err base n).1 = 0) : ∀ j, j < n → err j = none := by
  unfold scanF at h
  split at h
  · rename_i i hi
    exfalso
    have := List.find?_some hi
    cases he : err i with
    | none => simp [he] at this
    | some c => rw [he] at h; exact hc i c he h
  · rename_i hn
    intro j hj
    rw [List.find?_eq_none] at hn
    have := hn j (by simpa using hj)
    simpa using this

/-! ### Groups and grants -/
abbrev Group := Str × List Str
abbrev Grant := Str × Bool × Int
def grpErr (l : List Group) (i : Nat) : Option Int :=
  match l[i]? with
  | none => none
  | some g => if !userF g.1 then some 10 else if (l.take i).any (fun x => x.1 == g.1) then some 7 else if 300 < g.2.length then some 2 else if g.2.any (fun s => !userF s) then some 10 else none
def groupsF (l : List Group) : Int × Int := if 60 < l.length then (2, -1) else scanF (grpErr l) 0 l.length
/-- Grant a comes after b. -/
def afterF (a b : Grant) : Bool := ltS b.1 a.1 || (a.1 == b.1 && a.2.1 && !b.2.1)
def orderF (a b : Grant) : Int := let c := Lib.compareBytes a.1 b.1; if c ≠ 0 ∨ a.2.1 = b.2.1 then c else if a.2.1 then 1 else -1
def grantErr (l : List Grant) (i : Nat) : Option Int :=
  match l[i]? with
  | none => none
  | some g => if !whoF g.1 then some 10 else if g.2.2 < 1 ∨ 63 < g.2.2 then some 3 else if i = 0 then none else match l[i - 1]? with
    | none => none
    | some p => if !afterF g p then some 19 else none
def grantsF (l : List Grant) : Int × Int := if 60 < l.length then (2, -2) else scanF (grantErr l) 100 l.length

theorem order_after (a b : Grant) : 0 ≤ orderF a b ↔ afterF b a = false := by
  unfold orderF afterF
  rw [cmp_eqS]
  by_cases h1 : ltS a.1 b.1
  · simp [h1]
  · by_cases h2 : a.1 = b.1
    · have h1' : ltS a.1 a.1 = false := ltS_irrefl _
      simp only [← h2, h1', Bool.false_eq_true, if_false, if_true, ne_eq, not_true, false_or]
      cases a.2.1 <;> cases b.2.1 <;> simp
    · have h3 : ¬ b.1 = a.1 := fun e => h2 e.symm
      simp [h1, h2, h3]
theorem order_zero (a b : Grant) : orderF a b = 0 ↔ a.1 = b.1 ∧ a.2.1 = b.2.1 := by
  unfold orderF
  rw [cmp_eqS]
  by_cases h1 : ltS a.1 b.1
  · have := ltS_ne h1; simp [h1, this]
  · by_cases h2 : a.1 = b.1
    · simp only [h2, ltS_irrefl]
      cases a.2.1 <;> cases b.2.1 <;> simp
    · simp [h1, h2]
theorem order_neg (a b : Grant) : orderF a b < 0 ↔ afterF b a = true := by
  have := order_after a b
  cases h : afterF b a with
  | true => simp [h] at this; simp; omega
  | false => simp [h] at this; simp; omega
theorem after_irrefl (a : Grant) : afterF a a = false := by simp [afterF, ltS_irrefl]
theorem after_trans {a b c : Grant} (h : afterF a b = true) (k : afterF b c = true) : afterF a c = true := by
  simp only [afterF, Bool.or_eq_true, Bool.and_eq_true, beq_iff_eq, Bool.not_eq_true'] at h k ⊢
  rcases h with h | ⟨⟨h1, h2⟩, h3⟩
  · rcases k with k | ⟨⟨k1, k2⟩, k3⟩
    · exact .inl (ltS_trans k h)
    · exact .inl (k1 ▸ h)
  · rcases k with k | ⟨⟨k1, k2⟩, k3⟩
    · exact .inl (h1 ▸ k)
    · rw [h3] at k2; cases k2
theorem after_total (a b : Grant) : afterF a b = true ∨ (a.1 = b.1 ∧ a.2.1 = b.2.1) ∨ afterF b a = true := by
  simp only [afterF, Bool.or_eq_true, Bool.and_eq_true, beq_iff_eq, Bool.not_eq_true']
  rcases ltS_total a.1 b.1 with h | h | h
  · exact .inr (.inr (.inl h))
  · cases ha : a.2.1 <;> cases hb : b.2.1
    · exact .inr (.inl ⟨h, rfl⟩)
    · exact .inr (.inr (.inr ⟨⟨h.symm, rfl⟩, rfl⟩))
    · exact .inl (.inr ⟨⟨h, rfl⟩, rfl⟩)
    · exact .inr (.inl ⟨h, rfl⟩)
  · exact .inl (.inl h)
theorem after_asymm {a b : Grant} (h : afterF a b = true) : afterF b a = false := by
  cases k : afterF b a with
  | false => rfl
  | true => have := after_trans h k; rw [after_irrefl] at this; cases this

/-! ### Rights -/
def anyoneF : Str := [97, 110, 121, 111, 110, 101]
def isHash (s : Str) : Bool := match s with | [] => false | c :: _ => c == 35
def memberF (gs : List Group) (name user : Str) : Bool := gs.any fun x => x.1 == name && x.2.any (· == user)
def appliesF (gs : List Group) (who user : Str) : Bool := if isHash who then memberF gs (trimH who) user else (trimH who == anyoneF || trimH who == user)
def concernsF (gs : List Group) (who user : Str) : Bool := gs.any (fun x => (35 :: x.1 == who) && x.2.any (· == user)) || (who == user || who == anyoneF)
theorem user_nohash {u : Str} (h : userF u = true) : isHash u = false := by
  cases u with
  | nil => rfl
  | cons c t =>
    cases hc : (c == 35) with
    | false => simpa [isHash] using hc
    | true =>
      have : c = 35 := by simpa using hc
      subst this
      simp [userF, lowc] at h
theorem applies_concerns (gs : List Group) (who user : Str) (hu : userF user = true) : appliesF gs who user = concernsF gs who user := by
  have hn := user_nohash hu
  cases who with
  | nil =>
    simp [appliesF, concernsF, isHash, trimH, Bool.or_comm]
  | cons c t =>
    by_cases hc : c = 35
    · subst hc
      have h1 : ((35 :: t : Str) == user) = false := by
        cases user with
        | nil => rfl
        | cons d s => have : d ≠ 35 := by simpa [isHash] using hn
                      simp [Ne.symm this]
      have h2 : ((35 :: t : Str) == anyoneF) = false := by simp [anyoneF]
      simp only [appliesF, concernsF, isHash, trimH, beq_self_eq_true, if_true, h1, h2, Bool.or_false, memberF]
      congr 1
    · have h1 : isHash (c :: t) = false := by simpa [isHash] using hc
      have h2 : gs.any (fun x => (35 :: x.1 == c :: t) && x.2.any (· == user)) = false := by
        rw [List.any_eq_false]
        intro x _
        have : ((35 :: x.1 : Str) == c :: t) = false := by simp [Ne.symm hc]
        simp [this]
      have h3 : trimH (c :: t) = c :: t := by simp [trimH, hc]
      rw [appliesF, concernsF, h1, h2, h3]
      simp [Bool.or_comm]
/-- What is given, and what denied. -/
def givenF (gs : List Group) (user : Str) (l : List Grant) : Nat := l.foldl (fun n g => if appliesF gs g.1 user && !g.2.1 then n ||| g.2.2.toNat else n) 0
def deniedF (gs : List Group) (user : Str) (l : List Grant) : Nat := l.foldl (fun n g => if appliesF gs g.1 user && g.2.1 then n ||| g.2.2.toNat else n) 0
def andNot (a b : Nat) : Nat := a ^^^ (a &&& b)
def ofF (gs : List Group) (l : List Grant) (user : Str) : Nat := andNot (givenF gs user l) (deniedF gs user l)
theorem testBit_andNot (a b i : Nat) : (andNot a b).testBit i = (a.testBit i && !b.testBit i) := by
  rw [andNot, Nat.testBit_xor, Nat.testBit_and]
  cases a.testBit i <;> cases b.testBit i <;> rfl
theorem foldl_or_bit (p : Grant → Bool) (i : Nat) : ∀ (l : List Grant) (n : Nat), (l.foldl (fun n g => if p g then n ||| g.2.2.toNat else n) n).testBit i = (n.testBit i || l.any fun g => p g && g.2.2.toNat.testBit i)
  | [], n => by simp
  | g :: l, n => by
    rw [List.foldl_cons, foldl_or_bit p i l, List.any_cons]
    cases h : p g <;> simp [Nat.testBit_or, Bool.or_assoc]
theorem given_bit (gs : List Group) (user : Str) (l : List Grant) (i : Nat) : (givenF gs user l).testBit i = l.any fun g => (appliesF gs g.1 user && !g.2.1) && g.2.2.toNat.testBit i := by
  rw [givenF, foldl_or_bit (fun g => appliesF gs g.1 user && !g.2.1)]; simp
theorem denied_bit (gs : List Group) (user : Str) (l : List Grant) (i : Nat) : (deniedF gs user l).testBit i = l.any fun g => (appliesF gs g.1 user && g.2.1) && g.2.2.toNat.testBit i := by
  rw [deniedF, foldl_or_bit (fun g => appliesF gs g.1 user && g.2.1)]; simp
def Small64 (l : List Grant) : Prop := ∀ g ∈ l, 0 ≤ g.2.2 ∧ g.2.2 ≤ 63
theorem foldl_or_lt (p : Grant → Bool) : ∀ (l : List Grant) (n : Nat), n < 64 → Small64 l → l.foldl (fun n g => if p g then n ||| g.2.2.toNat else n) n < 64
  | [], n, h, _ => h
  | g :: l, n, h, hs => by
    rw [List.foldl_cons]
    refine foldl_or_lt p l _ ?_ fun x hx => hs x (List.mem_cons_of_mem _ hx)
    have := hs g List.mem_cons_self
    split
    · exact Nat.or_lt_two_pow (n := 6) h (by omega)
    · exact h
theorem ofF_lt (gs : List Group) (l : List Grant) (user : Str) (h : Small64 l) : ofF gs l user < 64 := by
  have h1 := foldl_or_lt (fun g => appliesF gs g.1 user && !g.2.1) l 0 (by omega) h
  exact Nat.xor_lt_two_pow (n := 6) h1 (Nat.lt_of_le_of_lt Nat.and_le_left h1)
/-- The reference's sum. -/
def bitsF (f : Nat → Bool) : Nat → Nat
  | 0 => 0
  | i + 1 => bitsF f i + if f i then 2 ^ i else 0
theorem bitsF_congr {f g : Nat → Bool} : ∀ n, (∀ i, i < n → f i = g i) → bitsF f n = bitsF g n
  | 0, _ => rfl
  | n + 1, h => by rw [bitsF, bitsF, bitsF_congr n fun i hi => h i (by omega), h n (by omega)]
theorem bitsF_self : ∀ n, n < 64 → bitsF (fun i => n.testBit i) 6 = n := by decide
def refBit (gs : List Group) (l : List Grant) (user : Str) (i : Nat) : Bool :=
  (l.any fun g => decide (g.2.2 / (2 ^ i : Int) % 2 = 1) && concernsF gs g.1 user && !g.2.1) && !(l.any fun g => decide (g.2.2 / (2 ^ i : Int) % 2 = 1) && concernsF gs g.1 user && g.2.1)
theorem bit_int (r : Int) (i : Nat) (h : 0 ≤ r) : decide (r / (2 ^ i : Int) % 2 = 1) = r.toNat.testBit i := by
  obtain ⟨n, rfl⟩ := Int.eq_ofNat_of_zero_le h
  rw [Int.toNat_natCast, Nat.testBit_eq_decide_div_mod_eq]
  congr 1
  have : ((n : Int) / (2 ^ i : Int)) = ((n / 2 ^ i : Nat) : Int) := by
    rw [Int.natCast_ediv]; simp
  rw [this]
  apply propext
  omega
theorem any_congr {α : Type} (l : List α) (p q : α → Bool) (h : ∀ x ∈ l, p x = q x) : l.any p = l.any q := by
  induction l with
  | nil => rfl
  | cons a l ih => rw [List.any_cons, List.any_cons, h a List.mem_cons_self, ih fun x hx => h x (List.mem_cons_of_mem _ hx)]
theorem rights_eq (gs : List Group) (l : List Grant) (user : Str) (hu : userF user = true) (hs : Small64 l) : bitsF (refBit gs l user) 6 = ofF gs l user := by
  rw [← bitsF_self (ofF gs l user) (ofF_lt gs l user hs)]
  refine bitsF_congr 6 fun i _ => ?_
  rw [ofF, testBit_andNot, given_bit, denied_bit, refBit]
  congr 1
  · refine any_congr l _ _ fun g hg => ?_
    rw [bit_int g.2.2 i (hs g hg).1, applies_concerns gs g.1 user hu]
    cases g.2.2.toNat.testBit i <;> simp
  · congr 1
    refine any_congr l _ _ fun g hg => ?_
    rw [bit_int g.2.2 i (hs g hg).1, applies_concerns gs g.1 user hu]
    cases g.2.2.toNat.testBit i <;> simp
end Go.Proofs.YtihhgmpanfboaaaGreatDoor
namespace Go.Proofs.YtihhgmpanfboaaaGreatDoor
open Go.RowKit

theorem u8_le (a b : Nat) (c : UInt8) (h : c.toNat = b) : decide ((a : Int) ≤ (c.toNat : Int)) = decide (a ≤ b) := by rw [h]; simp
theorem letc_int (c : UInt8) : letc c = ((decide ((97 : Int) ≤ (c.toNat : Int)) && decide ((c.toNat : Int) ≤ 122)) || (decide ((65 : Int) ≤ (c.toNat : Int)) && decide ((c.toNat : Int) ≤ 90)) || (decide ((48 : Int) ≤ (c.toNat : Int)) && decide ((c.toNat : Int) ≤ 57))) := by
  rw [Bool.eq_iff_iff]
  simp only [letc, Bool.or_eq_true, Bool.and_eq_true, decide_eq_true_eq, UInt8.le_iff_toNat_le, UInt8.reduceToNat]
  omega

theorem all_true (s : Str) (p : UInt8 → Bool) (h : ∀ (i : Nat) (hi : i < s.length), p s[i] = true) : s.all p = true := by
  rw [List.all_eq_true]
  intro x hx
  obtain ⟨i, hi, rfl⟩ := List.mem_iff_getElem.1 hx
  exact h i hi
theorem all_false (s : Str) (p : UInt8 → Bool) (i : Nat) (hi : i < s.length) (h : p s[i] = false) : s.all p = false := by
  rw [Bool.eq_false_iff]
  intro e
  rw [List.all_eq_true] at e
  have := e _ (List.getElem_mem hi)
  rw [h] at this
  cases this

theorem lowerC_nat (c : UInt8) : ((lowerC c).toNat : Int) = if 65 ≤ c.toNat ∧ c.toNat ≤ 90 then (c.toNat : Int) + 32 else (c.toNat : Int) := by
  have hc := c.toNat_lt
  unfold lowerC
  by_cases h : upc c = true
  · have h' : 65 ≤ c.toNat ∧ c.toNat ≤ 90 := by simpa [upc, UInt8.le_iff_toNat_le] using h
    rw [if_pos h, if_pos h', UInt8.toNat_add]
    simp
    omega
  · have h' : ¬ (65 ≤ c.toNat ∧ c.toNat ≤ 90) := by simpa [upc, UInt8.le_iff_toNat_le] using h
    rw [if_neg h, if_neg h']
/-- The bytes up to k in lower case. -/
def lowTo (s : Str) (k : Nat) : Str := (s.take k).map lowerC ++ s.drop k
theorem lowTo_len (s : Str) (k : Nat) : (lowTo s k).length = s.length := by simp [lowTo]; omega
theorem lowTo_zero (s : Str) : lowTo s 0 = s := by simp [lowTo]
theorem lowTo_all (s : Str) : lowTo s s.length = lowerF s := by simp [lowTo, lowerF]
theorem lowTo_get (s : Str) (k : Nat) (hk : k < s.length) : (lowTo s k)[k]'(by rw [lowTo_len]; exact hk) = s[k] := by
  simp [lowTo, Nat.min_eq_left (Nat.le_of_lt hk)]
theorem lowTo_succ (s : Str) (k : Nat) (hk : k < s.length) : lowTo s (k + 1) = (lowTo s k).set k (lowerC s[k]) := by
  have h1 : s.take (k + 1) = s.take k ++ [s[k]] := by rw [List.take_succ_eq_append_getElem hk]
  have h2 : s.drop k = s[k] :: s.drop (k + 1) := List.drop_eq_getElem_cons hk
  have h3 : ((s.take k).map lowerC).length = k := by simp; omega
  rw [lowTo, lowTo, h1, h2, List.map_append, List.set_append_right _ _ (by omega), h3, Nat.sub_self, List.set_cons_zero, List.append_assoc]
  rfl
theorem lowTo_same (s : Str) (k : Nat) (hk : k < s.length) (h : lowerC s[k] = s[k]) : lowTo s (k + 1) = lowTo s k := by
  rw [lowTo_succ s k hk, h]
  have := lowTo_get s k hk
  conv => lhs; rw [← this]
  exact List.set_getElem_self _
end Go.Proofs.YtihhgmpanfboaaaGreatDoor
namespace Go.Proofs.YtihhgmpanfboaaaGreatDoor
open Go.RowKit
set_option linter.unusedVariables false
def Sm.lc (c : UInt8) : Bool := decide (97 ≤ c) && decide (c ≤ 122)
theorem Sm.lc_int (c : UInt8) : Sm.lc c = (decide ((97 : Int) ≤ (c.toNat : Int)) && decide ((c.toNat : Int) ≤ 122)) := by
  rw [Bool.eq_iff_iff]
  simp only [Sm.lc, Bool.and_eq_true, decide_eq_true_eq, UInt8.le_iff_toNat_le, UInt8.reduceToNat]
  omega
theorem Sm.letters_lc (s : Str) : Sm.letters s = s.all Sm.lc := rfl
end Go.Proofs.YtihhgmpanfboaaaGreatDoor
namespace Go.Proofs.YtihhgmpanfboaaaGreatDoor
open Go.RowKit
set_option linter.unusedVariables false
theorem suffix_drop {s e : Str} (h : e.length ≤ s.length) : Lib.hasSuffix s e = ((s.drop (s.length - e.length)).take (s.length - (s.length - e.length)) == e) := by
  rw [List.take_of_length_le (by rw [List.length_drop]; omega), Bool.eq_iff_iff]
  unfold Lib.hasSuffix
  rw [List.isSuffixOf_iff_suffix, beq_iff_eq]
  constructor
  · rintro ⟨t, rfl⟩
    simp
  · intro h'
    rw [← h']
    exact List.drop_suffix _ _
theorem suffix_long {s e : Str} (h : s.length < e.length) : Lib.hasSuffix s e = false := by
  rw [Bool.eq_false_iff]
  intro h'
  unfold Lib.hasSuffix at h'
  have := (List.isSuffixOf_iff_suffix.1 h').length_le
  omega
end Go.Proofs.YtihhgmpanfboaaaGreatDoor
namespace Go.Proofs.YtihhgmpanfboaaaGreatDoor
open Go.RowKit
set_option linter.unusedVariables false
theorem ref_cells {w : World} {a b : Nat} (kA : Blk w a 9 #[.string ⟨#[105, 101, 115]⟩, .string ⟨#[115, 115, 101, 115]⟩, .string ⟨#[110, 101, 115, 115]⟩, .string ⟨#[109, 101, 110, 116]⟩, .string ⟨#[105, 110, 103]⟩, .string ⟨#[101, 100, 108, 121]⟩, .string ⟨#[101, 100]⟩, .string ⟨#[108, 121]⟩, .string ⟨#[115]⟩, .string ⟨#[121]⟩]) (kB : Blk w b 9 #[.string ⟨#[105]⟩, .string ⟨#[115, 115]⟩, .string ⟨#[]⟩, .string ⟨#[]⟩, .string ⟨#[]⟩, .string ⟨#[]⟩, .string ⟨#[]⟩, .string ⟨#[]⟩, .string ⟨#[]⟩, .string ⟨#[105]⟩]) (k : Nat) (hk : k < 10) : ∃ (r : Sm.Rule), Sm.rules.drop k = r :: Sm.rules.drop (k + 1) ∧
    w.cell? ⟨a, k, none⟩ = some (.string (bs r.ending)) ∧ w.cell? ⟨b, k, none⟩ = some (.string (bs r.to)) ∧
    (k ≠ 8 ∧ r.bars = [] ∨ k = 8 ∧ r.bars = [[115, 115], [117, 115], [105, 115]]) ∧ r.to.length ≤ r.ending.length ∧ r.ending.length ≤ 10 ∧ 1 ≤ r.ending.length := by
  match k, hk with
  | 0, _ => exact ⟨_, rfl, kA.cell 0, kB.cell 0, .inl ⟨by decide, rfl⟩, by decide, by decide, by decide⟩
  | 1, _ => exact ⟨_, rfl, kA.cell 1, kB.cell 1, .inl ⟨by decide, rfl⟩, by decide, by decide, by decide⟩
  | 2, _ => exact ⟨_, rfl, kA.cell 2, kB.cell 2, .inl ⟨by decide, rfl⟩, by decide, by decide, by decide⟩
  | 3, _ => exact ⟨_, rfl, kA.cell 3, kB.cell 3, .inl ⟨by decide, rfl⟩, by decide, by decide, by decide⟩
  | 4, _ => exact ⟨_, rfl, kA.cell 4, kB.cell 4, .inl ⟨by decide, rfl⟩, by decide, by decide, by decide⟩
  | 5, _ => exact ⟨_, rfl, kA.cell 5, kB.cell 5, .inl ⟨by decide, rfl⟩, by decide, by decide, by decide⟩
  | 6, _ => exact ⟨_, rfl, kA.cell 6, kB.cell 6, .inl ⟨by decide, rfl⟩, by decide, by decide, by decide⟩
  | 7, _ => exact ⟨_, rfl, kA.cell 7, kB.cell 7, .inl ⟨by decide, rfl⟩, by decide, by decide, by decide⟩
  | 8, _ => exact ⟨_, rfl, kA.cell 8, kB.cell 8, .inr ⟨rfl, rfl⟩, by decide, by decide, by decide⟩
  | 9, _ => exact ⟨_, rfl, kA.cell 9, kB.cell 9, .inl ⟨by decide, rfl⟩, by decide, by decide, by decide⟩
theorem three_bars (s : Str) : ([[115, 115], [117, 115], [105, 115]] : List Str).any (Lib.hasSuffix s) = (Lib.hasSuffix s [115, 115] || Lib.hasSuffix s [117, 115] || Lib.hasSuffix s [105, 115]) := by
  simp [Bool.or_assoc]
end Go.Proofs.YtihhgmpanfboaaaGreatDoor
namespace Go.Proofs.YtihhgmpanfboaaaGreatDoor
open Go.RowKit
set_option linter.unusedVariables false
end Go.Proofs.YtihhgmpanfboaaaGreatDoor
namespace Go.Proofs.YtihhgmpanfboaaaGreatDoor
open Go.RowKit
set_option linter.unusedVariables false
theorem mem_le_sum : ∀ {l : List Nat} {x : Nat}, x ∈ l → x ≤ l.sum
  | _ :: _, _, .head _ => by simp
  | _ :: _, _, .tail _ h => by have := mem_le_sum h; simp only [List.sum_cons]; omega
theorem Sm.wordsFrom_len {n : Nat} {cur l : Str} {x : Str} (h : x ∈ Sm.wordsFrom cur l) (hn : cur.length + l.length ≤ n) : x.length ≤ n := by
  have h1 := (Sm.words_sum l.length cur l (Nat.le_refl _)).1
  have h2 : x.length ≤ ((Sm.wordsFrom cur l).map List.length).sum := mem_le_sum (List.mem_map_of_mem h)
  omega
set_option maxHeartbeats 4000000 in
theorem refWords_ok (s : Str) (hs : s.length ≤ 4000000) (w : World) (hT : TabsU w) : Calls Tryz.prog 36 #[.string (bs s)] w fun e w' => ∃ (A : Option Addr) (c : Nat) (L : List Str), e = .returned (.slice A L.length c) ∧ Hid (L = Sm.words s) ∧ Own strC M0 w' w.heap.size 9 (.slice A L.length c) L ∧ Below w.heap.size w w' := by
  have HT := Lib.hid hT
  clear hT
  obtain ⟨res, hres⟩ : ∃ r, Sm.words s = r := ⟨_, rfl⟩
  rw [hres]
  have Hres := Lib.hid hres
  clear hres
  go_enter Tryz.func36, Tryz.ntmps36
  go_wp2
  go_loopw [0, 3, 4] (fun t o c wr => ∃ (l cur : Str) (A : Option Addr) (cp : Nat) (L : List Str), t = .string (bs l) ∧ c = .string (bs cur) ∧ o = .slice A L.length cp ∧ cur.length + l.length ≤ s.length ∧ L.length + cur.length + l.length ≤ s.length ∧
      Hid (L ++ (Sm.wordsFrom cur l).map Sm.lower = res) ∧ Own strC M0 wr w.heap.size 9 (.slice A L.length cp) L ∧ Below w.heap.size w wr) (fun t _ _ _ => (strOf t).length)
  case atStart => exact ⟨s, [], none, 0, [], rfl, rfl, rfl, by simp, by simp, Lib.hid (by rw [← Hres.out]; rfl), Own.nil _ _ _ _ _, Below.refl _ _⟩
  case round =>
    obtain ⟨l, cur, A, cp, L, rfl, rfl, rfl, hl, hLl, hL, hown, hb⟩ := hrel
    by_cases hne : l = []
    · subst hne
      have hst := Sm.wordsFrom_nil cur
      have Hst := Lib.hid hst
      clear hst
      by_cases hc : cur = []
      · subst hc
        have hr : res = L := by rw [← hL.out, Hst.out]; simp
        have Hr := Lib.hid hr
        clear hr
        go_wp2
        go_ret
        exact ⟨A, cp, L, rfl, Lib.hid Hr.out.symm, hown, hb⟩
      · simp only [List.length_nil, Nat.add_zero] at hl hLl
        have hce : cur.isEmpty = false := by simpa using hc
        have hce2 : (cur == []) = false := by simpa using hc
        have hcl : 1 ≤ cur.length := List.length_pos_iff.2 hc
        have hll := Sm.lower_len cur.length cur (Nat.le_refl _)
        have hlw := refLower_ok cur (by omega) wr (HT.out.ext hb)
        obtain ⟨lw, hlw2⟩ : ∃ x, Sm.lower cur = x := ⟨_, rfl⟩
        rw [hlw2] at hlw hll
        have Hlw := Lib.hid hlw; have Hlw2 := Lib.hid hlw2; have Hc := Lib.hid hc
        clear hlw hlw2 hc
        go_wp2_with fail
        refine Hlw.out.mono ?_
        rintro e w3 ⟨rfl, hb3⟩
        have hown3 := hown.ext hb3
        have hbw3 := below2 hb hb3
        have hsz := hbw3.size
        clear Hlw hown hb3
        go_wp2_with (at_builtin; refine wpList_push_Own strC (M := M0) (B := w.heap.size) TStrs rfl (.tmp 34) (.tmp 37) rfl rfl hown3 rfl (cs := [.string (bs lw)]) (y := lw) ⟨rfl, by unfold maxLen; omega⟩ (fun _ h => h.elim) ?pb1 ?pb2 hsz ?_)
        case pb1 => simp only [maxLen]; omega
        case pb2 => omega
        intro A4 c4 L4 w4 hL4 hown4 hb4 _ _
        have hbw4 := hbw3.trans hb4
        have hlen4 : L4.length = L.length + 1 := by rw [hL4.out, List.length_append]; rfl
        clear hown3 hb4
        go_wp2
        go_ret
        exact ⟨A4, c4, L4, rfl, Lib.hid (by rw [← hL.out, Hst.out, if_neg Hc.out, hL4.out, ← Hlw2.out]; rfl), hown4, hbw4⟩
    · have hpos := List.length_pos_iff.2 hne
      have hst := Sm.wordsFrom_step (cur := cur) hne
      have hw1 := Lib.decodeL_width l
      have hw2 := Sm.width_le hne
      have hr := Lib.decodeL_rune l
      have hdec := Tryz.utf8_DecodeRuneInString (bs l) wr (HT.out.ext hb).u8
      have hdg : Lib.decodeGo (bs l) = Lib.decodeL l := by
        unfold Lib.decodeGo
        rw [if_neg (by rw [bs_size]; omega)]
        rfl
      rw [hdg] at hdec
      obtain ⟨r, hrr⟩ : ∃ r, (Lib.decodeL l).1 = r := ⟨_, rfl⟩
      obtain ⟨n, hnn⟩ : ∃ n, (Lib.decodeL l).2 = n := ⟨_, rfl⟩
      rw [hrr] at hst hr hdec
      rw [hnn] at hst hw1 hw2 hdec
      have hin := fun W hbb => inWord_ok r hr W ((HT.out.ext hb).ext hbb)
      obtain ⟨t, ht⟩ : ∃ t, Sm.isL r = t := ⟨_, rfl⟩
      rw [ht] at hin hst
      have Hdec := Lib.hid hdec; have Hin := Lib.hid hin; have Hst := Lib.hid hst
      clear hdec hin hst hdg hrr hnn ht
      have hd0 : decide ((0 : Int) < (l.length : Int)) = true := by simp; omega
      have hd1 : 0 < l.length := hpos
      have hn0 : (0 : Int) ≤ (n : Int) := by omega
      have hn1 : (n : Int) ≤ (l.length : Int) := by omega
      go_wp2_with fail
      refine Hdec.out.mono ?_
      rintro e w1 ⟨rfl, hb1⟩
      go_wp2_with fail
      refine (Hin.out w1 hb1).mono ?_
      rintro e w2 ⟨rfl, hb2⟩
      have hb12 := below2 hb1 hb2
      have hown2 := hown.ext hb12
      have hbw2 := below2 hb hb12
      clear hown hb1 hb2 hb12 hb
      cases t with
      | true =>
        have hcat : (cur.length + n ≤ 9223372036854775807) = True := by simp; omega
        have hmin : min n l.length = n := by omega
        go_wp2
        go_roundw
        case rel => exact ⟨l.drop n, cur ++ l.take n, A, cp, L, by rw [List.take_of_length_le (by rw [List.length_drop]; exact Nat.le_refl _)], rfl, rfl, by rw [List.length_append, List.length_take, List.length_drop]; omega, by rw [List.length_append, List.length_take, List.length_drop]; omega,
          Lib.hid (by rw [← hL.out, Hst.out]; rfl), hown2, hbw2⟩
        case measure => simp [strOf, bs]; omega
      | false =>
        by_cases hc : cur = []
        · subst hc
          go_wp2
          go_roundw
          case rel => exact ⟨l.drop n, [], A, cp, L, by rw [List.take_of_length_le (by rw [List.length_drop]; exact Nat.le_refl _)], rfl, rfl, by rw [List.length_drop]; simp at hl ⊢; omega, by rw [List.length_drop]; simp at hLl ⊢; omega,
            Lib.hid (by rw [← hL.out, Hst.out]; rfl), hown2, hbw2⟩
          case measure => simp [strOf, bs]; omega
        · have hce : cur.isEmpty = false := by simpa using hc
          have hce2 : (cur == []) = false := by simpa using hc
          have hcl : 1 ≤ cur.length := List.length_pos_iff.2 hc
          have hll := Sm.lower_len cur.length cur (Nat.le_refl _)
          have hlw := refLower_ok cur (by omega) w2 (HT.out.ext hbw2)
          obtain ⟨lw, hlw2⟩ : ∃ x, Sm.lower cur = x := ⟨_, rfl⟩
          rw [hlw2] at hlw hll
          have Hlw := Lib.hid hlw; have Hlw2 := Lib.hid hlw2; have Hc := Lib.hid hc
          clear hlw hlw2 hc
          go_wp2_with fail
          refine Hlw.out.mono ?_
          rintro e w3 ⟨rfl, hb3⟩
          have hown3 := hown2.ext hb3
          have hbw3 := below2 hbw2 hb3
          have hsz := hbw3.size
          clear Hlw hown2 hb3
          go_wp2_with (at_builtin; refine wpList_push_Own strC (M := M0) (B := w.heap.size) TStrs rfl (.tmp 24) (.tmp 27) rfl rfl hown3 rfl (cs := [.string (bs lw)]) (y := lw) ⟨rfl, by unfold maxLen; omega⟩ (fun _ h => h.elim) ?pa1 ?pa2 hsz ?_)
          case pa1 => simp only [maxLen]; omega
          case pa2 => omega
          intro A4 c4 L4 w4 hL4 hown4 hb4 _ _
          have hbw4 := hbw3.trans hb4
          have hlen4 : L4.length = L.length + 1 := by rw [hL4.out, List.length_append]; rfl
          clear hown3 hb4
          go_wp2
          go_roundw
          case rel => exact ⟨l.drop n, [], A4, c4, L4, by rw [List.take_of_length_le (by rw [List.length_drop]; exact Nat.le_refl _)], rfl, rfl, by rw [List.length_drop]; simp; omega, by rw [List.length_drop, hlen4]; simp; omega,
            Lib.hid (by rw [← hL.out, Hst.out, if_neg (by simp), if_neg Hc.out, hL4.out, ← Hlw2.out]; simp), hown4, hbw4⟩
          case measure => simp [strOf, bs]; omega
def mapTo {α : Type} (f : α → α) (l : List α) (k : Nat) : List α := (l.take k).map f ++ l.drop k
theorem mapTo_len {α : Type} (f : α → α) (l : List α) (k : Nat) : (mapTo f l k).length = l.length := by simp [mapTo]; omega
theorem mapTo_zero {α : Type} (f : α → α) (l : List α) : mapTo f l 0 = l := by simp [mapTo]
theorem mapTo_all {α : Type} (f : α → α) (l : List α) : mapTo f l l.length = l.map f := by simp [mapTo]
theorem mapTo_get {α : Type} (f : α → α) (l : List α) (k : Nat) (hk : k < l.length) : (mapTo f l k)[k]'(by rw [mapTo_len]; exact hk) = l[k] := by
  unfold mapTo
  rw [List.getElem_append_right (by simp; omega)]
  simp [Nat.min_eq_left (Nat.le_of_lt hk)]
theorem mapTo_succ {α : Type} (f : α → α) (l : List α) (k : Nat) (hk : k < l.length) : mapTo f l (k + 1) = (mapTo f l k).set k (f l[k]) := by
  unfold mapTo
  have hl : ((l.take k).map f).length = k := by rw [List.length_map, List.length_take]; omega
  rw [List.drop_eq_getElem_cons hk, List.take_succ_eq_append_getElem hk, List.set_append, hl, if_neg (Nat.lt_irrefl k), Nat.sub_self, List.set_cons_zero, List.map_append, List.append_assoc]
  rfl
end Go.Proofs.YtihhgmpanfboaaaGreatDoor

/-
  Contracts and plain facts, one after another: Faults and ranges: the small functions; The order of texts: plain Lean; Names, groups, grants and rights: plain Lean.
-/
import Derived.Test.YtjamjkjmlckgeaaGreatDoorF35
import Derived.Test.YtjamjkjmlckgeaaGreatDoorRows
import Derived.Deep.QuietTactic
import Derived.BigQuiet
import Derived.Deep.RegionHeld3
import Derived.StillTailTactics
import Derived.Sort.Walk0
import Derived.Lib.Bytealg
namespace Go.Proofs.YtjamjkjmlckgeaaGreatDoor
open Go.RowKit

theorem ret_str {a b : ByteArray} (h : a = b) : Ending.returned (.string a) = .returned (.string b) := by rw [h]
theorem ret_bool {a b : Bool} (h : a = b) : Ending.returned (.bool a) = .returned (.bool b) := by rw [h]
/-! ### Faults -/
theorem none_ok (w : World) : Calls Tryz.prog 24 #[] w fun e w' => e = .returned (.agg #[.int .i64 0, .int .i64 0]) ∧ Below w.heap.size w w' := by
  go_enter Tryz.func24, Tryz.ntmps24
  go_wp2
  exact bodyPost_ret (v := .agg #[.int .i64 0, .int .i64 0]) (by simp [results, Tryz.results24, go_sem]) rfl ⟨rfl, (Below.refl _ _).alloc (Nat.le_refl _) _⟩
theorem fault_ok (a b : Int) (w : World) : Calls Tryz.prog 27 #[.int .i64 a, .int .i64 b] w fun e w' => e = .returned (.agg #[.int .i64 a, .int .i64 b]) ∧ Below w.heap.size w w' := by
  go_enter Tryz.func27, Tryz.ntmps27
  go_wp2
  exact bodyPost_ret (v := .agg #[.int .i64 a, .int .i64 b]) (by simp [results, Tryz.results27, go_sem]) rfl ⟨rfl, (Below.refl _ _).alloc (Nat.le_refl _) _⟩
theorem failed_ok (a b : Int) (w : World) : Calls Tryz.prog 21 #[.agg #[.int .i64 a, .int .i64 b]] w fun e w' => e = .returned (.bool (a != 0)) ∧ Below w.heap.size w w' := by
  go_enter Tryz.func21, Tryz.ntmps21
  go_wp2
  go_ret
  exact ⟨rfl, (Below.refl _ _).alloc (Nat.le_refl _) _⟩
theorem Blk.put2 {w : World} {g : Nat} {t : TypeId} {x y : Value} (h : Blk w g t #[x, y]) (a b : Value) :
    ((w.setCell ⟨g, 0, none⟩ a).setCell ⟨g, 1, none⟩ b).cell? ⟨g, 0, none⟩ = some a ∧ ((w.setCell ⟨g, 0, none⟩ a).setCell ⟨g, 1, none⟩ b).cell? ⟨g, 1, none⟩ = some b := by
  have h2 : Blk ((w.setCell ⟨g, 0, none⟩ a).setCell ⟨g, 1, none⟩ b) g t #[a, b] := by simpa using (h.set_ 0 a).set_ 1 b
  exact ⟨h2.two.1, h2.two.2.1⟩
theorem below2 {w : World} {w1 w2 : World} (h1 : Below w.heap.size w w1) (h2 : Below w1.heap.size w1 w2) : Below w.heap.size w w2 := h1.trans (h2.mono h1.size)
theorem below_set2 {B : Nat} {w w' : World} (h : Below B w w') {g : Nat} (hg : B ≤ g) (a b : Value) : Below B w ((w'.setCell ⟨g, 0, none⟩ a).setCell ⟨g, 1, none⟩ b) := Below.setCell (p := ⟨g, 1, none⟩) (Below.setCell (p := ⟨g, 0, none⟩) h hg a) hg b
theorem below_drew {B : Nat} {w w' : World} (h : Below B w w') : Below B w w'.drew := ⟨h.os, h.tape, h.output, h.size, h.block⟩
theorem ret_fault {a b c d : Int} (h : (c, d) = (a, b)) : Ending.returned (.agg #[.int .i64 a, .int .i64 b]) = .returned (.agg #[.int .i64 c, .int .i64 d]) := by injection h with h1 h2; rw [h1, h2]
theorem SlR.set2 {α : Type} {C : Codec α} {M : Nat → Prop} {w : World} {v : Value} {l : List α} (h : SlR C M w v l) {g : Nat} (hg : M g) (a b : Value) : SlR C M ((w.setCell ⟨g, 0, none⟩ a).setCell ⟨g, 1, none⟩ b) v l :=
  h.keep (fun k _ hk => (heap_setCell_other _ _ _ _ (fun e => hk (by rw [show k = g from e]; exact hg))).trans (heap_setCell_other _ _ _ _ (fun e => hk (by rw [show k = g from e]; exact hg)))) (by simp)
end Go.Proofs.YtjamjkjmlckgeaaGreatDoor
namespace Go.Proofs.YtjamjkjmlckgeaaGreatDoor

abbrev Str := List UInt8
/-- One text is ahead of another. -/
def ltS (a b : Str) : Bool := Op.bytesLess a b
theorem ltS_iff (a b : Str) : ltS a b = true ↔ a < b := by rw [ltS, bytesLess_eq]; simp
theorem ltS_irrefl (a : Str) : ltS a a = false := by
  cases h : ltS a a with
  | false => rfl
  | true => exact absurd ((ltS_iff a a).1 h) (List.lt_irrefl a)
theorem ltS_trans {a b c : Str} (h : ltS a b = true) (k : ltS b c = true) : ltS a c = true := (ltS_iff _ _).2 (List.lt_trans ((ltS_iff _ _).1 h) ((ltS_iff _ _).1 k))
theorem ltS_total (a b : Str) : ltS a b = true ∨ a = b ∨ ltS b a = true := by
  rcases Std.Trichotomous.rel_or_eq_or_rel_swap (r := (· < · : Str → Str → Prop)) (a := a) (b := b) with h | h | h
  · exact .inl ((ltS_iff _ _).2 h)
  · exact .inr (.inl h)
  · exact .inr (.inr ((ltS_iff _ _).2 h))
theorem ltS_asymm {a b : Str} (h : ltS a b = true) : ltS b a = false := by
  cases k : ltS b a with
  | false => rfl
  | true => have := ltS_trans h k; rw [ltS_irrefl] at this; cases this
theorem ltS_ne {a b : Str} (h : ltS a b = true) : a ≠ b := fun e => by subst e; rw [ltS_irrefl] at h; cases h
theorem cmp_eqS : ∀ a b : Str, Lib.compareBytes a b = if ltS a b then -1 else if a = b then 0 else 1
  | [], [] => rfl
  | [], _ :: _ => rfl
  | _ :: _, [] => rfl
  | x :: a, y :: b => by
    have ih := cmp_eqS a b
    have e1 : ltS (x :: a) (y :: b) = (decide (x < y) || (x == y && ltS a b)) := rfl
    rw [Lib.compareBytes, ih, e1]
    by_cases h1 : x < y
    · simp [h1]
    · by_cases h2 : y < x
      · have : x ≠ y := fun e => by subst e; exact UInt8.lt_irrefl _ h2
        simp [h1, h2, this]
      · have : x = y := UInt8.le_antisymm (UInt8.not_lt.1 h2) (UInt8.not_lt.1 h1)
        subst this
        simp [UInt8.lt_irrefl]
end Go.Proofs.YtjamjkjmlckgeaaGreatDoor
namespace Go.Proofs.YtjamjkjmlckgeaaGreatDoor

/-! ### Names -/
def lowc (c : UInt8) : Bool := (decide (97 ≤ c) && decide (c ≤ 122)) || (decide (48 ≤ c) && decide (c ≤ 57)) || c == 45 || c == 95 || c == 46
def letc (c : UInt8) : Bool := (decide (97 ≤ c) && decide (c ≤ 122)) || (decide (65 ≤ c) && decide (c ≤ 90)) || (decide (48 ≤ c) && decide (c ≤ 57))
def bigc (c : UInt8) : Bool := letc c || c == 45 || c == 95 || c == 46
def upc (c : UInt8) : Bool := decide (65 ≤ c) && decide (c ≤ 90)
def lowerC (c : UInt8) : UInt8 := if upc c then c + 32 else c
def lowerF (s : Str) : Str := s.map lowerC
def userF (s : Str) : Bool := s.all lowc && (decide (1 ≤ s.length) && decide (s.length ≤ 60))
def nameF (s : Str) : Bool := !s.isEmpty && decide (s.length ≤ 60) && s.all bigc
def smallF (s : Str) : Bool := nameF s && lowerF s == s
theorem lowerC_ne (c : UInt8) (h : upc c = true) : lowerC c ≠ c := by
  rw [lowerC, if_pos h]
  intro e
  have := congrArg UInt8.toNat e
  simp [upc, UInt8.le_iff_toNat_le] at h
  rw [UInt8.toNat_add] at this
  have := c.toNat_lt
  simp at *
theorem low_big (c : UInt8) : lowc c = (bigc c && !upc c) := by
  have hc := c.toNat_lt
  rw [Bool.eq_iff_iff]
  simp only [lowc, bigc, letc, upc, Bool.or_eq_true, Bool.and_eq_true, decide_eq_true_eq, beq_iff_eq, Bool.not_eq_true', Bool.and_eq_false_iff, decide_eq_false_iff_not, UInt8.le_iff_toNat_le, ← UInt8.toNat_inj]
  simp only [UInt8.reduceToNat]
  omega
theorem lower_same (s : Str) : (lowerF s == s) = s.all fun c => !upc c := by
  induction s with
  | nil => rfl
  | cons c s ih =>
    have e : (lowerF (c :: s) == c :: s) = ((lowerC c == c) && (lowerF s == s)) := rfl
    rw [e, ih, List.all_cons]
    congr 1
    cases h : upc c with
    | true => simpa using lowerC_ne c h
    | false => simp [lowerC, h]
theorem small_user (s : Str) : smallF s = userF s := by
  have h : s.all lowc = (s.all bigc && s.all fun c => !upc c) := by
    induction s with
    | nil => rfl
    | cons c s ih => simp only [List.all_cons, ih, low_big]; cases bigc c <;> cases upc c <;> simp
  rw [smallF, nameF, lower_same, userF, h]
  cases s with
  | nil => rfl
  | cons c s => simp [Bool.and_comm, Bool.and_left_comm, Bool.and_assoc]
def hashF (s : Str) : Bool := match s with | [] => false | c :: t => c == 35 && userF t
def whoF (s : Str) : Bool := userF s || hashF s
/-- Without '#'. -/
def trimH (s : Str) : Str := match s with | [] => [] | c :: t => if c = 35 then t else c :: t
theorem who_trim (s : Str) : smallF (trimH s) = whoF s := by
  rw [small_user]
  cases s with
  | nil => rfl
  | cons c t =>
    by_cases h : c = 35
    · subst h
      simp [trimH, whoF, hashF, userF, lowc]
    · simp [trimH, whoF, hashF, h]

/-! ### The first that errs -/
def scanF (err : Nat → Option Int) (base : Int) (n : Nat) : Int × Int :=
  match (List.range n).find? fun i => (err i).isSome with
  | some i => ((err i).getD 0, base + i)
  | none => (0, 0)
theorem scan_hit {err : Nat → Option Int} {base : Int} {n i : Nat} {c : Int} (hi : i < n) (h0 : ∀ j, j < i → err j = none) (h : err i = some c) : scanF err base n = (c, base + i) := by
  have : (List.range n).find? (fun i => (err i).isSome) = some i := by
    rw [List.find?_range_eq_some]
    exact ⟨by simp [h], by simpa using hi, fun j hj => by simp [h0 j hj]⟩
  rw [scanF, this]
  simp [h]
theorem scan_none {err : Nat → Option Int} {base : Int} {n : Nat} (h0 : ∀ j, j < n → err j = none) : scanF err base n = (0, 0) := by
  have : (List.range n).find? (fun i => (err i).isSome) = none := by
    rw [List.find?_eq_none]
    intro j hj
    simp [h0 j (by simpa using hj)]
  rw [scanF, this]
theorem scan_code {err : Nat → Option Int} {base : Int} {n : Nat} (hc : ∀ i c, err i = some c → c ≠ 0) (h : (scanF err base n).1 = 0) : ∀ j, j < n → err j = none := by
  unfold scanF at h
  split at h
  · rename_i i hi
    exfalso
    have := List.find?_some hi
    cases he : err i with
    | none => simp [he] at this
    | some c => rw [he] at h; exact hc i c he h
  · rename_i hn
    intro j hj
    rw [List.find?_eq_none] at hn
    have := hn j (by simpa using hj)
    simpa using this

/-! ### Groups and grants -/
abbrev Group := Str × List Str
abbrev Grant := Str × Bool × Int
def grpErr (l : List Group) (i : Nat) : Option Int :=
  match l[i]? with
  | none => none
  | some g => if !userF g.1 then some 10 else if (l.take i).any (fun x => x.1 == g.1) then some 7 else if 300 < g.2.length then some 2 else if g.2.any (fun s => !userF s) then some 10 else none
def groupsF (l : List Group) : Int × Int := if 60 < l.length then (2, -1) else scanF (grpErr l) 0 l.length
/-- Grant a comes after b. -/
def afterF (a b : Grant) : Bool := ltS b.1 a.1 || (a.1 == b.1 && a.2.1 && !b.2.1)
def orderF (a b : Grant) : Int := let c := Lib.compareBytes a.1 b.1; if c ≠ 0 ∨ a.2.1 = b.2.1 then c else if a.2.1 then 1 else -1
def grantErr (l : List Grant) (i : Nat) : Option Int :=
  match l[i]? with
  | none => none
  | some g => if !whoF g.1 then some 10 else if g.2.2 < 1 ∨ 63 < g.2.2 then some 3 else if i = 0 then none else match l[i - 1]? with
    | none => none
    | some p => if !afterF g p then some 19 else none
def grantsF (l : List Grant) : Int × Int := if 60 < l.length then (2, -2) else scanF (grantErr l) 100 l.length

theorem order_after (a b : Grant) : 0 ≤ orderF a b ↔ afterF b a = false := by
  unfold orderF afterF
  rw [cmp_eqS]
  by_cases h1 : ltS a.1 b.1
  · simp [h1]
  · by_cases h2 : a.1 = b.1
    · have h1' : ltS a.1 a.1 = false := ltS_irrefl _
      simp only [← h2, h1', Bool.false_eq_true, if_false, if_true, ne_eq, not_true, false_or]
      cases a.2.1 <;> cases b.2.1 <;> simp
    · have h3 : ¬ b.1 = a.1 := fun e => h2 e.symm
      simp [h1, h2, h3]
theorem order_zero (a b : Grant) : orderF a b = 0 ↔ a.1 = b.1 ∧ a.2.1 = b.2.1 := by
  unfold orderF
  rw [cmp_eqS]
  by_cases h1 : ltS a.1 b.1
  · have := ltS_ne h1; simp [h1, this]
  · by_cases h2 : a.1 = b.1
    · simp only [h2, ltS_irrefl]
      cases a.2.1 <;> cases b.2.1 <;> simp
    · simp [h1, h2]
theorem order_neg (a b : Grant) : orderF a b < 0 ↔ afterF b a = true := by
  have := order_after a b
  cases h : afterF b a with
  | true => simp [h] at this; simp; omega
  | false => simp [h] at this; simp; omega
theorem after_irrefl (a : Grant) : afterF a a = false := by simp [afterF, ltS_irrefl]
theorem after_trans {a b c : Grant} (h : afterF a b = true) (k : afterF b c = true) : afterF a c = true := by
  simp only [afterF, Bool.or_eq_true, Bool.and_eq_true, beq_iff_eq, Bool.not_eq_true'] at h k ⊢
  rcases h with h | ⟨⟨h1, h2⟩, h3⟩
  · rcases k with k | ⟨⟨k1, k2⟩, k3⟩
    · exact .inl (ltS_trans k h)
    · exact .inl (k1 ▸ h)
  · rcases k with k | ⟨⟨k1, k2⟩, k3⟩
    · exact .inl (h1 ▸ k)
    · rw [h3] at k2; cases k2
theorem after_total (a b : Grant) : afterF a b = true ∨ (a.1 = b.1 ∧ a.2.1 = b.2.1) ∨ afterF b a = true := by
  simp only [afterF, Bool.or_eq_true, Bool.and_eq_true, beq_iff_eq, Bool.not_eq_true']
  rcases ltS_total a.1 b.1 with h | h | h
  · exact .inr (.inr (.inl h))
  · cases ha : a.2.1 <;> cases hb : b.2.1
    · exact .inr (.inl ⟨h, rfl⟩)
    · exact .inr (.inr (.inr ⟨⟨h.symm, rfl⟩, rfl⟩))
    · exact .inl (.inr ⟨⟨h, rfl⟩, rfl⟩)
    · exact .inr (.inl ⟨h, rfl⟩)
  · exact .inl (.inl h)
theorem after_asymm {a b : Grant} (h : afterF a b = true) : afterF b a = false := by
  cases k : afterF b a with
  | false => rfl
  | true => have := after_trans h k; rw [after_irrefl] at this; cases this

/-! ### Rights -/
def anyoneF : Str := [97, 110, 121, 111, 110, 101]
def isHash (s : Str) : Bool := match s with | [] => false | c :: _ => c == 35
def memberF (gs : List Group) (name user : Str) : Bool := gs.any fun x => x.1 == name && x.2.any (· == user)
def appliesF (gs : List Group) (who user : Str) : Bool := if isHash who then memberF gs (trimH who) user else (trimH who == anyoneF || trimH who == user)
def concernsF (gs : List Group) (who user : Str) : Bool := gs.any (fun x => (35 :: x.1 == who) && x.2.any (· == user)) || (who == user || who == anyoneF)
theorem user_nohash {u : Str} (h : userF u = true) : isHash u = false := by
  cases u with
  | nil => rfl
  | cons c t =>
    cases hc : (c == 35) with
    | false => simpa [isHash] using hc
    | true =>
      have : c = 35 := by simpa using hc
      subst this
      simp [userF, lowc] at h
theorem applies_concerns (gs : List Group) (who user : Str) (hu : userF user = true) : appliesF gs who user = concernsF gs who user := by
  have hn := user_nohash hu
  cases who with
  | nil =>
    simp [appliesF, concernsF, isHash, trimH, Bool.or_comm]
  | cons c t =>
    by_cases hc : c = 35
    · subst hc
      have h1 : ((35 :: t : Str) == user) = false := by
        cases user with
        | nil => rfl
        | cons d s => have : d ≠ 35 := by simpa [isHash] using hn
                      simp [Ne.symm this]
      have h2 : ((35 :: t : Str) == anyoneF) = false := by simp [anyoneF]
      simp only [appliesF, concernsF, isHash, trimH, beq_self_eq_true, if_true, h1, h2, Bool.or_false, memberF]
      congr 1
    · have h1 : isHash (c :: t) = false := by simpa [isHash] using hc
      have h2 : gs.any (fun x => (35 :: x.1 == c :: t) && x.2.any (· == user)) = false := by
        rw [List.any_eq_false]
        intro x _
        have : ((35 :: x.1 : Str) == c :: t) = false := by simp [Ne.symm hc]
        simp [this]
      have h3 : trimH (c :: t) = c :: t := by simp [trimH, hc]
      rw [appliesF, concernsF, h1, h2, h3]
      simp [Bool.or_comm]
/-- What is given, and what denied. -/
def givenF (gs : List Group) (user : Str) (l : List Grant) : Nat := l.foldl (fun n g => if appliesF gs g.1 user && !g.2.1 then n ||| g.2.2.toNat else n) 0
def deniedF (gs : List Group) (user : Str) (l : List Grant) : Nat := l.foldl (fun n g => if appliesF gs g.1 user && g.2.1 then n ||| g.2.2.toNat else n) 0
def andNot (a b : Nat) : Nat := a ^^^ (a &&& b)
def ofF (gs : List Group) (l : List Grant) (user : Str) : Nat := andNot (givenF gs user l) (deniedF gs user l)
theorem testBit_andNot (a b i : Nat) : (andNot a b).testBit i = (a.testBit i && !b.testBit i) := by
  rw [andNot, Nat.testBit_xor, Nat.testBit_and]
  cases a.testBit i <;> cases b.testBit i <;> rfl
theorem foldl_or_bit (p : Grant → Bool) (i : Nat) : ∀ (l : List Grant) (n : Nat), (l.foldl (fun n g => if p g then n ||| g.2.2.toNat else n) n).testBit i = (n.testBit i || l.any fun g => p g && g.2.2.toNat.testBit i)
  | [], n => by simp
  | g :: l, n => by
    rw [List.foldl_cons, foldl_or_bit p i l, List.any_cons]
    cases h : p g <;> simp [Nat.testBit_or, Bool.or_assoc]
theorem given_bit (gs : List Group) (user : Str) (l : List Grant) (i : Nat) : (givenF gs user l).testBit i = l.any fun g => (appliesF gs g.1 user && !g.2.1) && g.2.2.toNat.testBit i := by
  rw [givenF, foldl_or_bit (fun g => appliesF gs g.1 user && !g.2.1)]; simp
theorem denied_bit (gs : List Group) (user : Str) (l : List Grant) (i : Nat) : (deniedF gs user l).testBit i = l.any fun g => (appliesF gs g.1 user && g.2.1) && g.2.2.toNat.testBit i := by
  rw [deniedF, foldl_or_bit (fun g => appliesF gs g.1 user && g.2.1)]; simp
def Small64 (l : List Grant) : Prop := ∀ g ∈ l, 0 ≤ g.2.2 ∧ g.2.2 ≤ 63
theorem foldl_or_lt (p : Grant → Bool) : ∀ (l : List Grant) (n : Nat), n < 64 → Small64 l → l.foldl (fun n g => if p g then n ||| g.2.2.toNat else n) n < 64
  | [], n, h, _ => h
  | g :: l, n, h, hs => by
    rw [List.foldl_cons]
    refine foldl_or_lt p l _ ?_ fun x hx => hs x (List.mem_cons_of_mem _ hx)
    have := hs g List.mem_cons_self
    split
    · exact Nat.or_lt_two_pow (n := 6) h (by omega)
    · exact h
theorem ofF_lt (gs : List Group) (l : List Grant) (user : Str) (h : Small64 l) : ofF gs l user < 64 := by
  have h1 := foldl_or_lt (fun g => appliesF gs g.1 user && !g.2.1) l 0 (by omega) h
  exact Nat.xor_lt_two_pow (n := 6) h1 (Nat.lt_of_le_of_lt Nat.and_le_left h1)
/-- The reference's sum. -/
def bitsF (f : Nat → Bool) : Nat → Nat
  | 0 => 0
  | i + 1 => bitsF f i + if f i then 2 ^ i else 0
theorem bitsF_congr {f g : Nat → Bool} : ∀ n, (∀ i, i < n → f i = g i) → bitsF f n = bitsF g n
  | 0, _ => rfl
  | n + 1, h => by rw [bitsF, bitsF, bitsF_congr n fun i hi => h i (by omega), h n (by omega)]
theorem bitsF_self : ∀ n, n < 64 → bitsF (fun i => n.testBit i) 6 = n := by decide
def refBit (gs : List Group) (l : List Grant) (user : Str) (i : Nat) : Bool :=
  (l.any fun g => decide (g.2.2 / (2 ^ i : Int) % 2 = 1) && concernsF gs g.1 user && !g.2.1) && !(l.any fun g => decide (g.2.2 / (2 ^ i : Int) % 2 = 1) && concernsF gs g.1 user && g.2.1)
theorem bit_int (r : Int) (i : Nat) (h : 0 ≤ r) : decide (r / (2 ^ i : Int) % 2 = 1) = r.toNat.testBit i := by
  obtain ⟨n, rfl⟩ := Int.eq_ofNat_of_zero_le h
  rw [Int.toNat_natCast, Nat.testBit_eq_decide_div_mod_eq]
  congr 1
  have : ((n : Int) / (2 ^ i : Int)) = ((n / 2 ^ i : Nat) : Int) := by
    rw [Int.natCast_ediv]; simp
  rw [this]
  apply propext
  omega
theorem any_congr {α : Type} (l : List α) (p q : α → Bool) (h : ∀ x ∈ l, p x = q x) : l.any p = l.any q := by
  induction l with
  | nil => rfl
  | cons a l ih => rw [List.any_cons, List.any_cons, h a List.mem_cons_self, ih fun x hx => h x (List.mem_cons_of_mem _ hx)]
theorem rights_eq (gs : List Group) (l : List Grant) (user : Str) (hu : userF user = true) (hs : Small64 l) : bitsF (refBit gs l user) 6 = ofF gs l user := by
  rw [← bitsF_self (ofF gs l user) (ofF_lt gs l user hs)]
  refine bitsF_congr 6 fun i _ => ?_
  rw [ofF, testBit_andNot, given_bit, denied_bit, refBit]
  congr 1
  · refine any_congr l _ _ fun g hg => ?_
    rw [bit_int g.2.2 i (hs g hg).1, applies_concerns gs g.1 user hu]
    cases g.2.2.toNat.testBit i <;> simp
  · congr 1
    refine any_congr l _ _ fun g hg => ?_
    rw [bit_int g.2.2 i (hs g hg).1, applies_concerns gs g.1 user hu]
    cases g.2.2.toNat.testBit i <;> simp
end Go.Proofs.YtjamjkjmlckgeaaGreatDoor

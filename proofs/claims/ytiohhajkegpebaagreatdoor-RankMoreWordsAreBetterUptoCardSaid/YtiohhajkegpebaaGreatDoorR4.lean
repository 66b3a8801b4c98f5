/-
  Contracts and plain facts, one after another: Names, groups, grants and rights: plain Lean; Names: package basic and its reference, function by function; stem.Of; The reference's ends, Letters.
-/
import Derived.Test.YtiohhajkegpebaaGreatDoorR1
import Derived.Test.YtiohhajkegpebaaGreatDoorR3
import Derived.Outline
import Derived.Shelf.RegionOpen
import Derived.RangeFuncCalls
namespace Go.Proofs.YtiohhajkegpebaaGreatDoor

/-! ### Names -/
def lowc (c : UInt8) : Bool := (decide (97 ≤ c) && decide (c ≤ 122)) || (decide (48 ≤ c) && decide (c ≤ 57)) || c == 45 || c == 95 || c == 46
def letc (c : UInt8) : Bool := (decide (97 ≤ c) && decide (c ≤ 122)) || (decide (65 ≤ c) && decide (c ≤ 90)) || (decide (48 ≤ c) && decide (c ≤ 57))
def bigc (c : UInt8) : Bool := letc c || c == 45 || c == 95 || c == 46
def upc (c : UInt8) : Bool := decide (65 ≤ c) && decide (c ≤ 90)
def lowerC (c : UInt8) : UInt8 := if upc c then c + 32 else c
def lowerF (s : Str) : Str := s.map lowerC
def userF (s : Str) : Bool := s.all lowc && (decide (1 ≤ s.length) && decide (s.length ≤ 60))
def nameF (s : Str) : Bool := !s.isEmpty && decide (s.length ≤ 60) && s.all bigc
def smallF (s : Str) : Bool := nameF s && lowerF s == s
theorem lowerC_ne (c : UInt8) (h : upc c = true) : lowerC c ≠ c := by
  rw [lowerC, if_pos h]
  intro e
  have := congrArg UInt8.toNat e
  simp [upc, UInt8.le_iff_toNat_le] at h
  rw [UInt8.toNat_add] at this
  have := c.toNat_lt
  simp at *
theorem low_big (c : UInt8) : lowc c = (bigc c && !upc c) := by
  have hc := c.toNat_lt
  rw [Bool.eq_iff_iff]
  simp only [lowc, bigc, letc, upc, Bool.or_eq_true, Bool.and_eq_true, decide_eq_true_eq, beq_iff_eq, Bool.not_eq_true', Bool.and_eq_false_iff, decide_eq_false_iff_not, UInt8.le_iff_toNat_le, ← UInt8.toNat_inj]
  simp only [UInt8.reduceToNat]
  omega
theorem lower_same (s : Str) : (lowerF s == s) = s.all fun c => !upc c := by
  induction s with
  | nil => rfl
  | cons c s ih =>
    have e : (lowerF (c :: s) == c :: s) = ((lowerC c == c) && (lowerF s == s)) := rfl
    rw [e, ih, List.all_cons]
    congr 1
    cases h : upc c with
    | true => simpa using lowerC_ne c h
    | false => simp [lowerC, h]
theorem small_user (s : Str) : smallF s = userF s := by
  have h : s.all lowc = (s.all bigc && s.all fun c => !upc c) := by
    induction s with
    | nil => rfl
    | cons c s ih => simp only [List.all_cons, ih, low_big]; cases bigc c <;> cases upc c <;> simp
  rw [smallF, nameF, lower_same, userF, h]
  cases s with
  | nil => rfl
  | cons c s => simp [Bool.and_comm, Bool.and_left_comm, Bool.and_assoc]
def hashF (s : Str) : Bool := match s with | [] => false | c :: t => c == 35 && userF t
def whoF (s : Str) : Bool := userF s || hashF s
/-- Without '#'. -/
def trimH (s : Str) : Str := match s with | [] => [] | c :: t => if c = 35 then t else c :: t
theorem who_trim (s : Str) : smallF (trimH s) = whoF s := by
  rw [small_user]
  cases s with
  | nil => rfl
  | cons c t =>
    by_cases h : c = 35
    · subst h
      simp [trimH, whoF, hashF, userF, lowc]
    · simp [trimH, whoF, hashF, h]

/-! ### The first that errs -/
def scanF (err : Nat → Option Int) (base : Int) (n : Nat) : Int × Int :=
  match (List.range n).find? fun i => (err i).isSome with
  | some i => ((err i).getD 0, base + i)
  | none => (0, 0)
theorem scan_hit {err : Nat → Option Int} {base : Int} {n i : Nat} {c : Int} (hi : i < n) (h0 : ∀ j, j < i → err j = none) (h : err i = some c) : scanF err base n = (c, base + i) := by
  have : (List.range n).find? (fun i => (err i).isSome) = some i := by
    rw [List.find?_range_eq_some]
    exact ⟨by simp [h], by simpa using hi, fun j hj => by simp [h0 j hj]⟩
  rw [scanF, this]
  simp [h]
theorem scan_none {err : Nat → Option Int} {base : Int} {n : Nat} (h0 : ∀ j, j < n → err j = none) : scanF err base n = (0, 0) := by
  have : (List.range n).find? (fun i => (err i).isSome) = none := by
    rw [List.find?_eq_none]
    intro j hj
    simp [h0 j (by simpa using hj)]
  rw [scanF, this]
theorem scan_code {err : Nat → Option Int} {base : Int} {n : Nat} (hc : ∀ i c, err i = some c → c ≠ 0) (h : (scanF err base n).1 = 0) : ∀ j, j < n → err j = none := by
  unfold scanF at h
  split at h
  · rename_i i hi
    exfalso
    have := List.find?_some hi
    cases he : err i with
    | none => simp [he] at this
    | some c => rw [he] at h; exact hc i c he h
  · rename_i hn
    intro j hj
    rw [List.find?_eq_none] at hn
    have := hn j (by simpa using hj)
    simpa using this

/-! ### Groups and grants -/
abbrev Group := Str × List Str
abbrev Grant := Str × Bool × Int
def grpErr (l : List Group) (i : Nat) : Option Int :=
  match l[i]? with
  | none => none
  | some g => if !userF g.1 then some 10 else if (l.take i).any (fun x => x.1 == g.1) then some 7 else if 300 < g.2.length then some 2 else if g.2.any (fun s => !userF s) then some 10 else none
def groupsF (l : List Group) : Int × Int := if 60 < l.length then (2, -1) else scanF (grpErr l) 0 l.length
/-- Grant a comes after b. -/
def afterF (a b : Grant) : Bool := ltS b.1 a.1 || (a.1 == b.1 && a.2.1 && !b.2.1)
def orderF (a b : Grant) : Int := let c := Lib.compareBytes a.1 b.1; if c ≠ 0 ∨ a.2.1 = b.2.1 then c else if a.2.1 then 1 else -1
def grantErr (l : List Grant) (i : Nat) : Option Int :=
  match l[i]? with
  | none => none
  | some g => if !whoF g.1 then some 10 else if g.2.2 < 1 ∨ 63 < g.2.2 then some 3 else if i = 0 then none else match l[i - 1]? with
    | none => none
    | some p => if !afterF g p then some 19 else none
def grantsF (l : List Grant) : Int × Int := if 60 < l.length then (2, -2) else scanF (grantErr l) 100 l.length

theorem order_after (a b : Grant) : 0 ≤ orderF a b ↔ afterF b a = false := by
  unfold orderF afterF
  rw [cmp_eqS]
  by_cases h1 : ltS a.1 b.1
  · simp [h1]
  · by_cases h2 : a.1 = b.1
    · have h1' : ltS a.1 a.1 = false := ltS_irrefl _
      simp only [← h2, h1', Bool.false_eq_true, if_false, if_true, ne_eq, not_true, false_or]
      cases a.2.1 <;> cases b.2.1 <;> simp
    · have h3 : ¬ b.1 = a.1 := fun e => h2 e.symm
      simp [h1, h2, h3]
theorem order_zero (a b : Grant) : orderF a b = 0 ↔ a.1 = b.1 ∧ a.2.1 = b.2.1 := by
  unfold orderF
  rw [cmp_eqS]
  by_cases h1 : ltS a.1 b.1
  · have := ltS_ne h1; simp [h1, this]
  · by_cases h2 : a.1 = b.1
    · simp only [h2, ltS_irrefl]
      cases a.2.1 <;> cases b.2.1 <;> simp
    · simp [h1, h2]
theorem order_neg (a b : Grant) : orderF a b < 0 ↔ afterF b a = true := by
  have := order_after a b
  cases h : afterF b a with
  | true => simp [h] at this; simp; omega
  | false => simp [h] at this; simp; omega
theorem after_irrefl (a : Grant) : afterF a a = false := by simp [afterF, ltS_irrefl]
theorem after_trans {a b c : Grant} (h : afterF a b = true) (k : afterF b c = true) : afterF a c = true := by
  simp only [afterF, Bool.or_eq_true, Bool.and_eq_true, beq_iff_eq, Bool.not_eq_true'] at h k ⊢
  rcases h with h | ⟨⟨h1, h2⟩, h3⟩
  · rcases k with k | ⟨⟨k1, k2⟩, k3⟩
    · exact .inl (ltS_trans k h)
    · exact .inl (k1 ▸ h)
  · rcases k with k | ⟨⟨k1, k2⟩, k3⟩
    · exact .inl (h1 ▸ k)
    · rw [h3] at k2; cases k2
theorem after_total (a b : Grant) : afterF a b = true ∨ (a.1 = b.1 ∧ a.2.1 = b.2.1) ∨ afterF b a = true := by
  simp only [afterF, Bool.or_eq_true, Bool.and_eq_true, beq_iff_eq, Bool.not_eq_true']
  rcases ltS_total a.1 b.1 with h | h | h
  · exact .inr (.inr (.inl h))
  · cases ha : a.2.1 <;> cases hb : b.2.1
    · exact .inr (.inl ⟨h, rfl⟩)
    · exact .inr (.inr (.inr ⟨⟨h.symm, rfl⟩, rfl⟩))
    · exact .inl (.inr ⟨⟨h, rfl⟩, rfl⟩)
    · exact .inr (.inl ⟨h, rfl⟩)
  · exact .inl (.inl h)
theorem after_asymm {a b : Grant} (h : afterF a b = true) : afterF b a = false := by
  cases k : afterF b a with
  | false => rfl
  | true => have := after_trans h k; rw [after_irrefl] at this; cases this

/-! ### Rights -/
def anyoneF : Str := [97, 110, 121, 111, 110, 101]
def isHash (s : Str) : Bool := match s with | [] => false | c :: _ => c == 35
def memberF (gs : List Group) (name user : Str) : Bool := gs.any fun x => x.1 == name && x.2.any (· == user)
def appliesF (gs : List Group) (who user : Str) : Bool := if isHash who then memberF gs (trimH who) user else (trimH who == anyoneF || trimH who == user)
def concernsF (gs : List Group) (who user : Str) : Bool := gs.any (fun x => (35 :: x.1 == who) && x.2.any (· == user)) || (who == user || who == anyoneF)
theorem user_nohash {u : Str} (h : userF u = true) : isHash u = false := by
  cases u with
  | nil => rfl
  | cons c t =>
    cases hc : (c == 35) with
    | false => simpa [isHash] using hc
    | true =>
      have : c = 35 := by simpa using hc
      subst this
      simp [userF, lowc] at h
theorem applies_concerns (gs : List Group) (who user : Str) (hu : userF user = true) : appliesF gs who user = concernsF gs who user := by
  have hn := user_nohash hu
  cases who with
  | nil =>
    simp [appliesF, concernsF, isHash, trimH, Bool.or_comm]
  | cons c t =>
    by_cases hc : c = 35
    · subst hc
      have h1 : ((35 :: t : Str) == user) = false := by
        cases user with
        | nil => rfl
        | cons d s => have : d ≠ 35 := by simpa [isHash] using hn
                      simp [Ne.symm this]
      have h2 : ((35 :: t : Str) == anyoneF) = false := by simp [anyoneF]
      simp only [appliesF, concernsF, isHash, trimH, beq_self_eq_true, if_true, h1, h2, Bool.or_false, memberF]
      congr 1
    · have h1 : isHash (c :: t) = false := by simpa [isHash] using hc
      have h2 : gs.any (fun x => (35 :: x.1 == c :: t) && x.2.any (· == user)) = false := by
        rw [List.any_eq_false]
        intro x _
        have : ((35 :: x.1 : Str) == c :: t) = false := by simp [Ne.symm hc]
        simp [this]
      have h3 : trimH (c :: t) = c :: t := by simp [trimH, hc]
      rw [appliesF, concernsF, h1, h2, h3]
      simp [Bool.or_comm]
/-- What is given, and what denied. -/
def givenF (gs : List Group) (user : Str) (l : List Grant) : Nat := l.foldl (fun n g => if appliesF gs g.1 user && !g.2.1 then n ||| g.2.2.toNat else n) 0
def deniedF (gs : List Group) (user : Str) (l : List Grant) : Nat := l.foldl (fun n g => if appliesF gs g.1 user && g.2.1 then n ||| g.2.2.toNat else n) 0
def andNot (a b : Nat) : Nat := a ^^^ (a &&& b)
def ofF (gs : List Group) (l : List Grant) (user : Str) : Nat := andNot (givenF gs user l) (deniedF gs user l)
theorem testBit_andNot (a b i : Nat) : (andNot a b).testBit i = (a.testBit i && !b.testBit i) := by
  rw [andNot, Nat.testBit_xor, Nat.testBit_and]
  cases a.testBit i <;> cases b.testBit i <;> rfl
theorem foldl_or_bit (p : Grant → Bool) (i : Nat) : ∀ (l : List Grant) (n : Nat), (l.foldl (fun n g => if p g then n ||| g.2.2.toNat else n) n).testBit i = (n.testBit i || l.any fun g => p g && g.2.2.toNat.testBit i)
  | [], n => by simp
  | g :: l, n => by
    rw [List.foldl_cons, foldl_or_bit p i l, List.any_cons]
    cases h : p g <;> simp [Nat.testBit_or, Bool.or_assoc]
theorem given_bit (gs : List Group) (user : Str) (l : List Grant) (i : Nat) : (givenF gs user l).testBit i = l.any fun g => (appliesF gs g.1 user && !g.2.1) && g.2.2.toNat.testBit i := by
  rw [givenF, foldl_or_bit (fun g => appliesF gs g.1 user && !g.2.1)]; simp
theorem denied_bit (gs : List Group) (user : Str) (l : List Grant) (i : Nat) : (deniedF gs user l).testBit i = l.any fun g => (appliesF gs g.1 user && g.2.1) && g.2.2.toNat.testBit i := by
  rw [deniedF, foldl_or_bit (fun g => appliesF gs g.1 user && g.2.1)]; simp
def Small64 (l : List Grant) : Prop := ∀ g ∈ l, 0 ≤ g.2.2 ∧ g.2.2 ≤ 63
theorem foldl_or_lt (p : Grant → Bool) : ∀ (l : List Grant) (n : Nat), n < 64 → Small64 l → l.foldl (fun n g => if p g then n ||| g.2.2.toNat else n) n < 64
  | [], n, h, _ => h
  | g :: l, n, h, hs => by
    rw [List.foldl_cons]
    refine foldl_or_lt p l _ ?_ fun x hx => hs x (List.mem_cons_of_mem _ hx)
    have := hs g List.mem_cons_self
    split
    · exact Nat.or_lt_two_pow (n := 6) h (by omega)
    · exact h
theorem ofF_lt (gs : List Group) (l : List Grant) (user : Str) (h : Small64 l) : ofF gs l user < 64 := by
  have h1 := foldl_or_lt (fun g => appliesF gs g.1 user && !g.2.1) l 0 (by omega) h
  exact Nat.xor_lt_two_pow (n := 6) h1 (Nat.lt_of_le_of_lt Nat.and_le_left h1)
/-- The reference's sum. -/
def bitsF (f : Nat → Bool) : Nat → Nat
  | 0 => 0
  | i + 1 => bitsF f i + if f i then 2 ^ i else 0
theorem bitsF_congr {f g : Nat → Bool} : ∀ n, (∀ i, i < n → f i = g i) → bitsF f n = bitsF g n
  | 0, _ => rfl
  | n + 1, h => by rw [bitsF, bitsF, bitsF_congr n fun i hi => h i (by omega), h n (by omega)]
theorem bitsF_self : ∀ n, n < 64 → bitsF (fun i => n.testBit i) 6 = n := by decide
def refBit (gs : List Group) (l : List Grant) (user : Str) (i : Nat) : Bool :=
  (l.any fun g => decide (g.2.2 / (2 ^ i : Int) % 2 = 1) && concernsF gs g.1 user && !g.2.1) && !(l.any fun g => decide (g.2.2 / (2 ^ i : Int) % 2 = 1) && concernsF gs g.1 user && g.2.1)
theorem bit_int (r : Int) (i : Nat) (h : 0 ≤ r) : decide (r / (2 ^ i : Int) % 2 = 1) = r.toNat.testBit i := by
  obtain ⟨n, rfl⟩ := Int.eq_ofNat_of_zero_le h
  rw [Int.toNat_natCast, Nat.testBit_eq_decide_div_mod_eq]
  congr 1
  have : ((n : Int) / (2 ^ i : Int)) = ((n / 2 ^ i : Nat) : Int) := by
    rw [Int.natCast_ediv]; simp
  rw [this]
  apply propext
  omega
theorem any_congr {α : Type} (l : List α) (p q : α → Bool) (h : ∀ x ∈ l, p x = q x) : l.any p = l.any q := by
  induction l with
  | nil => rfl
  | cons a l ih => rw [List.any_cons, List.any_cons, h a List.mem_cons_self, ih fun x hx => h x (List.mem_cons_of_mem _ hx)]
theorem rights_eq (gs : List Group) (l : List Grant) (user : Str) (hu : userF user = true) (hs : Small64 l) : bitsF (refBit gs l user) 6 = ofF gs l user := by
  rw [← bitsF_self (ofF gs l user) (ofF_lt gs l user hs)]
  refine bitsF_congr 6 fun i _ => ?_
  rw [ofF, testBit_andNot, given_bit, denied_bit, refBit]
  congr 1
  · refine any_congr l _ _ fun g hg => ?_
    rw [bit_int g.2.2 i (hs g hg).1, applies_concerns gs g.1 user hu]
    cases g.2.2.toNat.testBit i <;> simp
  · congr 1
    refine any_congr l _ _ fun g hg => ?_
    rw [bit_int g.2.2 i (hs g hg).1, applies_concerns gs g.1 user hu]
    cases g.2.2.toNat.testBit i <;> simp
end Go.Proofs.YtiohhajkegpebaaGreatDoor
namespace Go.Proofs.YtiohhajkegpebaaGreatDoor
open Go.RowKit

theorem u8_le (a b : Nat) (c : UInt8) (h : c.toNat = b) : decide ((a : Int) ≤ (c.toNat : Int)) = decide (a ≤ b) := by rw [h]; simp
theorem letc_int (c : UInt8) : letc c = ((decide ((97 : Int) ≤ (c.toNat : Int)) && decide ((c.toNat : Int) ≤ 122)) || (decide ((65 : Int) ≤ (c.toNat : Int)) && decide ((c.toNat : Int) ≤ 90)) || (decide ((48 : Int) ≤ (c.toNat : Int)) && decide ((c.toNat : Int) ≤ 57))) := by
  rw [Bool.eq_iff_iff]
  simp only [letc, Bool.or_eq_true, Bool.and_eq_true, decide_eq_true_eq, UInt8.le_iff_toNat_le, UInt8.reduceToNat]
  omega

theorem all_true (s : Str) (p : UInt8 → Bool) (h : ∀ (i : Nat) (hi : i < s.length), p s[i] = true) : s.all p = true := by
  rw [List.all_eq_true]
  intro x hx
  obtain ⟨i, hi, rfl⟩ := List.mem_iff_getElem.1 hx
  exact h i hi
theorem all_false (s : Str) (p : UInt8 → Bool) (i : Nat) (hi : i < s.length) (h : p s[i] = false) : s.all p = false := by
  rw [Bool.eq_false_iff]
  intro e
  rw [List.all_eq_true] at e
  have := e _ (List.getElem_mem hi)
  rw [h] at this
  cases this

set_option maxHeartbeats 400000 in
theorem allB_ok (f : FuncId) (p : UInt8 → Bool) (eg : ∀ args w, (callFunc f args).run Tryz.prog w = .ok (.enter f args) w) (hf : ∀ (c : UInt8) (w : World), Calls Tryz.prog f #[.int .u8 (c.toNat : Int)] w fun e w' => e = .returned (.bool (p c)) ∧ w = w')
    (s : Str) (hs : s.length ≤ maxLen) (w : World) :
    Calls Tryz.prog 90 #[.string (bs s), .func (.func f) #[] #[]] w fun e w' => e = .returned (.bool (s.all p)) ∧ w = w' := by
  unfold maxLen at hs
  have Hf := Lib.hid hf
  clear hf
  go_enter Tryz.func90, Tryz.ntmps90
  go_wp2
  go_loop [8] (fun i => ∃ k : Nat, k ≤ s.length ∧ i = .int .i64 k ∧ Hid (∀ (j : Nat) (hj : j < s.length), j < k → p s[j] = true)) (fun i => s.length - (intOf i).toNat)
  case atStart => exact ⟨0, Nat.zero_le _, rfl, Lib.hid fun j _ h => absurd h (by omega)⟩
  case round =>
    obtain ⟨k, hk, rfl, hpre⟩ := hrel
    by_cases hlt : k < s.length
    · obtain ⟨t, ht⟩ : ∃ t, t = p s[k] := ⟨_, rfl⟩
      have hfc := (Hf.out s[k] w).mono fun e w' h => (⟨by rw [h.1, ht], h.2⟩ : e = .returned (.bool t) ∧ w = w')
      have Hfc := Lib.hid hfc
      have Ht := Lib.hid ht
      clear hfc ht
      go_wp2_with fail
      refine Hfc.out.mono ?_
      rintro e w1 ⟨rfl, rfl⟩
      cases t with
      | true =>
        go_wp2
        go_round
        case rel => exact ⟨k + 1, by omega, by go_num, Lib.hid fun j hj h => by
          by_cases e : j = k
          · subst e; exact Ht.out.symm
          · exact hpre.out j hj (by omega)⟩
        case measure => simp [intOf]; omega
      | false =>
        go_wp2
        go_ret
        exact ⟨by rw [all_false s p k hlt Ht.out.symm]; rfl, rfl⟩
    · go_wp2
      go_ret
      exact ⟨by rw [all_true s p fun i hi => hpre.out i hi (by omega)]; rfl, rfl⟩

theorem lowerC_nat (c : UInt8) : ((lowerC c).toNat : Int) = if 65 ≤ c.toNat ∧ c.toNat ≤ 90 then (c.toNat : Int) + 32 else (c.toNat : Int) := by
  have hc := c.toNat_lt
  unfold lowerC
  by_cases h : upc c = true
  · have h' : 65 ≤ c.toNat ∧ c.toNat ≤ 90 := by simpa [upc, UInt8.le_iff_toNat_le] using h
    rw [if_pos h, if_pos h', UInt8.toNat_add]
    simp
    omega
  · have h' : ¬ (65 ≤ c.toNat ∧ c.toNat ≤ 90) := by simpa [upc, UInt8.le_iff_toNat_le] using h
    rw [if_neg h, if_neg h']
/-- The bytes up to k in lower case. -/
def lowTo (s : Str) (k : Nat) : Str := (s.take k).map lowerC ++ s.drop k
theorem lowTo_len (s : Str) (k : Nat) : (lowTo s k).length = s.length := by simp [lowTo]; omega
theorem lowTo_zero (s : Str) : lowTo s 0 = s := by simp [lowTo]
theorem lowTo_all (s : Str) : lowTo s s.length = lowerF s := by simp [lowTo, lowerF]
theorem lowTo_get (s : Str) (k : Nat) (hk : k < s.length) : (lowTo s k)[k]'(by rw [lowTo_len]; exact hk) = s[k] := by
  simp [lowTo, Nat.min_eq_left (Nat.le_of_lt hk)]
theorem lowTo_succ (s : Str) (k : Nat) (hk : k < s.length) : lowTo s (k + 1) = (lowTo s k).set k (lowerC s[k]) := by
  have h1 : s.take (k + 1) = s.take k ++ [s[k]] := by rw [List.take_succ_eq_append_getElem hk]
  have h2 : s.drop k = s[k] :: s.drop (k + 1) := List.drop_eq_getElem_cons hk
  have h3 : ((s.take k).map lowerC).length = k := by simp; omega
  rw [lowTo, lowTo, h1, h2, List.map_append, List.set_append_right _ _ (by omega), h3, Nat.sub_self, List.set_cons_zero, List.append_assoc]
  rfl
theorem lowTo_same (s : Str) (k : Nat) (hk : k < s.length) (h : lowerC s[k] = s[k]) : lowTo s (k + 1) = lowTo s k := by
  rw [lowTo_succ s k hk, h]
  have := lowTo_get s k hk
  conv => lhs; rw [← this]
  exact List.set_getElem_self _
end Go.Proofs.YtiohhajkegpebaaGreatDoor
namespace Go.Proofs.YtiohhajkegpebaaGreatDoor
open Go.RowKit
set_option linter.unusedVariables false
def Sm.lc (c : UInt8) : Bool := decide (97 ≤ c) && decide (c ≤ 122)
theorem Sm.lc_int (c : UInt8) : Sm.lc c = (decide ((97 : Int) ≤ (c.toNat : Int)) && decide ((c.toNat : Int) ≤ 122)) := by
  rw [Bool.eq_iff_iff]
  simp only [Sm.lc, Bool.and_eq_true, decide_eq_true_eq, UInt8.le_iff_toNat_le, UInt8.reduceToNat]
  omega
theorem of1_ok (c : UInt8) (w : World) : Calls Tryz.prog 91 #[.int .u8 (c.toNat : Int)] w fun e w' => e = .returned (.bool (Sm.lc c)) ∧ w = w' := by
  have hl := Sm.lc_int c
  have Hl := Lib.hid hl
  clear hl
  by_cases h1 : (97 : Int) ≤ (c.toNat : Int)
  all_goals by_cases h2 : (c.toNat : Int) ≤ 122
  all_goals
    go_enter Tryz.func91, Tryz.ntmps91
    go_wp2
    go_ret
    exact ⟨by rw [Hl.out]; simp [h1, h2], rfl⟩
theorem Sm.letters_lc (s : Str) : Sm.letters s = s.all Sm.lc := rfl
set_option maxHeartbeats 1000000 in
theorem of_ok (s : Str) (hs : s.length ≤ maxLen) (w : World) : Calls Tryz.prog 60 #[.string (bs s)] w fun e w' => e = .returned (.string (bs (Sm.stem s))) ∧ Below w.heap.size w w' := by
  have hall := allB_ok 91 Sm.lc (enters_of Tryz.func91 (by kernel_rfl) rfl) of1_ok s hs w
  have Hall := Lib.hid hall
  clear hall
  unfold maxLen at hs
  by_cases h60 : s.length ≤ 60
  · have hd : decide (60 < (s.length : Int)) = false := by simp; omega
    obtain ⟨t, ht⟩ : ∃ t, s.all Sm.lc = t := ⟨_, rfl⟩
    have hc := Hall.out.mono fun e w' h => (⟨by rw [h.1, ht], h.2⟩ : e = .returned (.bool t) ∧ w = w')
    have Hc := Lib.hid hc
    clear hc Hall
    cases t with
    | false =>
      have hst : Sm.stem s = s := by unfold Sm.stem; rw [if_neg]; rw [Sm.letters_lc, ht]; simp
      have Hst := Lib.hid hst
      clear hst ht
      go_enter Tryz.func60, Tryz.ntmps60
      go_wp2_with fail
      refine Hc.out.mono ?_
      rintro e w1 ⟨rfl, rfl⟩
      go_wp2
      go_ret
      exact ⟨ret_str (by rw [Hst.out]), Below.refl _ _⟩
    | true =>
      have hst : Sm.stem s = Sm.rounds (Sm.mu s) s := by unfold Sm.stem; rw [if_pos ⟨by rw [Sm.letters_lc, ht], h60⟩]
      obtain ⟨res, hres⟩ : ∃ r, Sm.rounds (Sm.mu s) s = r := ⟨_, rfl⟩
      rw [hres] at hst
      have Hst := Lib.hid hst; have Hres := Lib.hid hres
      clear hst ht hres
      go_enter Tryz.func60, Tryz.ntmps60
      go_wp2_with fail
      refine Hc.out.mono ?_
      rintro e w1 ⟨rfl, rfl⟩
      go_wp2
      go_loopw [0] (fun v wr => ∃ t : Str, v = .string (bs t) ∧ t.length ≤ 60 ∧ Hid (Sm.rounds (Sm.mu t) t = res) ∧ Below w.heap.size w wr) (fun v _ => Sm.mu (strOf v))
      case atStart => exact ⟨s, rfl, h60, Hres, Below.refl _ _⟩
      case round =>
        obtain ⟨t, rfl, ht, hr, hb⟩ := hrel
        have hc := step_ok t wr (by omega)
        have hl := Sm.step_len t
        obtain ⟨u, hu⟩ : ∃ u, Sm.step t = u := ⟨_, rfl⟩
        rw [hu] at hc hl
        have Hu := Lib.hid hu; have Hc2 := Lib.hid hc
        clear hu hc
        go_wp2_with fail
        refine Hc2.out.mono ?_
        rintro e w1 ⟨rfl, hb1⟩
        clear Hc2
        have hb2 := below2 hb (hb1)
        cases hq : (u == t) with
        | true =>
          have he : Sm.step t = t := by rw [Hu.out]; exact eq_of_beq hq
          have He := Lib.hid he
          clear he
          go_wp2
          go_ret
          exact ⟨ret_str (by rw [Hst.out, ← hr.out, Sm.rounds_fix He.out, ← Hu.out, He.out]), hb2⟩
        | false =>
          have he : Sm.step t ≠ t := by rw [Hu.out]; intro e; rw [e] at hq; simp at hq
          have hm : Sm.mu u < Sm.mu t := by rw [← Hu.out]; exact Sm.step_mu he
          have he2 : Sm.rounds (Sm.mu u) u = res := by rw [← hr.out, Sm.rounds_step he, Hu.out]
          have He := Lib.hid he2
          clear he he2
          go_wp2
          go_roundw
          case rel => exact ⟨u, rfl, by omega, He, hb2⟩
          case measure => simpa [strOf, bs] using hm
  · have hst : Sm.stem s = s := by unfold Sm.stem; rw [if_neg]; omega
    have hd : decide (60 < (s.length : Int)) = true := by simp; omega
    have Hst := Lib.hid hst
    clear hst Hall
    go_enter Tryz.func60, Tryz.ntmps60
    go_wp2
    go_ret
    exact ⟨ret_str (by rw [Hst.out]), Below.refl _ _⟩
end Go.Proofs.YtiohhajkegpebaaGreatDoor
namespace Go.Proofs.YtiohhajkegpebaaGreatDoor
open Go.RowKit
set_option linter.unusedVariables false
theorem suffix_drop {s e : Str} (h : e.length ≤ s.length) : Lib.hasSuffix s e = ((s.drop (s.length - e.length)).take (s.length - (s.length - e.length)) == e) := by
  rw [List.take_of_length_le (by rw [List.length_drop]; omega), Bool.eq_iff_iff]
  unfold Lib.hasSuffix
  rw [List.isSuffixOf_iff_suffix, beq_iff_eq]
  constructor
  · rintro ⟨t, rfl⟩
    simp
  · intro h'
    rw [← h']
    exact List.drop_suffix _ _
theorem suffix_long {s e : Str} (h : s.length < e.length) : Lib.hasSuffix s e = false := by
  rw [Bool.eq_false_iff]
  intro h'
  unfold Lib.hasSuffix at h'
  have := (List.isSuffixOf_iff_suffix.1 h').length_le
  omega
theorem ends_ok (s e : Str) (hs : s.length ≤ maxLen) (w : World) : Calls Tryz.prog 68 #[.string (bs s), .string (bs e)] w fun r w' => r = .returned (.bool (Lib.hasSuffix s e)) ∧ w = w' := by
  unfold maxLen at hs
  by_cases h : e.length ≤ s.length
  · obtain ⟨t, ht⟩ : ∃ t, ((s.drop (s.length - e.length)).take (s.length - (s.length - e.length)) == e) = t := ⟨_, rfl⟩
    have hf : Lib.hasSuffix s e = t := by rw [suffix_drop h, ht]
    have Hf := Lib.hid hf
    clear hf
    have hd : decide ((e.length : Int) ≤ (s.length : Int)) = true := by simp; omega
    have hi : IntKind.i64.wrap ((s.length : Int) - (e.length : Int)) = (s.length : Int) - (e.length : Int) := IntWalk.i64_in _ (by omega)
    have hn : ((s.length : Int) - (e.length : Int)).toNat = s.length - e.length := by omega
    have h0 : (0 : Int) ≤ (s.length : Int) - (e.length : Int) := by omega
    have h1 : (e.length : Int) ≤ (s.length : Int) := by omega
    have h2 : (s.length : Int) - (e.length : Int) ≤ (s.length : Int) := by omega
    go_enter Tryz.func68, Tryz.ntmps68
    go_wp2
    go_ret
    exact ⟨ret_bool (by rw [Hf.out]), rfl⟩
  · have hf := suffix_long (s := s) (e := e) (by omega)
    have Hf := Lib.hid hf
    clear hf
    have hd : decide ((e.length : Int) ≤ (s.length : Int)) = false := by simp; omega
    go_enter Tryz.func68, Tryz.ntmps68
    go_wp2
    go_ret
    exact ⟨ret_bool (by rw [Hf.out]), rfl⟩
set_option maxHeartbeats 400000 in
theorem letters_ok (s : Str) (hs : s.length ≤ maxLen) (w : World) : Calls Tryz.prog 43 #[.string (bs s)] w fun e w' => e = .returned (.bool (Sm.letters s)) ∧ w = w' := by
  unfold maxLen at hs
  go_enter Tryz.func43, Tryz.ntmps43
  go_wp2
  go_loop [3] (fun i => ∃ k : Nat, k ≤ s.length ∧ i = .int .i64 k ∧ Hid (∀ (j : Nat) (hj : j < s.length), j < k → Sm.lc s[j] = true)) (fun i => s.length - (intOf i).toNat)
  case atStart => exact ⟨0, Nat.zero_le _, rfl, Lib.hid fun j _ h => absurd h (by omega)⟩
  case round =>
    obtain ⟨k, hk, rfl, hpre⟩ := hrel
    by_cases hlt : k < s.length
    · have hget : (bs s)[k]'(by simpa using hlt) = s[k] := bs_get s k (by simpa using hlt)
      obtain ⟨x, hx⟩ : ∃ x, s[k] = x := ⟨_, rfl⟩
      rw [hx] at hget
      have hxx := Sm.lc_int x
      have Hx := Lib.hid hx; have Hxx := Lib.hid hxx
      clear hx hxx
      by_cases h1 : (97 : Int) ≤ (x.toNat : Int)
      all_goals by_cases h2 : (x.toNat : Int) ≤ 122
      · have hd1 : decide ((x.toNat : Int) < 97) = false := by simp; omega
        have hd2 : decide ((122 : Int) < (x.toNat : Int)) = false := by simp; omega
        go_wp2
        go_round
        case rel => exact ⟨k + 1, by omega, by go_num, Lib.hid fun j hj h => by
          by_cases e : j = k
          · subst e; rw [Hx.out, Hxx.out]; simp [h1, h2]
          · exact hpre.out j hj (by omega)⟩
        case measure => simp [intOf]; omega
      all_goals
        have hf : Sm.letters s = false := by
          rw [Sm.letters_lc]
          exact all_false s _ k hlt (by rw [Hx.out, Hxx.out]; simp [h1, h2])
        have Hf := Lib.hid hf
        clear hf
        first
          | (have hd1 : decide ((x.toNat : Int) < 97) = true := by simp; omega)
          | (have hd1 : decide ((x.toNat : Int) < 97) = false := by simp; omega)
        first
          | (have hd2 : decide ((122 : Int) < (x.toNat : Int)) = true := by simp; omega)
          | (have hd2 : decide ((122 : Int) < (x.toNat : Int)) = false := by simp; omega)
        go_wp2
        all_goals go_ret
        all_goals exact ⟨ret_bool (by rw [Hf.out]), rfl⟩
    · go_wp2
      go_ret
      exact ⟨ret_bool (by rw [Sm.letters_lc, all_true s _ fun i hi => hpre.out i hi (by omega)]), rfl⟩
end Go.Proofs.YtiohhajkegpebaaGreatDoor

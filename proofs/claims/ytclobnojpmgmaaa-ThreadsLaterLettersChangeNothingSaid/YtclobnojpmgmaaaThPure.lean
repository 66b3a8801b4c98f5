/-
  Letters and answers: what the code and the reference compute.
-/
import Derived.Test.YtclobnojpmgmaaaOrd
namespace Go.Proofs.Ytclobnojpmgmaaa
/-- a letter: its Id, its Refs, its At -/
abbrev Letter := Str × List Str × Int
namespace Th
def earlier (a b : Letter) : Bool := decide (a.2.2 < b.2.2) || (decide (a.2.2 = b.2.2) && ltS a.1 b.1)
def ordF (a b : Letter) : Int := if a.2.2 < b.2.2 then -1 else if b.2.2 < a.2.2 then 1 else Lib.compareBytes a.1 b.1
theorem ord_lt (a b : Letter) : decide (ordF a b < 0) = earlier a b := by
  unfold ordF earlier
  by_cases h1 : a.2.2 < b.2.2
  · simp [h1]
  · by_cases h2 : b.2.2 < a.2.2
    · have : ¬ a.2.2 = b.2.2 := by omega
      simp [h1, h2, this]
    · have : a.2.2 = b.2.2 := by omega
      rw [if_neg h1, if_neg h2, cmp_eqS]
      cases hl : ltS a.1 b.1
      · by_cases he : a.1 = b.1
        · simp [he, h1]
        · simp [he]; omega
      · simp [this]
theorem ord_or (a b : Letter) : ordF a b = if (if a.2.2 < b.2.2 then (-1 : Int) else if b.2.2 < a.2.2 then 1 else 0) ≠ 0 then (if a.2.2 < b.2.2 then (-1 : Int) else if b.2.2 < a.2.2 then 1 else 0) else Lib.compareBytes a.1 b.1 := by
  unfold ordF
  by_cases h1 : a.2.2 < b.2.2
  · simp [h1]
  · by_cases h2 : b.2.2 < a.2.2
    · simp [h1, h2]
    · simp [h1, h2]
/-- the code of the error of a letter behind others -/
def errOf (pre : List Letter) (x : Letter) : Int :=
  if x.1 = [] ∨ 200 < x.1.length then 10
  else if ¬ (-68719476736 ≤ x.2.2 ∧ x.2.2 ≤ 68719476736) then 3
  else if 30 < x.2.1.length then 2
  else if pre.any (fun y => y.1 == x.1) then 7 else 0
def faultGo (l : List Letter) : Nat → Nat → Int × Int
  | 0, _ => (0, 0)
  | f + 1, k => match l[k]? with
    | none => (0, 0)
    | some x => if errOf (l.take k) x = 0 then faultGo l f (k + 1) else (errOf (l.take k) x, (k : Int))
def lettersF (l : List Letter) : Int × Int := if 300 < l.length then (2, -1) else faultGo l l.length 0
/-- the last letter of an Id -/
def lastOf : List Letter → Str → Option Nat
  | [], _ => none
  | x :: l, r => match lastOf l r with
    | some k => some (k + 1)
    | none => if x.1 == r then some 0 else none
/-- a reference: the letter that it names, if it is earlier -/
def refTo (l : List Letter) (x : Letter) (r : Str) : Option Nat := match lastOf l r with
  | some k => if (l[k]?.map fun y => earlier y x) = some true then some k else none
  | none => none
def pickO (o : Option Nat) (p : Int) : Int := match o with | some k => (k : Int) | none => p
def parentOf (l : List Letter) (x : Letter) : Int := x.2.1.foldl (fun p r => pickO (refTo l x r) p) (-1)
def parentsF (l : List Letter) : List Int := l.map (parentOf l)
end Th
end Go.Proofs.Ytclobnojpmgmaaa

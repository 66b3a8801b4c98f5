/-
  The children map of shown: rows of its own behind the keys.
-/
import Derived.Test.YtclobnojpmgmaaaThN
import Derived.Test.YtclobnojpmgmaaaThH
namespace Go.Proofs.Ytclobnojpmgmaaa
open Go.RowKit
set_option linter.unusedVariables false
def intK (s : Int) : Value := .int .i64 s
theorem intK_inj : ∀ a b : Int, intK a = intK b → a = b := by
  intro a b h
  unfold intK at h
  injection h
/-- what the map holds behind k letters: for each parent a row of its own -/
structure KidRows (P : List Int) (k : Nat) (B : Nat) (w : World) (m : Int → Option Value) : Prop where
  miss : ∀ s, Th.kidsTo P k s = [] → m s = none
  row : ∀ s, Th.kidsTo P k s ≠ [] → ∃ v, m s = some v ∧ Own intC M0 w B 3 v ((Th.kidsTo P k s).map fun (j : Nat) => (j : Int))
  apart : ∀ s s' v v', m s = some v → m s' = some v' → s ≠ s' → ∀ b, v.ownBlock = some b → v'.ownBlock ≠ some b
theorem KidRows.start (P : List Int) (B : Nat) (w : World) : KidRows P 0 B w fun _ => none :=
  ⟨fun _ _ => rfl, fun s h => absurd rfl h, fun s s' v v' h => by cases h⟩
theorem KidRows.ext {P : List Int} {k B : Nat} {w w' : World} {m : Int → Option Value} (h : KidRows P k B w m) (hb : Below w.heap.size w w') : KidRows P k B w' m :=
  ⟨h.miss, fun s hs => by obtain ⟨v, h1, h2⟩ := h.row s hs; exact ⟨v, h1, h2.ext hb⟩, h.apart⟩
theorem intK_key (a : Int) : Go.MapKept.IsKey (.int .i64) (intK a) := by simp [intK, Go.MapKept.IsKey]
theorem zero_ints (w : World) : (zeroValue 23).run Try.prog w = .ok (.slice none 0 0) w := by kernel_rfl
/-- looking up the rows of a parent -/
theorem kid_look {P : List Int} {k B b : Nat} {w : World} {m : Int → Option Value} (h : KidRows P k B w m) (hm : MapAt (.int .i64) intK w b m) (s : Int) (ty : TypeId) (hty : ty = 57) :
    ∃ v, (Instr.lookup ty (.map (some b)) (.int .i64 s) false).run Try.prog w = .ok v w ∧ Own intC M0 w B 3 v ((Th.kidsTo P k s).map fun (j : Nat) => (j : Int)) := by
  subst hty
  by_cases hs : Th.kidsTo P k s = []
  · refine ⟨.slice none 0 0, hm.look_none Try.underlying57 Try.underlying3 (zero_ints w) (k := s) (h.miss s hs) false, ?_⟩
    rw [hs]
    exact Own.nil _ _ _ _ _
  · obtain ⟨v, h1, h2⟩ := h.row s hs
    exact ⟨v, hm.look_some Try.underlying57 Try.underlying3 (k := s) h1 false, h2⟩
end Go.Proofs.Ytclobnojpmgmaaa

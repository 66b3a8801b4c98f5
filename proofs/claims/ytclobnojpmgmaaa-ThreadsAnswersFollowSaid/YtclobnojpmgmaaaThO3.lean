/-
  threads.Order: all letters.
-/
import Derived.Test.YtclobnojpmgmaaaThO
import Derived.Test.YtclobnojpmgmaaaThO2
import Derived.Test.YtclobnojpmgmaaaThP
namespace Go.Proofs.Ytclobnojpmgmaaa
open Go.RowKit
set_option linter.unusedVariables false
/-- What Order answers. -/
def ordQ (l : List Letter) : List Int × List Int × Int × Int := if (Th.lettersF l).1 ≠ 0 then ([], [], Th.lettersF l) else ((Th.shownA l (-1) 0).map (fun x => (x.1 : Int)), (Th.shownA l (-1) 0).map (fun x => x.2), 0, 0)
theorem torder_ok (v : Value) (l : List Letter) (w : World) (h : SlR letterC M0 w v l) : Calls Try.prog 8 #[v] w fun e w' => ∃ v1 v2, e = .returned (.tuple #[v1, v2, .agg #[.int .i64 (ordQ l).2.2.1, .int .i64 (ordQ l).2.2.2]]) ∧ SlR intC M0 w' v1 (ordQ l).1 ∧ SlR intC M0 w' v2 (ordQ l).2.1 ∧ Below w.heap.size w w' := by
  obtain ⟨A, c, rfl, _, _⟩ := h.form
  by_cases h0 : (Th.lettersF l).1 = 0
  · have hd := distinct_of h0
    have hn := short_of h0
    have hq : ordQ l = ((Th.shownA l (-1) 0).map (fun x => (x.1 : Int)), (Th.shownA l (-1) 0).map (fun x => x.2), 0, 0) := by rw [ordQ, if_neg (by simpa using h0)]
    rw [hq]
    refine (torder_good A c l w h hd h0 (by rw [shown_len hd]; omega) (fun x hx => ?_)).mono ?_
    · obtain ⟨h1, h2, h3⟩ := shown_lt _ _ _ x hx
      exact ⟨by omega, h2, by omega⟩
    · rintro e w' ⟨A1, c1, L1, A2, c2, L2, rfl, hL1, hL2, s1, s2, hb⟩
      have e1 := hL1.out
      have e2 := hL2.out
      subst e1 e2
      exact ⟨_, _, rfl, s1, s2, hb⟩
  · have hq : ordQ l = ([], [], Th.lettersF l) := by rw [ordQ, if_pos h0]
    rw [hq]
    refine (torder_bad A c l w h h0).mono ?_
    rintro e w' ⟨rfl, hb⟩
    exact ⟨_, _, rfl, SlR.nil _ _ _, SlR.nil _ _ _, hb⟩
end Go.Proofs.Ytclobnojpmgmaaa

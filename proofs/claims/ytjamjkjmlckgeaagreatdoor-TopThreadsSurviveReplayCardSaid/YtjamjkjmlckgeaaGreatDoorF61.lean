/-
  The card of the law TopThreadsSurviveReplay, from its walk.
-/
import Derived.Test.YtjamjkjmlckgeaaGreatDoorCards
import Derived.Test.YtjamjkjmlckgeaaGreatDoorTie
import Derived.Test.YtjamjkjmlckgeaaGreatDoorF60
import Derived.ProofKit
import Derived.OpenShut
import Derived.ShutString
import Derived.ChangeOld
import Derived.Below
import Derived.Deep.DeepHandedRow
import Derived.Lib.LaidTab
import Derived.Lay
import Derived.SevenTiedAt
import Derived.SizedLaws
import Derived.ChangeMaps5
namespace Go.Proofs.YtjamjkjmlckgeaaGreatDoor
open Go.ChangeShapes Go.WideShapes Go.ChangeAt Go.RowKit
set_option linter.unusedVariables false
namespace topThreadsSurviveReplayDone
theorem both {a b : Bool} (ha : a = true) (hb : b = true) : (a && b) = true := by rw [ha, hb]; rfl
set_option maxHeartbeats 4000000 in
theorem closed : joinedFacts Tryz.pinned.checked.prog 4 Tryz.f4 (OpenSpec.ofChange Rows.topThreadsSurviveReplaySpec).bare Rows.topThreadsSurviveReplayRow = true := by
  unfold joinedFacts
  refine both (both (both (both (both (both (both (both (both (both (both (both (both (both (both (both (both (both (both (both (both (both (both (both (both (both (both (both (both (both (both ?_ ?_) ?_) ?_) ?_) ?_) ?_) ?_) ?_) ?_) ?_) ?_) ?_) ?_) ?_) ?_) ?_) ?_) ?_) ?_) ?_) ?_) ?_) ?_) ?_) ?_) ?_) ?_) ?_) ?_) ?_) ?_
  all_goals as_aux_lemma => kernel_rfl
theorem wfText : Rows.topThreadsSurviveReplayRow.wfByText (OpenSpec.ofChange Rows.topThreadsSurviveReplaySpec) = true := by kernel_rfl
theorem goes : false = Rows.topThreadsSurviveReplayRow.goesBy Tryz.pinned.checked.prog := by kernel_rfl
theorem said : Rows.TopThreadsSurviveReplaySaid :=
  OpenClaim.holds_of_cond 4 Tryz.f4 rfl rfl rfl rfl rfl rfl rfl ⟨rfl, rfl, rfl, rfl, rfl⟩ rfl rfl rfl rfl rfl (by kernel_rfl) Tryz.func4 closed
    (of_decide_eq_true (by kernel_rfl)) (by unfold Func.isWrapper; first | (rw [if_pos (by decide +kernel)]; kernel_rfl) | (rw [if_neg (by decide +kernel)]; exact ⟨rfl, rfl⟩))
    (fun os started H enc _ F => by rw [OpenClaim.pre_eq_preRow]; exact lifted os started H enc F)
theorem plain (f : FuncId) (fn : Func) (hf : Tryz.pinned.checked.prog.funcNamed "posthouse/posthousetop.TopThreadsSurviveReplay" = some f) (hfn : Tryz.pinned.checked.prog.funcs[f]? = some fn) :
    true = Tryz.pinned.checked.prog.looks [] ∧ ∀ (j : Nat) t, fn.params[j]? = some t → Tryz.pinned.checked.prog.wantsStandIn t = false := by
  obtain rfl : f = 4 := Option.some.inj ((show Tryz.prog.funcNamed "posthouse/posthousetop.TopThreadsSurviveReplay" = some 4 by kernel_rfl).symm.trans hf) |>.symm
  obtain rfl : fn = Tryz.f4 := (Option.some.inj (Tryz.func4.symm.trans hfn)).symm
  refine ⟨by kernel_rfl, fun j t ht => ?_⟩
  rw [Tryz.params4] at ht
  have hm : t ∈ [26, 45] := by have := Array.mem_of_getElem? ht; simp at this ⊢; first | omega | (rcases this with h | h <;> simp [h])
  have hall : ([26, 45].all fun u => !Tryz.prog.wantsStandIn u) = true := by kernel_rfl
  exact (show Tryz.prog.wantsStandIn t = false by simpa using List.all_eq_true.1 hall t hm)
theorem card : Rows.TopThreadsSurviveReplayCardSaid :=
  Claim7.holds_tied_plain_at .later [] _ _ _ _ said (fun _ h => by cases h) wfText (fun _ h => by cases h) topThreadsSurviveReplay_row_tie rfl ⟨rfl, rfl⟩ (by kernel_rfl) rfl plain goes
end topThreadsSurviveReplayDone

theorem topThreadsSurviveReplay_holds : Rows.TopThreadsSurviveReplayCardSaid := topThreadsSurviveReplayDone.card
#print axioms topThreadsSurviveReplay_holds
end Go.Proofs.YtjamjkjmlckgeaaGreatDoor

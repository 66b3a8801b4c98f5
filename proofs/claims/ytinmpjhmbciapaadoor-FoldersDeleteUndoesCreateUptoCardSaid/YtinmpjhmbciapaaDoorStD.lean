/-
  slices.Clone on texts.
-/
import Derived.Test.YtinmpjhmbciapaaDoorStA
namespace Go.Proofs.YtinmpjhmbciapaaDoor
open Go.RowKit

theorem cloneSt_ok (M : Nat → Prop) (v : Value) (l : List Str) (w : World) (h : SlR strC M w v l) (hn : l.length ≤ 1000000) : Calls Tryd.prog 46 #[v] w fun e w' =>
    ∃ v', e = .returned v' ∧ Own strC M w' w.heap.size 9 v' l ∧ Below w.heap.size w w' := by
  obtain ⟨A, c, rfl, _, _⟩ := h.form
  have hnil := fun w => Lib.run_eql_slice_nil (P := Tryd.prog) w 22 9 A l.length c 0 0 Tryd.underlying22
  rcases A with _ | ad
  · go_enter Tryd.func46, Tryd.ntmps46
    go_wp2
    go_ret
    obtain rfl : l = [] := List.eq_nil_of_length_eq_zero (Nat.eq_zero_of_not_pos fun h0 => by obtain ⟨_, _, _, h', _⟩ := h.at_ h0; cases h')
    exact ⟨_, rfl, Own.nil _ _ _ _ _, Below.refl _ _⟩
  · go_enter Tryd.func46, Tryd.ntmps46
    go_wp2_with (at_builtin; refine wpList_append_Own strC (M := M) (B := w.heap.size) (l := []) (l' := l) TStrs rfl (.tmp 5) (.tmp 6) rfl rfl (Own.built (cs := []) _ (Els.nil _ _ _) (Nat.le_refl _) (Nat.zero_le _)) rfl ?_ ?_ ?_ ?_ ?_)
    case refine_1 =>
      refine (h.sub fun b hb hor => ?_).ext ((Below.refl _ _).alloc (Nat.le_refl _) _)
      rcases hor with h' | h'
      · exact h'
      · have h2 : w.heap.size = b := by simpa [Act.eval, Value.ownBlock] using h'
        omega
    case refine_2 => simp [maxLen]; omega
    case refine_3 => simp; omega
    case refine_4 => simp
    case refine_5 =>
      intro A' c' L w' hL hown _ hg hor
      obtain rfl : L = l := by simpa using hL.out
      go_wp2
      go_ret
      refine ⟨_, rfl, hown, ((Below.refl _ _).alloc (Nat.le_refl _) _).grown hg (by simp) fun k hk => ?_⟩
      simp [Value.ownBlock] at hk; omega
end Go.Proofs.YtinmpjhmbciapaaDoor

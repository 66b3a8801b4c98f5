/-
  Folders: above, below, Path, has.
-/
import Derived.Test.YtinmpjhmbciapaaDoorStS
import Derived.Test.YtinmpjhmbciapaaDoorStC
import Derived.Test.YtinmpjhmbciapaaDoorTx2
import Derived.Test.YtinmpjhmbciapaaDoorName
import Derived.Test.YtinmpjhmbciapaaDoorFoLaw
namespace Go.Proofs.YtinmpjhmbciapaaDoor
open Go.RowKit

/-- The place of the last slash. -/
def lastF (s : Str) : Int := if 47 ∈ s then ((aboveF s).length : Int) else -1
theorem above_take (s : Str) : s.take (aboveF s).length = aboveF s := by
  by_cases hs : 47 ∈ s
  · obtain ⟨p, q, rfl, hq⟩ := cut_last s hs
    rw [above_append p q hq, List.take_left]
  · rw [above_noslash s hs]; rfl
theorem last_hit {s : Str} {k : Nat} (hk : k < s.length) (h : s[k] = 47) (hn : ∀ (j : Nat) (hj : j < s.length), k < j → s[j] ≠ 47) : lastF s = k := by
  have hs : s = s.take k ++ 47 :: s.drop (k + 1) := by
    have := List.drop_eq_getElem_cons hk
    rw [h] at this
    rw [← this, List.take_append_drop]
  have hq : 47 ∉ s.drop (k + 1) := by
    intro hm
    obtain ⟨j, hj, he⟩ := List.getElem_of_mem hm
    rw [List.length_drop] at hj
    rw [List.getElem_drop] at he
    exact hn (k + 1 + j) (by omega) (by omega) he
  have ha : aboveF s = s.take k := by
    conv => lhs; rw [hs]
    exact above_append _ _ hq
  unfold lastF
  rw [if_pos (by rw [← h]; exact List.getElem_mem hk), ha, List.length_take]
  omega
theorem last_none {s : Str} (hn : ∀ (j : Nat) (hj : j < s.length), s[j] ≠ 47) : lastF s = -1 := by
  unfold lastF
  rw [if_neg]
  intro hm
  obtain ⟨j, hj, he⟩ := List.getElem_of_mem hm
  exact hn j hj he

set_option maxHeartbeats 1000000 in
theorem lastIndexB_ok (s : Str) (hs : s.length ≤ maxLen) (w : World) : Calls Tryd.prog 93 #[.string (bs s), .int .u8 47] w fun e w' => e = .returned (.int .i64 (lastF s)) ∧ w = w' := by
  unfold maxLen at hs
  go_enter Tryd.func93, Tryd.ntmps93
  go_wp2
  go_loop [5] (fun i => ∃ k : Nat, k ≤ s.length ∧ i = .int .i64 ((k : Int) - 1) ∧ Hid (∀ (j : Nat) (hj : j < s.length), k ≤ j → s[j] ≠ 47)) (fun i => (intOf i + 1).toNat)
  case atStart => exact ⟨s.length, Nat.le_refl _, rfl, Lib.hid fun j hj h => absurd hj (by omega)⟩
  case round =>
    obtain ⟨k, hk, rfl, hpre⟩ := hrel
    by_cases h0 : 0 < k
    · obtain ⟨m, rfl⟩ : ∃ m, k = m + 1 := ⟨k - 1, by omega⟩
      have hml : m < s.length := by omega
      have e1 : (((m + 1 : Nat) : Int) - 1) = (m : Int) := by omega
      rw [e1]
      have hx0 : (0 : Int) ≤ (m : Int) := by omega
      have hget : (bs s)[m]'(by simpa using hml) = s[m] := bs_get s m (by simpa using hml)
      obtain ⟨x, hx⟩ : ∃ x, s[m] = x := ⟨_, rfl⟩
      rw [hx] at hget
      have Hx := Lib.hid hx
      clear hx e1
      cases ht : ((x.toNat : Int) == 47) with
      | true =>
        go_wp2
        go_ret
        have hx47 : x = 47 := UInt8.toNat_inj.1 (by have := beq_iff_eq.1 ht; simp; omega)
        exact ⟨by rw [last_hit hml (Hx.out.trans hx47) fun j hj hjm => hpre.out j hj (by omega)]; rfl, rfl⟩
      | false =>
        go_wp2
        go_round
        case rel => exact ⟨m, by omega, rfl, Lib.hid fun j hj hjm => by
          by_cases e : j = m
          · subst e
            rw [Hx.out]
            rintro rfl
            simp at ht
          · exact hpre.out j hj (by omega)⟩
        case measure => simp [intOf]
    · obtain rfl : k = 0 := by omega
      go_wp2
      go_ret
      exact ⟨by rw [last_none fun j hj => hpre.out j hj (by omega)]; rfl, rfl⟩
theorem lastIndex_ok (s : Str) (hs : s.length ≤ maxLen) (w : World) : Calls Tryd.prog 78 #[.string (bs s), .int .u8 47] w fun e w' => e = .returned (.int .i64 (lastF s)) ∧ w = w' := by
  have hb := lastIndexB_ok s hs w
  generalize lastF s = n at hb ⊢
  go_enter Tryd.func78, Tryd.ntmps78
  go_wp2_with fail
  refine hb.mono ?_
  rintro e w' ⟨rfl, rfl⟩
  go_wp2
  go_ret
  exact ⟨rfl, rfl⟩
theorem above_ok (s : Str) (hs : s.length ≤ maxLen) (w : World) : Calls Tryd.prog 54 #[.string (bs s)] w fun e w' => e = .returned (.string (bs (aboveF s))) ∧ w = w' := by
  have hb := lastIndex_ok s hs w
  have hal : (aboveF s).length ≤ s.length := by
    by_cases h : s = []
    · subst h; exact Nat.le_refl _
    · exact Nat.le_of_lt (above_lt s h)
  obtain ⟨a, ha⟩ : ∃ a, a = aboveF s := ⟨_, rfl⟩
  have ht := above_take s
  unfold maxLen at hs
  by_cases h47 : 47 ∈ s
  · have hl : lastF s = (a.length : Int) := by unfold lastF; rw [if_pos h47, ha]
    rw [hl] at hb
    rw [← ha] at hal ht ⊢
    have Ht := Lib.hid ht
    clear ht ha hl
    go_enter Tryd.func54, Tryd.ntmps54
    go_wp2_with fail
    refine hb.mono ?_
    rintro e w' ⟨rfl, rfl⟩
    go_wp2
    go_ret
    exact ⟨by simp [Ht.out], rfl⟩
  · have hl : lastF s = -1 := by unfold lastF; rw [if_neg h47]
    rw [hl] at hb
    rw [above_noslash s h47]
    clear ht ha hl
    go_enter Tryd.func54, Tryd.ntmps54
    go_wp2_with fail
    refine hb.mono ?_
    rintro e w' ⟨rfl, rfl⟩
    have hm : (max (-1 : Int) 0).toNat = 0 := by decide
    go_wp2
    go_ret
    exact ⟨by simp; rfl, rfl⟩

theorem isPrefix_eq (p s : Str) : p.isPrefixOf s = (decide (p.length ≤ s.length) && (s.take p.length == p)) := by
  rw [Bool.eq_iff_iff, List.isPrefixOf_iff_prefix, Bool.and_eq_true, decide_eq_true_eq, beq_iff_eq, List.prefix_iff_eq_take]
  constructor
  · intro h
    refine ⟨?_, h.symm⟩
    rw [h, List.length_take]; omega
  · intro h; exact h.2.symm
theorem hasPrefix1_ok (s p : Str) (w : World) : Calls Tryd.prog 92 #[.string (bs s), .string (bs p)] w fun e w' => e = .returned (.bool (p.isPrefixOf s)) ∧ w = w' := by
  have he := isPrefix_eq p s
  have He := Lib.hid he
  clear he
  by_cases hl : p.length ≤ s.length
  · go_enter Tryd.func92, Tryd.ntmps92
    go_wp2
    go_ret
    exact ⟨by rw [He.out]; simp [hl], rfl⟩
  · go_enter Tryd.func92, Tryd.ntmps92
    go_wp2
    go_ret
    exact ⟨by rw [He.out]; simp [hl], rfl⟩
theorem hasPrefixG_ok (s p : Str) (w : World) : Calls Tryd.prog 75 #[.string (bs s), .string (bs p)] w fun e w' => e = .returned (.bool (p.isPrefixOf s)) ∧ w = w' := by
  have hb := hasPrefix1_ok s p w
  generalize p.isPrefixOf s = n at hb ⊢
  go_enter Tryd.func75, Tryd.ntmps75
  go_wp2_with fail
  refine hb.mono ?_
  rintro e w' ⟨rfl, rfl⟩
  go_wp2
  go_ret
  exact ⟨rfl, rfl⟩
@[simp] theorem bs_append_mk' (a : Array UInt8) (l : Str) : bs l ++ (⟨a⟩ : ByteArray) = bs (l ++ a.toList) := by
  apply ByteArray.ext; simp [bs]
theorem below_ok (s t : Str) (ht : t.length ≤ 4000000) (w : World) : Calls Tryd.prog 50 #[.string (bs s), .string (bs t)] w fun e w' => e = .returned (.bool (belowF s t)) ∧ w = w' := by
  have hb := hasPrefixG_ok s (t ++ [47]) w
  unfold belowF
  generalize (t ++ [47]).isPrefixOf s = n at hb ⊢
  go_enter Tryd.func50, Tryd.ntmps50
  go_wp2_with fail
  refine hb.mono ?_
  rintro e w' ⟨rfl, rfl⟩
  go_wp2
  go_ret
  exact ⟨rfl, rfl⟩
theorem path1_ok (s : Str) (w : World) (hs : s.length ≤ maxLen) : Calls Tryd.prog 69 #[.string (bs s)] w fun e w' => e = .returned (.bool (!nameF s)) ∧ Below w.heap.size w w' := by
  have h := name_ok s hs w
  have H := Lib.hid h
  clear h hs
  go_enter Tryd.func69, Tryd.ntmps69
  go_wp2_with fail
  refine H.out.mono ?_
  rintro e w1 ⟨rfl, rfl⟩
  go_wp2
  go_ret
  exact ⟨rfl, Below.refl _ _⟩
theorem path_ok (s : Str) (hs : s.length ≤ 4000000) (w : World) : Calls Tryd.prog 42 #[.string (bs s)] w fun e w' => e = .returned (.bool (pathF s)) ∧ Below w.heap.size w w' := by
  have h := split_ok M0 s w hs (fun _ h => h.elim)
  have H := Lib.hid h
  obtain ⟨L, hL⟩ : ∃ L, splitF s = L := ⟨_, rfl⟩
  have hp : pathF s = (decide (L.length ≤ 8) && L.all nameF) := by rw [pathF, hL]
  rw [hp]
  rw [hL] at H
  clear h hL hp
  have hall : L.all nameF = !L.any (fun n => !nameF n) := by rw [List.all_eq_not_any_not]
  rw [hall]
  by_cases hl : L.length ≤ 8
  all_goals
    go_enter Tryd.func42, Tryd.ntmps42
    go_wp2_with fail
    refine H.out.mono ?_
    rintro e w1 ⟨v, rfl, hown, hb1⟩
    obtain ⟨A, c, rfl, _, _⟩ := hown.shape
    go_wp2_with fail
  · refine (containsFuncS_ok M0 69 #[] (fun n => !nameF n) L _ w1 hown.read0 (enters_of Tryd.func69 (by kernel_rfl) rfl) (fun g w2 _ hg => path1_ok g w2 hg)).mono ?_
    rintro e w2 ⟨rfl, hb2⟩
    go_wp2
    go_ret
    exact ⟨by simp [hl], below2 hb1 hb2⟩
  · go_ret
    exact ⟨by simp, hb1⟩
end Go.Proofs.YtinmpjhmbciapaaDoor

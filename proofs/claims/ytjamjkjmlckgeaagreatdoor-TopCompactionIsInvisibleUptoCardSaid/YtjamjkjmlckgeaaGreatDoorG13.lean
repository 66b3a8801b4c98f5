/-
  Contracts and plain facts, one after another: The next number of a mailbox that is changed; what is known of a message; Letters and answers: what the code and the reference compute.
-/
import Derived.Test.YtjamjkjmlckgeaaGreatDoorG12
import Derived.Test.YtjamjkjmlckgeaaGreatDoorG1
namespace Go.Proofs.YtjamjkjmlckgeaaGreatDoor
namespace Mb
/-! ### what clients know -/
abbrev Seen := Int × Int
abbrev View := Int × List Seen
def knownB (s : Seen) : Bool := (decide (1 ≤ s.1) && decide (s.1 ≤ 1000000)) && (decide (0 ≤ s.2) && decide (s.2 ≤ 63))
def seenErr (l : List Seen) (i : Nat) : Int :=
  if knownB (l.getD i (0, 0)) = false then 3 else if 0 < i ∧ (l.getD i (0, 0)).1 ≤ (l.getD (i - 1) (0, 0)).1 then 19 else 0
def viewErr (v : View) : Int × Int :=
  if 600 < v.2.length then (2, -1) else if v.1 < 0 ∨ 1000000 < v.1 then (3, -1) else errGo (seenErr v.2) 0 v.2.length 0
def allV (b : Box) : List Seen := b.es.map fun e => (e.1, e.2.2.1)
def sinceC (b : Box) (seq : Int) : List Seen := (b.es.filter fun e => decide (seq ≤ e.2.1)).map fun e => (e.1, e.2.2.1)
def sinceG (b : Box) (seq : Int) : List Int := (b.gs.filter fun g => decide (seq ≤ g.2)).map (·.1)
def below (l : List Seen) (u : Int) : Nat := (l.takeWhile fun x => decide (x.1 < u)).length
def putS (l : List Seen) (s : Seen) : List Seen :=
  if (l.getD (below l s.1) (0, 0)).1 = s.1 ∧ below l s.1 < l.length then l.set (below l s.1) s else l.take (below l s.1) ++ s :: l.drop (below l s.1)
def updF (v : View) (ch : List Seen) (va : List Int) (seq : Int) : View := (seq, (ch.foldl putS v.2).filter fun s => !va.contains s.1)
/-- what a client sees that has caught up, and whether it began anew -/
def catchF (b : Box) (v : View) : View × Bool :=
  if b.hz < v.1 ∧ (viewErr (updF v (sinceC b v.1) (sinceG b v.1) b.ns)).1 = 0 then (updF v (sinceC b v.1) (sinceG b v.1) b.ns, false) else ((b.ns, allV b), true)
structure VGood (v : View) : Prop where
  len : v.2.length ≤ 600
  seq : 0 ≤ v.1 ∧ v.1 ≤ 1000000
  kn : ∀ s ∈ v.2, (1 ≤ s.1 ∧ s.1 ≤ 1000000) ∧ (0 ≤ s.2 ∧ s.2 ≤ 63)
  up : v.2.Pairwise fun x y => x.1 < y.1
def Rising (l : List Seen) : Prop := l.Pairwise fun x y => x.1 < y.1
theorem knownB_iff (s : Seen) : knownB s = true ↔ (1 ≤ s.1 ∧ s.1 ≤ 1000000) ∧ (0 ≤ s.2 ∧ s.2 ≤ 63) := by
  unfold knownB
  simp only [Bool.and_eq_true, decide_eq_true_eq]
theorem srise_get {l : List Seen} : (∀ i, 0 < i → i < l.length → (l.getD (i - 1) (0, 0)).1 < (l.getD i (0, 0)).1) ↔ Rising l := by
  unfold Rising
  constructor
  · intro h
    rw [List.pairwise_iff_getElem]
    intro i j hi hj hij
    induction j with
    | zero => omega
    | succ j ih =>
      have h1 := h (j + 1) (by omega) hj
      rw [gD _ (by omega), gD _ hj] at h1
      simp only [Nat.add_sub_cancel] at h1
      by_cases h2 : i = j
      · subst h2; exact h1
      · exact Int.lt_trans (ih (by omega) (by omega)) h1
  · intro h i h1 h2
    rw [List.pairwise_iff_getElem] at h
    rw [gD _ (by omega), gD _ h2]
    exact h (i - 1) i (by omega) h2 (by omega)
theorem viewErr_good {v : View} : (viewErr v).1 = 0 ↔ VGood v := by
  unfold viewErr
  by_cases h1 : 600 < v.2.length
  · rw [if_pos h1]
    exact ⟨fun h => (by cases h), fun h => absurd h.len (by omega)⟩
  rw [if_neg h1]
  by_cases h2 : v.1 < 0 ∨ 1000000 < v.1
  · rw [if_pos h2]
    exact ⟨fun h => (by cases h), fun h => absurd h.seq (by omega)⟩
  rw [if_neg h2, errGo_zero]
  have hs : ∀ i, i < v.2.length → (seenErr v.2 i = 0 ↔ knownB (v.2.getD i (0, 0)) = true ∧ (0 < i → (v.2.getD (i - 1) (0, 0)).1 < (v.2.getD i (0, 0)).1)) := by
    intro i hi
    unfold seenErr
    cases h3 : knownB (v.2.getD i (0, 0))
    · rw [if_pos rfl]
      exact ⟨fun h => (by cases h), fun h => (by cases h.1)⟩
    · rw [if_neg (by simp)]
      by_cases h4 : 0 < i ∧ (v.2.getD i (0, 0)).1 ≤ (v.2.getD (i - 1) (0, 0)).1
      · rw [if_pos h4]
        exact ⟨fun h => (by cases h), fun h => absurd (h.2 h4.1) (by omega)⟩
      · rw [if_neg h4]
        exact ⟨fun _ => ⟨rfl, fun h5 => by omega⟩, fun _ => rfl⟩
  constructor
  · intro h
    refine ⟨by omega, by omega, fun s hs' => ?_, srise_get.1 fun i h3 h4 => ((hs i h4).1 (h i (by omega) (by omega))).2 h3⟩
    obtain ⟨i, hi, rfl⟩ := List.getElem_of_mem hs'
    have := ((hs i hi).1 (h i (by omega) (by omega))).1
    rw [gD _ hi] at this
    exact (knownB_iff _).1 this
  · intro h i _ hi
    have hi : i < v.2.length := by omega
    refine (hs i hi).2 ⟨?_, fun h3 => srise_get.2 h.up i h3 hi⟩
    rw [gD _ hi]
    exact (knownB_iff _).2 (h.kn _ (List.getElem_mem hi))
theorem viewErr_pair {v : View} (h : (viewErr v).1 = 0) : viewErr v = (0, 0) := by
  unfold viewErr at h ⊢
  split at h
  · cases h
  rename_i h1
  rw [if_neg h1]
  split at h
  · cases h
  rename_i h2
  rw [if_neg h2]
  exact errGo_pair _ _ _ _ h
/-- the view of a client that knows everything -/
theorem view_of {b : Box} (h : Good b) : VGood (b.ns, allV b) := by
  have h1 := h.le; have h2 := h.ns; have h3 := h.nu
  refine ⟨?_, by dsimp only; omega, fun s hs => ?_, ?_⟩
  · show (b.es.map _).length ≤ 600
    rw [List.length_map]; omega
  · rw [show (b.ns, allV b).2 = b.es.map fun e => (e.1, e.2.2.1) from rfl, List.mem_map] at hs
    obtain ⟨e, he, rfl⟩ := hs
    have := h.es e he
    dsimp only
    omega
  · show (b.es.map _).Pairwise _
    rw [List.pairwise_map]
    exact h.up
theorem since_known {b : Box} (h : Good b) {seq : Int} : ∀ s ∈ sinceC b seq, (1 ≤ s.1 ∧ s.1 ≤ 1000000) ∧ (0 ≤ s.2 ∧ s.2 ≤ 63) := by
  intro s hs
  unfold sinceC at hs
  rw [List.mem_map] at hs
  obtain ⟨e, he, rfl⟩ := hs
  have := h.es e (List.mem_filter.1 he).1
  have := h.nu
  dsimp only
  omega
theorem since_len (b : Box) (seq : Int) : (sinceC b seq).length ≤ b.es.length ∧ (sinceG b seq).length ≤ b.gs.length := by
  unfold sinceC sinceG
  rw [List.length_map, List.length_map]
  exact ⟨List.length_filter_le _ _, List.length_filter_le _ _⟩
theorem below_le (l : List Seen) (u : Int) : below l u ≤ l.length := by
  unfold below
  exact (List.takeWhile_sublist _).length_le
theorem below_lt {l : List Seen} {u : Int} {i : Nat} (h : i < below l u) : (l[i]'(Nat.lt_of_lt_of_le h (below_le l u))).1 < u := by
  have h1 : l[i]'(Nat.lt_of_lt_of_le h (below_le l u)) ∈ l.takeWhile fun x => decide (x.1 < u) := by
    have h2 := List.takeWhile_prefix (l := l) fun x => decide (x.1 < u)
    rw [← h2.getElem h]
    exact List.getElem_mem _
  simpa using List.all_eq_true.1 (List.all_takeWhile (p := fun x : Seen => decide (x.1 < u)) (l := l)) _ h1
theorem below_at {l : List Seen} {u : Int} (h : below l u < l.length) : ¬ l[below l u].1 < u := by
  induction l with
  | nil => exact absurd h (by simp)
  | cons x l ih =>
    unfold below at h ⊢
    rw [List.takeWhile_cons] at h
    by_cases h1 : x.1 < u
    · simp only [h1, decide_true, if_true, List.length_cons] at h
      have := ih (by unfold below; omega)
      simp only [List.takeWhile_cons, h1, decide_true, if_true, List.length_cons, List.getElem_cons_succ]
      exact this
    · simp only [List.takeWhile_cons, h1, decide_false, if_false, List.length_nil, List.getElem_cons_zero, Bool.false_eq_true]
      exact fun h => h
theorem below_up {l : List Seen} (hl : Rising l) {u : Int} {i : Nat} (h : below l u ≤ i) (hi : i < l.length) : ¬ l[i].1 < u := by
  have h1 := below_at (u := u) (Nat.lt_of_le_of_lt h hi)
  by_cases h2 : below l u = i
  · simp only [h2] at h1; exact h1
  · have := List.pairwise_iff_getElem.1 hl (below l u) i (by omega) hi (by omega)
    omega
theorem putS_len (l : List Seen) (s : Seen) : (putS l s).length ≤ l.length + 1 := by
  unfold putS
  split
  · rw [List.length_set]; omega
  · have := below_le l s.1
    rw [List.length_append, List.length_take, List.length_cons, List.length_drop]
    omega
theorem putS_rising {l : List Seen} (hl : Rising l) (s : Seen) : Rising (putS l s) := by
  unfold putS
  have hu := List.pairwise_iff_getElem.1 hl
  by_cases h : (l.getD (below l s.1) (0, 0)).1 = s.1 ∧ below l s.1 < l.length
  · rw [if_pos h]
    obtain ⟨h1, h2⟩ := h
    rw [gD _ h2] at h1
    unfold Rising
    rw [List.pairwise_iff_getElem]
    intro j k hj hk hjk
    rw [List.length_set] at hj hk
    have h7 := hu j k hj hk hjk
    simp only [List.getElem_set]
    split
    · rename_i h8
      rw [if_neg (by omega)]
      have := hu (below l s.1) k h2 hk (by omega)
      omega
    · split
      · rename_i h8
        have := hu j (below l s.1) hj h2 (by omega)
        omega
      · exact h7
  · rw [if_neg h]
    unfold Rising
    rw [List.pairwise_append, List.pairwise_cons]
    refine ⟨hl.sublist (List.take_sublist _ _), ⟨?_, hl.sublist (List.drop_sublist _ _)⟩, ?_⟩
    · intro y hy
      rw [List.mem_drop_iff_getElem] at hy
      obtain ⟨j, hj, rfl⟩ := hy
      have h1 := below_up hl (u := s.1) (i := below l s.1 + j) (by omega) (by omega)
      by_cases h2 : s.1 < l[below l s.1 + j].1
      · exact h2
      · exfalso
        have h3 : l[below l s.1 + j].1 = s.1 := by omega
        by_cases h4 : j = 0
        · subst h4
          exact h ⟨by rw [gD _ (by omega)]; exact h3, by omega⟩
        · have h5 := hu (below l s.1) (below l s.1 + j) (by omega) (by omega) (by omega)
          have h6 := below_up hl (u := s.1) (i := below l s.1) (by omega) (by omega)
          omega
    · intro x hx y hy
      rw [List.mem_take_iff_getElem] at hx
      obtain ⟨i, hi, rfl⟩ := hx
      have h1 := below_lt (l := l) (u := s.1) (i := i) (by omega)
      rcases List.mem_cons.1 hy with rfl | hy
      · exact h1
      · rw [List.mem_drop_iff_getElem] at hy
        obtain ⟨j, hj, rfl⟩ := hy
        exact hu i (below l s.1 + j) (by omega) (by omega) (by omega)
theorem puts_rising : ∀ (ch l : List Seen), Rising l → Rising (ch.foldl putS l)
  | [], _, h => h
  | s :: ch, _, h => puts_rising ch _ (putS_rising h s)
theorem puts_len : ∀ (ch l : List Seen), (ch.foldl putS l).length ≤ l.length + ch.length
  | [], _ => Nat.le_refl _
  | s :: ch, l => by
    have h1 := puts_len ch (putS l s)
    have h2 := putS_len l s
    rw [List.foldl_cons, List.length_cons]
    omega
end Mb
end Go.Proofs.YtjamjkjmlckgeaaGreatDoor
namespace Go.Proofs.YtjamjkjmlckgeaaGreatDoor
open Go.RowKit

theorem next_ok (g : Nat) (t : TypeId) (c0 c2 c3 c4 : Value) (ns : Int) (hn : 0 ≤ ns ∧ ns ≤ 1000000) (w : World) (h : Blk w g t #[c0, .int .i64 ns, c2, c3, c4]) : Calls Tryz.prog 59 #[.pointer (some ⟨g, 0, none⟩)] w fun e w' => e = .returned (.int .i64 ns) ∧ w' = w.setCell ⟨g, 1, none⟩ (.int .i64 (ns + 1)) := by
  have q1 := h.cell 1
  have f1 := h.frozen 1
  have hl := h.lt
  have k2 := (h.set_ 1 (.int .i64 (ns + 1))).cell 1
  go_enter Tryz.func59, Tryz.ntmps59
  go_wp2
  go_ret
  exact ⟨by simp, rfl⟩
theorem known_ok (s : Mb.Seen) (w : World) : Calls Tryz.prog 64 #[.agg #[.int .i64 s.1, .int .i64 s.2]] w fun e w' => e = .returned (.bool (Mb.knownB s)) ∧ Below w.heap.size w w' := by
  obtain ⟨t1, e1⟩ : ∃ t, decide (1 ≤ s.1) = t := ⟨_, rfl⟩
  obtain ⟨t2, e2⟩ : ∃ t, decide (s.1 ≤ 1000000) = t := ⟨_, rfl⟩
  obtain ⟨t3, e3⟩ : ∃ t, decide (0 ≤ s.2) = t := ⟨_, rfl⟩
  obtain ⟨t4, e4⟩ : ∃ t, decide (s.2 ≤ 63) = t := ⟨_, rfl⟩
  have HK := Lib.hid (show Mb.knownB s = ((t1 && t2) && (t3 && t4)) by unfold Mb.knownB; rw [e1, e2, e3, e4])
  cases t1 <;> cases t2 <;> cases t3 <;> cases t4
  all_goals
    go_enter Tryz.func64, Tryz.ntmps64
    go_wp2
    go_ret
    exact ⟨by rw [HK.out]; rfl, (Below.refl _ _).alloc (Nat.le_refl _) _⟩
end Go.Proofs.YtjamjkjmlckgeaaGreatDoor
namespace Go.Proofs.YtjamjkjmlckgeaaGreatDoor
/-- a letter: its Id, its Refs, its At -/
abbrev Letter := Str × List Str × Int
namespace Th
def earlier (a b : Letter) : Bool := decide (a.2.2 < b.2.2) || (decide (a.2.2 = b.2.2) && ltS a.1 b.1)
def ordF (a b : Letter) : Int := if a.2.2 < b.2.2 then -1 else if b.2.2 < a.2.2 then 1 else Lib.compareBytes a.1 b.1
theorem ord_lt (a b : Letter) : decide (ordF a b < 0) = earlier a b := by
  unfold ordF earlier
  by_cases h1 : a.2.2 < b.2.2
  · simp [h1]
  · by_cases h2 : b.2.2 < a.2.2
    · have : ¬ a.2.2 = b.2.2 := by omega
      simp [h1, h2, this]
    · have : a.2.2 = b.2.2 := by omega
      rw [if_neg h1, if_neg h2, cmp_eqS]
      cases hl : ltS a.1 b.1
      · by_cases he : a.1 = b.1
        · simp [he, h1]
        · simp [he]; omega
      · simp [this]
theorem ord_or (a b : Letter) : ordF a b = if (if a.2.2 < b.2.2 then (-1 : Int) else if b.2.2 < a.2.2 then 1 else 0) ≠ 0 then (if a.2.2 < b.2.2 then (-1 : Int) else if b.2.2 < a.2.2 then 1 else 0) else Lib.compareBytes a.1 b.1 := by
  unfold ordF
  by_cases h1 : a.2.2 < b.2.2
  · simp [h1]
  · by_cases h2 : b.2.2 < a.2.2
    · simp [h1, h2]
    · simp [h1, h2]
/-- the code of the error of a letter behind others -/
def errOf (pre : List Letter) (x : Letter) : Int :=
  if x.1 = [] ∨ 200 < x.1.length then 10
  else if ¬ (-68719476736 ≤ x.2.2 ∧ x.2.2 ≤ 68719476736) then 3
  else if 30 < x.2.1.length then 2
  else if pre.any (fun y => y.1 == x.1) then 7 else 0
def faultGo (l : List Letter) : Nat → Nat → Int × Int
  | 0, _ => (0, 0)
  | f + 1, k => match l[k]? with
    | none => (0, 0)
    | some x => if errOf (l.take k) x = 0 then faultGo l f (k + 1) else (errOf (l.take k) x, (k : Int))
def lettersF (l : List Letter) : Int × Int := if 300 < l.length then (2, -1) else faultGo l l.length 0
/-- the last letter of an Id -/
def lastOf : List Letter → Str → Option Nat
  | [], _ => none
  | x :: l, r => match lastOf l r with
    | some k => some (k + 1)
    | none => if x.1 == r then some 0 else none
/-- a reference: the letter that it names, if it is earlier -/
def refTo (l : List Letter) (x : Letter) (r : Str) : Option Nat := match lastOf l r with
  | some k => if (l[k]?.map fun y => earlier y x) = some true then some k else none
  | none => none
def pickO (o : Option Nat) (p : Int) : Int := match o with | some k => (k : Int) | none => p
def parentOf (l : List Letter) (x : Letter) : Int := x.2.1.foldl (fun p r => pickO (refTo l x r) p) (-1)
def parentsF (l : List Letter) : List Int := l.map (parentOf l)
end Th
end Go.Proofs.YtjamjkjmlckgeaaGreatDoor

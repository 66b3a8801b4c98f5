/-
  Contracts and plain facts, one after another: threads.Parents; the reference's Earlier; The reference's Parent; The reference's parents are the code's, where the Ids differ.
-/
import Derived.Test.YtjamjkjmlckgeaaGreatDoorF30
namespace Go.Proofs.YtjamjkjmlckgeaaGreatDoor
open Go.RowKit
set_option linter.unusedVariables false
/-- What Parents answers. -/
def parQ (l : List Letter) : List Int × Int × Int := if (Th.lettersF l).1 ≠ 0 then ([], Th.lettersF l) else (Th.parentsF l, 0, 0)
theorem short_of {l : List Letter} (h : (Th.lettersF l).1 = 0) : l.length ≤ 300 := by
  unfold Th.lettersF at h
  split at h
  · cases h
  · omega
theorem Own.intM {M M' : Nat → Prop} {w : World} {B : Nat} {e : TypeId} {v : Value} {l : List Int} (h : Own intC M w B e v l) : Own intC M' w B e v l := by
  obtain ⟨xs, ho, he⟩ := h
  exact ⟨xs, ho, ⟨he.1, fun i hi => he.2 i hi⟩⟩
set_option maxRecDepth 100000 in
set_option maxHeartbeats 2000000 in
theorem tparents_ok (v : Value) (l : List Letter) (w : World) (h : SlR letterC M0 w v l) : Calls Tryz.prog 19 #[v] w fun e w' => ∃ v', e = .returned (.tuple #[v', .agg #[.int .i64 (parQ l).2.1, .int .i64 (parQ l).2.2]]) ∧ SlR intC M0 w' v' (parQ l).1 ∧ Below w.heap.size w w' := by
  obtain ⟨A, c, rfl, _, _⟩ := h.form
  obtain ⟨⟨g1, g2⟩, hg⟩ : ∃ f, Th.lettersF l = f := ⟨_, rfl⟩
  have hr : parQ l = if g1 ≠ 0 then ([], g1, g2) else (Th.parentsF l, 0, 0) := by rw [parQ, hg]
  have hsh : g1 = 0 → l.length ≤ 300 := fun h0 => short_of (by rw [hg]; exact h0)
  have hL := fun w' (hb : Below w.heap.size w w') => tvalidate_ok _ l w' (h.ext hb)
  rw [hg] at hL
  have hP := fun w' (hb : Below w.heap.size w w') (hn : l.length ≤ 4000000) => parents_ok _ l w' (h.ext hb) hn
  have HL := Lib.hid hL; have Hr := Lib.hid hr; have Hg := Lib.hid hg; have Hh := Lib.hid h; have HP := Lib.hid hP; have Hsh := Lib.hid hsh
  clear hL hr hg h hP hsh
  have kf := Blk.new w 31 #[.int .i64 0, .int .i64 0]
  have b0 := (Below.refl w.heap.size w).alloc (Nat.le_refl _) (.cells #[.int .i64 0, .int .i64 0] 31)
  go_enter Tryz.func19, Tryz.ntmps19
  go_wp2_with fail
  generalize w.alloc (.cells #[.int .i64 0, .int .i64 0] 31) = w0 at kf b0 ⊢
  refine (HL.out _ b0).mono ?_
  rintro e w1 ⟨rfl, hb1⟩
  have kf1 := kf.ext hb1
  have b1 := b0.trans (hb1.mono b0.size)
  go_wp2_with fail
  refine (failed_ok _ _ _).mono ?_
  rintro e w2 ⟨rfl, hb2⟩
  have kf2 := (kf1.alloc _).ext hb2
  have ke2 := (Blk.new w1 31 #[.int .i64 g1, .int .i64 g2]).ext hb2
  have b2 := (b1.alloc b1.size _).trans (hb2.mono (b1.alloc b1.size _).size)
  clear kf b0 kf1 b1 hb1 hb2
  by_cases hg0 : g1 = 0
  · have hr2 : parQ l = (Th.parentsF l, 0, 0) := by rw [Hr.out, if_neg (by simpa using hg0)]
    have hn := Hsh.out hg0
    have Hr2 := Lib.hid hr2
    subst hg0
    clear ke2 hr2
    go_wp2_with fail
    refine (HP.out _ b2 (by omega)).mono ?_
    rintro e w3 ⟨A3, c3, L3, rfl, hL3, how, hb3⟩
    have kf3 := kf2.ext hb3
    have b3 := b2.trans (hb3.mono b2.size)
    go_wp2_with fail
    refine (none_ok _).mono ?_
    rintro e w4 ⟨rfl, hb4⟩
    have kf4 := kf3.ext hb4
    have b4 := b3.trans (hb4.mono b3.size)
    have hlt2 : w.heap.size < w2.heap.size := kf2.two.2.2.2.2
    have hs9 := (((Own.intM (M' := fun b => b = w.heap.size) how).readB (fun b (e : b = w.heap.size) => by omega)).ext hb4).set2 (g := w.heap.size) rfl (.int .i64 0) (.int .i64 0) |>.zero
    rw [hL3.out] at hs9
    obtain ⟨c0, c1, z0, z1, s1⟩ := kf4.two
    obtain ⟨e0, e1⟩ := kf4.put2 (.int .i64 0) (.int .i64 0)
    go_wp2
    rw [hL3.out]
    exact bodyPost_ret (v := .tuple #[.slice A3 (Th.parentsF l).length c3, .agg #[.int .i64 0, .int .i64 0]]) (by simp [results, Tryz.results19, go_sem, e0, e1]) rfl ⟨_, by rw [Hr2.out], by rw [Hr2.out]; exact hs9, below_set2 b4 (by omega) _ _⟩
  · have hr2 : parQ l = ([], g1, g2) := by rw [Hr.out, if_pos hg0]
    have Hr2 := Lib.hid hr2
    have hfb : (g1 != 0) = true := by simpa using hg0
    clear hr2
    obtain ⟨c0, c1, z0, z1, s1⟩ := kf2.two
    obtain ⟨d0, d1, y0, y1, s2⟩ := ke2.two
    go_wp2
    go_region
    all_goals go_wp2
    all_goals
      obtain ⟨e0, e1⟩ := kf2.put2 (.int .i64 g1) (.int .i64 g2)
      refine bodyPost_ret (v := .tuple #[.slice none 0 0, .agg #[.int .i64 g1, .int .i64 g2]]) (by simp [results, Tryz.results19, go_sem, e0, e1]) rfl ⟨_, by rw [Hr2.out], by rw [Hr2.out]; exact SlR.nil _ _ _, ?_⟩
      exact below_drew (below_set2 b2 (by omega) _ _)
end Go.Proofs.YtjamjkjmlckgeaaGreatDoor
namespace Go.Proofs.YtjamjkjmlckgeaaGreatDoor
open Go.RowKit
set_option linter.unusedVariables false
/-- the reference's rows: one candidate k against the references of x -/
def refIn (x y : Letter) (k : Int) (s : Int × Int) : Nat → Int × Int
  | 0 => s
  | n + 1 => if (x.2.1[n]? == some y.1) && (decide ((refIn x y k s n).2 < (n : Int)) && Th.earlier y x) then (k, (n : Int)) else refIn x y k s n
def refOut (l : List Letter) (x : Letter) : Nat → Int × Int
  | 0 => (-1, -1)
  | n + 1 => match l[n]? with
    | some y => refIn x y (n : Int) (refOut l x n) x.2.1.length
    | none => refOut l x n
theorem refIn_succ (x y : Letter) (k : Int) (s : Int × Int) (n : Nat) (hn : n < x.2.1.length) : refIn x y k s (n + 1) = if (x.2.1[n] == y.1) && (decide ((refIn x y k s n).2 < (n : Int)) && Th.earlier y x) then (k, (n : Int)) else refIn x y k s n := by
  rw [refIn, List.getElem?_eq_getElem hn]
  rfl
theorem refOut_succ (l : List Letter) (x : Letter) (k : Nat) (hk : k < l.length) : refOut l x (k + 1) = refIn x l[k] (k : Int) (refOut l x k) x.2.1.length := by
  rw [refOut, List.getElem?_eq_getElem hk]
end Go.Proofs.YtjamjkjmlckgeaaGreatDoor
namespace Go.Proofs.YtjamjkjmlckgeaaGreatDoor
def Distinct (l : List Letter) : Prop := ∀ (i j : Nat) (hi : i < l.length) (hj : j < l.length), l[i].1 = l[j].1 → i = j
theorem faultGo_zero (l : List Letter) : ∀ (f k : Nat), (Th.faultGo l f k).1 = 0 → ∀ (j : Nat) (hj : j < l.length), k ≤ j → j < k + f → Th.errOf (l.take j) l[j] = 0
  | 0, k, _, j, hj, h1, h2 => by omega
  | f + 1, k, h, j, hj, h1, h2 => by
    rw [Th.faultGo] at h
    rw [List.getElem?_eq_getElem (show k < l.length by omega)] at h
    dsimp only at h
    split at h
    · rename_i h0
      by_cases e : j = k
      · subst e; exact h0
      · exact faultGo_zero l f (k + 1) h j hj (by omega) (by omega)
    · rename_i h0; exact absurd h h0
theorem distinct_of {l : List Letter} (h : (Th.lettersF l).1 = 0) : Distinct l := by
  have hlt : ∀ (i j : Nat) (hi : i < l.length) (hj : j < l.length), i < j → l[i].1 ≠ l[j].1 := by
    intro i j hi hj hij he
    have hz : Th.errOf (l.take j) l[j] = 0 := by
      unfold Th.lettersF at h
      split at h
      · cases h
      · exact faultGo_zero l l.length 0 h j hj (Nat.zero_le _) (by omega)
    unfold Th.errOf at hz
    have ha : ((l.take j).any fun y => y.1 == l[j].1) = true := by
      rw [List.any_eq_true]
      exact ⟨l[i], List.mem_take_iff_getElem.2 ⟨i, by omega, rfl⟩, by simpa using he⟩
    rw [if_pos ha] at hz
    split at hz
    · cases hz
    · split at hz
      · cases hz
      · split at hz <;> cases hz
  intro i j hi hj he
  rcases Nat.lt_trichotomy i j with h1 | h1 | h1
  · exact absurd he (hlt i j hi hj h1)
  · exact h1
  · exact absurd he.symm (hlt j i hj hi h1)
theorem lastOf_get (r : Str) : ∀ (l : List Letter) (k : Nat) (hk : k < l.length), Th.lastOf l r = some k → l[k].1 = r
  | y :: l, k, hk, h => by
    rw [Th.lastOf] at h
    cases hl : Th.lastOf l r with
    | some j =>
      rw [hl] at h
      injection h with h
      subst h
      have := lastOf_lt r l j hl
      simpa using lastOf_get r l j this hl
    | none =>
      rw [hl] at h
      simp only at h
      split at h
      · rename_i he
        injection h with h
        subst h
        simpa using he
      · cases h
theorem lastOf_none (r : Str) : ∀ (l : List Letter), Th.lastOf l r = none → ∀ y ∈ l, y.1 ≠ r
  | [], _, y, hy => by cases hy
  | z :: l, h, y, hy => by
    rw [Th.lastOf] at h
    cases hl : Th.lastOf l r with
    | some j => rw [hl] at h; cases h
    | none =>
      rw [hl] at h
      simp only at h
      split at h
      · cases h
      · rename_i he
        rcases List.mem_cons.1 hy with e | e
        · subst e; simpa using he
        · exact lastOf_none r l hl y e
def Hits (l : List Letter) (x : Letter) (r k : Nat) : Prop := ∃ (hk : k < l.length) (hr : r < x.2.1.length), x.2.1[r] = l[k].1 ∧ Th.earlier l[k] x = true
theorem refTo_hits {l : List Letter} (hd : Distinct l) (x : Letter) (r k : Nat) (hr : r < x.2.1.length) : Th.refTo l x x.2.1[r] = some k ↔ Hits l x r k := by
  rw [refTo_eq]
  constructor
  · intro h
    cases hl : Th.lastOf l x.2.1[r] with
    | none => rw [hl] at h; cases h
    | some j =>
      rw [hl] at h
      dsimp only at h
      have hj := lastOf_lt _ l j hl
      have hg := lastOf_get _ l j hj hl
      rw [List.getElem?_eq_getElem hj] at h
      split at h
      · rename_i he
        injection h with h
        subst h
        exact ⟨hj, hr, hg.symm, by simpa using he⟩
      · cases h
  · rintro ⟨hk, _, he, hx⟩
    cases hl : Th.lastOf l x.2.1[r] with
    | none => exact absurd he.symm (lastOf_none _ l hl l[k] (List.getElem_mem hk))
    | some j =>
      have hj := lastOf_lt _ l j hl
      have hg := lastOf_get _ l j hj hl
      have : j = k := hd j k hj hk (by rw [hg, he])
      subst this
      dsimp only
      rw [List.getElem?_eq_getElem hj, Option.map_some, hx, if_pos rfl]
theorem parTo_last (l : List Letter) (x : Letter) : ∀ n, n ≤ x.2.1.length →
    (parTo l x n = -1 ∧ ∀ (r : Nat) (hr : r < x.2.1.length), r < n → Th.refTo l x x.2.1[r] = none) ∨
    (∃ (r k : Nat) (hr : r < x.2.1.length), r < n ∧ Th.refTo l x x.2.1[r] = some k ∧ parTo l x n = k ∧ ∀ (r' : Nat) (hr' : r' < x.2.1.length), r < r' → r' < n → Th.refTo l x x.2.1[r'] = none)
  | 0, _ => .inl ⟨rfl, fun r _ h => by omega⟩
  | n + 1, hn => by
    have hlt : n < x.2.1.length := by omega
    have hs := parTo_succ l x n hlt
    cases ht : Th.refTo l x x.2.1[n] with
    | some k =>
      rw [ht] at hs
      exact .inr ⟨n, k, hlt, by omega, ht, hs, fun r' _ h1 h2 => by omega⟩
    | none =>
      rw [ht] at hs
      change _ = parTo l x n at hs
      rcases parTo_last l x n (by omega) with ⟨h1, h2⟩ | ⟨r, k, hr, h1, h2, h3, h4⟩
      · refine .inl ⟨by rw [hs, h1], fun r hr h => ?_⟩
        by_cases e : r = n
        · subst e; exact ht
        · exact h2 r hr (by omega)
      · refine .inr ⟨r, k, hr, by omega, h2, by rw [hs, h3], fun r' hr' h5 h6 => ?_⟩
        by_cases e : r' = n
        · subst e; exact ht
        · exact h4 r' hr' h5 (by omega)
def Seen (l : List Letter) (x : Letter) (n j : Nat) (s : Int × Int) : Prop :=
  (s = (-1, -1) ∧ ∀ r k, Hits l x r k → ¬ (k < n ∨ (k = n ∧ r < j))) ∨
  (∃ r k : Nat, s = ((k : Int), (r : Int)) ∧ Hits l x r k ∧ (k < n ∨ (k = n ∧ r < j)) ∧ ∀ r' k', Hits l x r' k' → (k' < n ∨ (k' = n ∧ r' < j)) → r' ≤ r)
theorem refIn_seen (l : List Letter) (x : Letter) (n : Nat) (hn : n < l.length) (s : Int × Int) (h0 : Seen l x n 0 s) : ∀ j, j ≤ x.2.1.length → Seen l x n j (refIn x l[n] (n : Int) s j)
  | 0, _ => h0
  | j + 1, hj => by
    have hlt : j < x.2.1.length := by omega
    have ih := refIn_seen l x n hn s h0 j (by omega)
    rw [refIn_succ x l[n] n s j hlt]
    generalize refIn x l[n] (n : Int) s j = q at ih ⊢
    by_cases hh : Hits l x j n
    · obtain ⟨_, _, he, hx⟩ := hh
      have hh : Hits l x j n := ⟨hn, hlt, he, hx⟩
      have e1 : (x.2.1[j] == l[n].1) = true := by simpa using he
      rw [e1, hx, Bool.true_and, Bool.and_true]
      rcases ih with ⟨rfl, h2⟩ | ⟨r, k, rfl, h1, h2, h3⟩
      · rw [if_pos (by simp; omega)]
        refine .inr ⟨j, n, rfl, hh, by omega, fun r' k' h4 h5 => ?_⟩
        have := h2 r' k' h4
        omega
      · by_cases hr : r < j
        · rw [if_pos (by simpa using hr)]
          refine .inr ⟨j, n, rfl, hh, by omega, fun r' k' h4 h5 => ?_⟩
          by_cases e : k' < n ∨ (k' = n ∧ r' < j)
          · have := h3 r' k' h4 e; omega
          · omega
        · rw [if_neg (by simpa using hr)]
          refine .inr ⟨r, k, rfl, h1, by omega, fun r' k' h4 h5 => ?_⟩
          by_cases e : k' < n ∨ (k' = n ∧ r' < j)
          · exact h3 r' k' h4 e
          · omega
    · have hc : ((x.2.1[j] == l[n].1) && (decide (q.2 < (j : Int)) && Th.earlier l[n] x)) = false := by
        cases e1 : (x.2.1[j] == l[n].1) with
        | false => rfl
        | true =>
          cases e2 : Th.earlier l[n] x with
          | false => simp
          | true => exact absurd ⟨hn, hlt, by simpa using e1, e2⟩ hh
      rw [hc]
      simp only [Bool.false_eq_true, if_false]
      have hw : ∀ r' k', Hits l x r' k' → (k' < n ∨ (k' = n ∧ r' < j + 1)) → (k' < n ∨ (k' = n ∧ r' < j)) := by
        intro r' k' h4 h5
        by_cases e : k' = n ∧ r' = j
        · obtain ⟨rfl, rfl⟩ := e; exact absurd h4 hh
        · omega
      rcases ih with ⟨rfl, h2⟩ | ⟨r, k, rfl, h1, h2, h3⟩
      · exact .inl ⟨rfl, fun r k h4 h5 => h2 r k h4 (hw r k h4 h5)⟩
      · exact .inr ⟨r, k, rfl, h1, by omega, fun r' k' h4 h5 => h3 r' k' h4 (hw r' k' h4 h5)⟩
theorem refOut_seen (l : List Letter) (x : Letter) : ∀ n, n ≤ l.length → Seen l x n 0 (refOut l x n)
  | 0, _ => .inl ⟨rfl, fun r k _ h => by omega⟩
  | n + 1, hn => by
    have hlt : n < l.length := by omega
    rw [refOut_succ l x n hlt]
    have := refIn_seen l x n hlt _ (refOut_seen l x n (by omega)) x.2.1.length (Nat.le_refl _)
    generalize refIn x l[n] (n : Int) (refOut l x n) x.2.1.length = q at this ⊢
    have hw : ∀ r k, Hits l x r k → ((k < n ∨ (k = n ∧ r < x.2.1.length)) ↔ (k < n + 1 ∨ (k = n + 1 ∧ r < 0))) := by
      rintro r k ⟨_, hr, _⟩
      omega
    rcases this with ⟨h1, h2⟩ | ⟨r, k, h1, h2, h3, h4⟩
    · exact .inl ⟨h1, fun r k h3 h5 => h2 r k h3 ((hw r k h3).2 h5)⟩
    · exact .inr ⟨r, k, h1, h2, (hw r k h2).1 h3, fun r' k' h5 h6 => h4 r' k' h5 ((hw r' k' h5).2 h6)⟩
theorem refParent_eq {l : List Letter} (h : (Th.lettersF l).1 = 0) (x : Letter) : (refOut l x l.length).1 = Th.parentOf l x := by
  have hd := distinct_of h
  have hs := refOut_seen l x l.length (Nat.le_refl _)
  rw [← parTo_all]
  have hk : ∀ r k, Hits l x r k → (k < l.length ∨ (k = l.length ∧ r < 0)) := fun r k ⟨hk, _⟩ => .inl hk
  rcases parTo_last l x x.2.1.length (Nat.le_refl _) with ⟨h1, h2⟩ | ⟨r, k, hr, _, h2, h3, h4⟩
  · rw [h1]
    rcases hs with ⟨e, _⟩ | ⟨r, k, _, hh, _, _⟩
    · rw [e]
    · obtain ⟨_, hr, _⟩ := id hh
      have := (refTo_hits hd x r k hr).2 hh
      rw [h2 r hr hr] at this
      cases this
  · have hh := (refTo_hits hd x r k hr).1 h2
    rw [h3]
    rcases hs with ⟨_, h5⟩ | ⟨r2, k2, e, h5, _, h7⟩
    · exact absurd (hk r k hh) (h5 r k hh)
    · have hle := h7 r k hh (hk r k hh)
      obtain ⟨_, hr2, _⟩ := id h5
      have ht := (refTo_hits hd x r2 k2 hr2).2 h5
      by_cases e2 : r = r2
      · subst e2
        rw [h2] at ht
        injection ht with ht
        rw [e, ht]
      · rw [h4 r2 hr2 (by omega) hr2] at ht
        cases ht
end Go.Proofs.YtjamjkjmlckgeaaGreatDoor

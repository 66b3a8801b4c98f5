/-
  Regions that draw their order: what a load needs is owed only behind operations that do not wait for it. No program is named here.
-/
import Derived.Test.YtclobnojpmgmaaaHeld
namespace Go.Proofs.Ytclobnojpmgmaaa
open Go.RowKit

section
variable {P : Program} {Q : Exit → Act → World → Prop} {ops : Array Oper} {md : Region.Mode} {S : World → Prop} {D : Nat → Bool}

/-- Any order; S is owed behind each operation outside D. -/
def anyD (P : Program) (md : Region.Mode) (ops : Array Oper) (Q : Exit → Act → World → Prop) (S : World → Prop) (D : Nat → Bool) : Nat → Array Bool → Act → World → Prop
  | 0, listed, a, w => Region.ready md ops listed = [] ∧ Q .normal a w
  | fuel + 1, listed, a, w => (Region.ready md ops listed = [] → Q .normal a w) ∧
      ∀ i ∈ Region.ready md ops listed, wpOp P ops Q i (fun a' w' => (D i = false → S w') ∧ anyD P md ops Q S D fuel (listed.setIfInBounds i true) a' w') a w

theorem any_of_D : ∀ (fuel : Nat) (listed : Array Bool) (a : Act) (w : World), anyD P md ops Q S D fuel listed a w → wpAny P md ops Q fuel listed a w
  | 0, _, _, _, h => h
  | fuel + 1, _, _, _, h => ⟨h.1, fun i hi => wpOp_mono (fun a' w' h' => any_of_D fuel _ a' w' h'.2) (h.2 i hi)⟩

theorem anyD_first {i : Nat} {oi : Oper} {v : Value} (hi : ops[i]? = some oi) (hsel : ∀ (j : Nat) (o : Oper) cs b, ops[j]? = some o → o.op ≠ .select cs b)
    (hQ : ∀ c a w, Q (.panic c) (a.put oi.dst v) w → Q (.panic c) a w)
    (hdep : ∀ (j : Nat) (oj : Oper), ops[j]? = some oj → D j = true → j ≠ i → ∃ e ∈ oj.after, Region.binds md e = true ∧ (e.on = i ∨ D e.on = true)) :
    ∀ (fuel : Nat) (listed : Array Bool) (a : Act) (w : World),
      (∀ (j : Nat) (oj : Oper), ops[j]? = some oj → j ≠ i → listed.getD j true = false → (∀ e ∈ oj.after, Region.binds md e = true → e.on ≠ i) → oi.apart ops oj = true) →
      (∀ j, listed.getD j false = true → D j = false) →
      i ∈ Region.ready md ops listed → YieldsIf P ops S oi v a → S w →
      anyD P md ops Q S D fuel (listed.setIfInBounds i true) (a.put oi.dst v) w → anyD P md ops Q S D (fuel + 1) listed a w := by
  intro fuel
  induction fuel with
  | zero =>
    intro listed a w _ _ hr hy hS H
    refine ⟨fun h => absurd hr (by rw [h]; simp), fun j hj => ?_⟩
    by_cases hji : j = i
    · subst hji
      exact hy.wpOp hi hS ⟨fun _ => hS, H⟩
    · have hm := ready_mono hj hji
      rw [H.1] at hm
      cases hm
  | succ fuel ih =>
    intro listed a w hfree hlist hr hy hS H
    refine ⟨fun h => absurd hr (by rw [h]; simp), fun j hj => ?_⟩
    by_cases hji : j = i
    · subst hji
      exact hy.wpOp hi hS ⟨fun _ => hS, H⟩
    · have h1 := H.2 j (ready_mono hj hji)
      obtain ⟨hun, oj, hoj, hall⟩ := mem_ready.1 hj
      have hi0 := (mem_ready.1 hr).1
      have hli : listed.getD i false = true → False := fun h => by
        rcases Nat.lt_or_ge i listed.size with h' | h'
        · simp [h'] at h hi0; rw [h] at hi0; cases hi0
        · simp [Array.getElem?_eq_none h'] at h
      have hnot : ∀ e ∈ oj.after, Region.binds md e = true → e.on ≠ i := fun e he hb heq => hli (heq ▸ hall e he hb)
      have hDj : D j = false := by
        cases hd : D j with
        | false => rfl
        | true =>
          obtain ⟨e, he, hb, hor⟩ := hdep j oj hoj hd hji
          rcases hor with h' | h'
          · exact absurd h' (hnot e he hb)
          · rw [hlist _ (hall e he hb)] at h'; cases h'
      have h2 := wpOp_putIf hoj (hfree j oj hoj hji hun hnot) (fun cs b => hsel i oi cs b hi) (fun cs b => hsel j oj cs b hoj) hQ hy h1
      refine wpOp_mono (fun a' w' h3 => ⟨fun _ => h3.2.1 hDj, ih (listed.setIfInBounds j true) a' w' (fun k ok hk hki hku hno => hfree k ok hk hki ?_ hno) (fun k hk => ?_) (ready_mono hr (Ne.symm hji)) h3.1 (h3.2.1 hDj) ?_⟩) h2
      · by_cases hjk : j = k
        · subst hjk; exact hun
        · rwa [getD_set_ne true hjk] at hku
      · by_cases hjk : j = k
        · subst hjk; exact hDj
        · rw [getD_set_ne false hjk] at hk; exact hlist k hk
      · rw [Array.setIfInBounds_comm _ _ hji]
        exact h3.2.2

/-- D's operations wait for number i, each by a way inside D. -/
def behind (md : Region.Mode) (ops : Array Oper) (i : Nat) (D : Nat → Bool) : Bool :=
  (List.range ops.size).all fun j => !D j || j == i || match ops[j]? with
    | some o => o.after.any fun e => Region.binds md e && (e.on == i || D e.on)
    | none => false
def outsideD (listed : Array Bool) (D : Nat → Bool) : Bool := (List.range listed.size).all fun j => !listed.getD j false || !D j
theorem behind_spec {i : Nat} (h : behind md ops i D = true) (j : Nat) (oj : Oper) (ho : ops[j]? = some oj) (hd : D j = true) (hne : j ≠ i) :
    ∃ e ∈ oj.after, Region.binds md e = true ∧ (e.on = i ∨ D e.on = true) := by
  unfold behind at h
  rw [List.all_eq_true] at h
  have h1 := h j (List.mem_range.2 (Array.getElem?_eq_some_iff.1 ho).1)
  simp only [hd, Bool.not_true, Bool.false_or, ho] at h1
  have h2 : (j == i) = false := by simpa using hne
  rw [h2, Bool.false_or, Array.any_eq_true'] at h1
  obtain ⟨e, he, h3⟩ := h1
  rw [Bool.and_eq_true, Bool.or_eq_true, beq_iff_eq] at h3
  exact ⟨e, he, h3⟩
theorem outsideD_spec {listed : Array Bool} (h : outsideD listed D = true) (j : Nat) (hj : listed.getD j false = true) : D j = false := by
  unfold outsideD at h
  rw [List.all_eq_true] at h
  have hlt : j < listed.size := Classical.byContradiction fun h' => by
    simp [Array.getElem?_eq_none (Nat.le_of_not_lt h')] at hj
  have h1 := h j (List.mem_range.2 hlt)
  rw [hj] at h1
  simpa using h1

theorem anyD_light {i fuel : Nat} {o : Oper} {v : Value} {listed : Array Bool} {a : Act} {w : World} (ho : ops[i]? = some o) (hs : Region.noSelect ops = true) (hf : Region.free md ops listed i = true)
    (hr : (Region.ready md ops listed).contains i = true) (hb : behind md ops i D = true) (hl : outsideD listed D = true)
    (hQ : ∀ c a w, Q (.panic c) (a.put o.dst v) w → Q (.panic c) a w) (hy : YieldsIf P ops S o v a) (hS : S w)
    (h : anyD P md ops Q S D fuel (listed.setIfInBounds i true) (a.put o.dst v) w) : anyD P md ops Q S D (fuel + 1) listed a w :=
  anyD_first ho (Region.noSelect_spec hs) hQ (behind_spec hb) fuel listed a w (Region.free_spec ho hf) (outsideD_spec hl) (by simpa using hr) hy hS h
theorem anyD_one {i fuel : Nat} {o : Oper} {listed : Array Bool} {a : Act} {w : World} (hr : Region.ready md ops listed = [i]) (ho : ops[i]? = some o) (hg : o.guard = none)
    (h : ∀ K : Act → World → Prop, (∀ a w, (D i = false → S w) → anyD P md ops Q S D fuel (listed.setIfInBounds i true) a w → K a w) → o.wp P a w K Q) : anyD P md ops Q S D (fuel + 1) listed a w := by
  refine ⟨fun h0 => absurd (hr ▸ h0) (by simp), fun j hj => ?_⟩
  rw [hr] at hj
  obtain rfl : j = i := by simpa using hj
  unfold wpOp
  rw [ho]
  have hw : Region.wanted o (yielded ops a.tmps) = true := by simp [Region.wanted, hg]
  simp only [hw, if_true]
  exact .inl (h _ fun a w h1 h2 => ⟨h1, h2⟩)
theorem anyD_done {listed : Array Bool} {a : Act} {w : World} (hr : Region.ready md ops listed = []) (h : Q .normal a w) : ∀ fuel, anyD P md ops Q S D fuel listed a w
  | 0 => ⟨hr, h⟩
  | _ + 1 => ⟨fun _ => h, by rw [hr]; simp⟩
theorem wpIn_region_D_round {l n id : Nat} {a : Act} {w : World} (S : World → Prop) (D : Nat → Bool) (hm : P.follows .mixedOrders = true) (hnd : noDefer ops = true) (hL : ¬ LetsOut Q)
    (h : anyD P .any ops Q S D ops.size (Array.replicate ops.size false) a w.drew) : (Code.region id ops true).wpIn (Fence.wide.inRound l) n P Q a w :=
  wpIn_region_any hm (any_inRound hnd hL _ _ _ _ (any_of_D _ _ _ _ h))
theorem wp_region_D {id : Nat} {a : Act} {w : World} (S : World → Prop) (D : Nat → Bool) (hm : P.follows .mixedOrders = true)
    (h : anyD P .any ops Q S D ops.size (Array.replicate ops.size false) a w.drew) : (Code.region id ops true).wp P Q a w :=
  wp_region_any hm (any_of_D _ _ _ _ h)
end
end Go.Proofs.Ytclobnojpmgmaaa

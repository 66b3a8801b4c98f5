/-
  Contracts and plain facts, one after another: Regions that draw their order: what a load needs is owed only behind operations that do not wait for it. No program is named here; strings.FieldsFuncSeq at stem.words' predicate: the iterator; stem: a step (printed by gen/smstep.py); Sorted lists of keys and values: look-up, insertion, removal; two of the same look-ups are one. No program is named here; A region that draws: where several operations are ready, each is taken in its turn; Two faults compared.
-/
import Derived.Test.YtiohhajkegpebaaGreatDoorR2
import Derived.Test.YtiohhajkegpebaaGreatDoorR1
import Derived.Stop.RegionWithIn
import Derived.OwnWalkIn
import Derived.TacticsInMore
import Derived.LoopNIn
import Derived.LoopIn
namespace Go.Proofs.YtiohhajkegpebaaGreatDoor
open Go.RowKit

section
variable {P : Program} {Q : Exit → Act → World → Prop} {ops : Array Oper} {md : Region.Mode} {S : World → Prop} {D : Nat → Bool}

/-- Any order; S is owed behind each operation outside D. -/
def anyD (P : Program) (md : Region.Mode) (ops : Array Oper) (Q : Exit → Act → World → Prop) (S : World → Prop) (D : Nat → Bool) : Nat → Array Bool → Act → World → Prop
  | 0, listed, a, w => Region.ready md ops listed = [] ∧ Q .normal a w
  | fuel + 1, listed, a, w => (Region.ready md ops listed = [] → Q .normal a w) ∧
      ∀ i ∈ Region.ready md ops listed, wpOp P ops Q i (fun a' w' => (D i = false → S w') ∧ anyD P md ops Q S D fuel (listed.setIfInBounds i true) a' w') a w

theorem any_of_D : ∀ (fuel : Nat) (listed : Array Bool) (a : Act) (w : World), anyD P md ops Q S D fuel listed a w → wpAny P md ops Q fuel listed a w
  | 0, _, _, _, h => h
  | fuel + 1, _, _, _, h => ⟨h.1, fun i hi => wpOp_mono (fun a' w' h' => any_of_D fuel _ a' w' h'.2) (h.2 i hi)⟩

theorem anyD_first {i : Nat} {oi : Oper} {v : Value} (hi : ops[i]? = some oi) (hsel : ∀ (j : Nat) (o : Oper) cs b, ops[j]? = some o → o.op ≠ .select cs b)
    (hQ : ∀ c a w, Q (.panic c) (a.put oi.dst v) w → Q (.panic c) a w)
    (hdep : ∀ (j : Nat) (oj : Oper), ops[j]? = some oj → D j = true → j ≠ i → ∃ e ∈ oj.after, Region.binds md e = true ∧ (e.on = i ∨ D e.on = true)) :
    ∀ (fuel : Nat) (listed : Array Bool) (a : Act) (w : World),
      (∀ (j : Nat) (oj : Oper), ops[j]? = some oj → j ≠ i → listed.getD j true = false → (∀ e ∈ oj.after, Region.binds md e = true → e.on ≠ i) → oi.apart ops oj = true) →
      (∀ j, listed.getD j false = true → D j = false) →
      i ∈ Region.ready md ops listed → YieldsIf P ops S oi v a → S w →
      anyD P md ops Q S D fuel (listed.setIfInBounds i true) (a.put oi.dst v) w → anyD P md ops Q S D (fuel + 1) listed a w := by
  intro fuel
  induction fuel with
  | zero =>
    intro listed a w _ _ hr hy hS H
    refine ⟨fun h => absurd hr (by rw [h]; simp), fun j hj => ?_⟩
    by_cases hji : j = i
    · subst hji
      exact hy.wpOp hi hS ⟨fun _ => hS, H⟩
    · have hm := ready_mono hj hji
      rw [H.1] at hm
      cases hm
  | succ fuel ih =>
    intro listed a w hfree hlist hr hy hS H
    refine ⟨fun h => absurd hr (by rw [h]; simp), fun j hj => ?_⟩
    by_cases hji : j = i
    · subst hji
      exact hy.wpOp hi hS ⟨fun _ => hS, H⟩
    · have h1 := H.2 j (ready_mono hj hji)
      obtain ⟨hun, oj, hoj, hall⟩ := mem_ready.1 hj
      have hi0 := (mem_ready.1 hr).1
      have hli : listed.getD i false = true → False := fun h => by
        rcases Nat.lt_or_ge i listed.size with h' | h'
        · simp [h'] at h hi0; rw [h] at hi0; cases hi0
        · simp [Array.getElem?_eq_none h'] at h
      have hnot : ∀ e ∈ oj.after, Region.binds md e = true → e.on ≠ i := fun e he hb heq => hli (heq ▸ hall e he hb)
      have hDj : D j = false := by
        cases hd : D j with
        | false => rfl
        | true =>
          obtain ⟨e, he, hb, hor⟩ := hdep j oj hoj hd hji
          rcases hor with h' | h'
          · exact absurd h' (hnot e he hb)
          · rw [hlist _ (hall e he hb)] at h'; cases h'
      have h2 := wpOp_putIf hoj (hfree j oj hoj hji hun hnot) (fun cs b => hsel i oi cs b hi) (fun cs b => hsel j oj cs b hoj) hQ hy h1
      refine wpOp_mono (fun a' w' h3 => ⟨fun _ => h3.2.1 hDj, ih (listed.setIfInBounds j true) a' w' (fun k ok hk hki hku hno => hfree k ok hk hki ?_ hno) (fun k hk => ?_) (ready_mono hr (Ne.symm hji)) h3.1 (h3.2.1 hDj) ?_⟩) h2
      · by_cases hjk : j = k
        · subst hjk; exact hun
        · rwa [getD_set_ne true hjk] at hku
      · by_cases hjk : j = k
        · subst hjk; exact hDj
        · rw [getD_set_ne false hjk] at hk; exact hlist k hk
      · rw [Array.setIfInBounds_comm _ _ hji]
        exact h3.2.2

/-- D's operations wait for number i, each by a way inside D. -/
def behind (md : Region.Mode) (ops : Array Oper) (i : Nat) (D : Nat → Bool) : Bool :=
  (List.range ops.size).all fun j => !D j || j == i || match ops[j]? with
    | some o => o.after.any fun e => Region.binds md e && (e.on == i || D e.on)
    | none => false
def outsideD (listed : Array Bool) (D : Nat → Bool) : Bool := (List.range listed.size).all fun j => !listed.getD j false || !D j
theorem behind_spec {i : Nat} (h : behind md ops i D = true) (j : Nat) (oj : Oper) (ho : ops[j]? = some oj) (hd : D j = true) (hne : j ≠ i) :
    ∃ e ∈ oj.after, Region.binds md e = true ∧ (e.on = i ∨ D e.on = true) := by
  unfold behind at h
  rw [List.all_eq_true] at h
  have h1 := h j (List.mem_range.2 (Array.getElem?_eq_some_iff.1 ho).1)
  simp only [hd, Bool.not_true, Bool.false_or, ho] at h1
  have h2 : (j == i) = false := by simpa using hne
  rw [h2, Bool.false_or, Array.any_eq_true'] at h1
  obtain ⟨e, he, h3⟩ := h1
  rw [Bool.and_eq_true, Bool.or_eq_true, beq_iff_eq] at h3
  exact ⟨e, he, h3⟩
theorem outsideD_spec {listed : Array Bool} (h : outsideD listed D = true) (j : Nat) (hj : listed.getD j false = true) : D j = false := by
  unfold outsideD at h
  rw [List.all_eq_true] at h
  have hlt : j < listed.size := Classical.byContradiction fun h' => by
    simp [Array.getElem?_eq_none (Nat.le_of_not_lt h')] at hj
  have h1 := h j (List.mem_range.2 hlt)
  rw [hj] at h1
  simpa using h1

theorem anyD_light {i fuel : Nat} {o : Oper} {v : Value} {listed : Array Bool} {a : Act} {w : World} (ho : ops[i]? = some o) (hs : Region.noSelect ops = true) (hf : Region.free md ops listed i = true)
    (hr : (Region.ready md ops listed).contains i = true) (hb : behind md ops i D = true) (hl : outsideD listed D = true)
    (hQ : ∀ c a w, Q (.panic c) (a.put o.dst v) w → Q (.panic c) a w) (hy : YieldsIf P ops S o v a) (hS : S w)
    (h : anyD P md ops Q S D fuel (listed.setIfInBounds i true) (a.put o.dst v) w) : anyD P md ops Q S D (fuel + 1) listed a w :=
  anyD_first ho (Region.noSelect_spec hs) hQ (behind_spec hb) fuel listed a w (Region.free_spec ho hf) (outsideD_spec hl) (by simpa using hr) hy hS h
theorem anyD_one {i fuel : Nat} {o : Oper} {listed : Array Bool} {a : Act} {w : World} (hr : Region.ready md ops listed = [i]) (ho : ops[i]? = some o) (hg : o.guard = none)
    (h : ∀ K : Act → World → Prop, (∀ a w, (D i = false → S w) → anyD P md ops Q S D fuel (listed.setIfInBounds i true) a w → K a w) → o.wp P a w K Q) : anyD P md ops Q S D (fuel + 1) listed a w := by
  refine ⟨fun h0 => absurd (hr ▸ h0) (by simp), fun j hj => ?_⟩
  rw [hr] at hj
  obtain rfl : j = i := by simpa using hj
  unfold wpOp
  rw [ho]
  have hw : Region.wanted o (yielded ops a.tmps) = true := by simp [Region.wanted, hg]
  simp only [hw, if_true]
  exact .inl (h _ fun a w h1 h2 => ⟨h1, h2⟩)
theorem anyD_oneG {i fuel : Nat} {o : Oper} {listed : Array Bool} {a : Act} {w : World} (hr : Region.ready md ops listed = [i]) (ho : ops[i]? = some o) (hw : Region.wanted o (yielded ops a.tmps) = true)
    (h : ∀ K : Act → World → Prop, (∀ a w, (D i = false → S w) → anyD P md ops Q S D fuel (listed.setIfInBounds i true) a w → K a w) → o.wp P a w K Q) : anyD P md ops Q S D (fuel + 1) listed a w := by
  refine ⟨fun h0 => absurd (hr ▸ h0) (by simp), fun j hj => ?_⟩
  rw [hr] at hj
  obtain rfl : j = i := by simpa using hj
  unfold wpOp
  rw [ho]
  simp only [hw, if_true]
  exact .inl (h _ fun a w h1 h2 => ⟨h1, h2⟩)
theorem anyD_done {listed : Array Bool} {a : Act} {w : World} (hr : Region.ready md ops listed = []) (h : Q .normal a w) : ∀ fuel, anyD P md ops Q S D fuel listed a w
  | 0 => ⟨hr, h⟩
  | _ + 1 => ⟨fun _ => h, by rw [hr]; simp⟩
theorem wpIn_region_D_round {l n id : Nat} {a : Act} {w : World} (S : World → Prop) (D : Nat → Bool) (hm : P.follows .mixedOrders = true) (hnd : noDefer ops = true) (hL : ¬ LetsOut Q)
    (h : anyD P .any ops Q S D ops.size (Array.replicate ops.size false) a w.drew) : (Code.region id ops true).wpIn (Fence.wide.inRound l) n P Q a w :=
  wpIn_region_any hm (any_inRound hnd hL _ _ _ _ (any_of_D _ _ _ _ h))
theorem wp_region_D {id : Nat} {a : Act} {w : World} (S : World → Prop) (D : Nat → Bool) (hm : P.follows .mixedOrders = true)
    (h : anyD P .any ops Q S D ops.size (Array.replicate ops.size false) a w.drew) : (Code.region id ops true).wp P Q a w :=
  wp_region_any hm (any_of_D _ _ _ _ h)
end
end Go.Proofs.YtiohhajkegpebaaGreatDoor
namespace Go.Proofs.YtiohhajkegpebaaGreatDoor
open Go.RowKit
set_option linter.unusedVariables false
/-- the tables lie, and no round turns them -/
def TabsS (S : Nat → Prop) (w : World) : Prop := ∃ w0, TabsU w0 ∧ Below w0.heap.size w0 w ∧ ∀ b, S b → w0.heap.size ≤ b
theorem TabsS.tabs {S : Nat → Prop} {w : World} (h : TabsS S w) : TabsU w := by
  obtain ⟨w0, h1, h2, _⟩ := h
  exact h1.ext h2
theorem TabsS.ext {S : Nat → Prop} {w w' : World} (h : TabsS S w) (hb : Below w.heap.size w w') : TabsS S w' := by
  obtain ⟨w0, h1, h2, h3⟩ := h
  exact ⟨w0, h1, h2.trans (hb.mono h2.size), h3⟩
theorem TabsS.chg {S S' : Nat → Prop} {w w' : World} (h : TabsS S w) (hc : Chg S S' w w') : TabsS S' w' := by
  obtain ⟨w0, h1, h2, h3⟩ := h
  refine ⟨w0, h1, ⟨hc.os.trans h2.os, hc.tape.trans h2.tape, hc.output.trans h2.output, Nat.le_trans h2.size hc.size, fun b hb => ?_⟩, fun b hb => ?_⟩
  · exact (hc.same b (by have := h2.size; omega) fun hS => by have := h3 b hS; omega).trans (h2.block b hb)
  · have h4 := h2.size
    rcases (hc.own b hb).2 with h | h
    · exact h3 b h
    · omega
theorem TabsU.s {S : Nat → Prop} {w : World} (h : TabsU w) (hS : ∀ b, S b → w.heap.size ≤ b) : TabsS S w := ⟨w, h, Below.refl _ _, hS⟩
theorem Blk.chg {S S' : Nat → Prop} {w w' : World} {g : Nat} {t : TypeId} {cs : Array Value} (h : Blk w g t cs) (hS : ¬ S g) (hc : Chg S S' w w') : Blk w' g t cs ∧ ¬ S' g :=
  ⟨h.keep (hc.same g h.lt hS), fun h' => (hc.own g h').2.elim hS fun h2 => by have := h.lt; omega⟩
/-- the word that is open: where it began -/
def openW (s : Str) (st : Option Nat) (pos : Nat) : Str := match st with | some a => (s.drop a).take (pos - a) | none => []
def startV (st : Option Nat) : Value := match st with | some a => .int .i64 (a : Int) | none => .int .i64 (-1)
theorem openW_grow (s : Str) (a pos n : Nat) (h : a ≤ pos) : openW s (some a) pos ++ (s.drop pos).take n = openW s (some a) (pos + n) := Lib.pieceU_grow s a pos n h
theorem openW_ne (s : Str) (a pos : Nat) (h : a < pos) (hp : pos ≤ s.length) : openW s (some a) pos ≠ [] := Lib.pieceU_ne s a pos h hp
def encW (x : Str) : Array Value := #[.string (bs x)]
theorem list_at {α : Type} {l : List α} {k : Nat} (hk : k ≤ l.length) {x : α} {t : List α} (h : l = l.take k ++ x :: t) : ∃ hk : k < l.length, l[k] = x ∧ l = l.take (k + 1) ++ t := by
  have hl : k < l.length := by
    have := congrArg List.length h
    rw [List.length_append, List.length_take, List.length_cons] at this
    omega
  have hx : l[k] = x := by
    have h1 := List.getElem_of_eq h hl
    rw [h1, List.getElem_append_right (by simp; omega)]
    simp [Nat.min_eq_left hk]
  refine ⟨hl, hx, ?_⟩
  rw [List.take_succ_eq_append_getElem hl, hx, List.append_assoc]
  exact h
end Go.Proofs.YtiohhajkegpebaaGreatDoor
namespace Go.Proofs.YtiohhajkegpebaaGreatDoor
open Go.RowKit
set_option linter.unusedVariables false
theorem lit_els (M : Nat → Prop) (w : World) : ∀ l : List Str, (∀ s ∈ l, s.length ≤ maxLen) → Els strC M w (l.map fun s => .string (bs s)) l
  | [], _ => Els.nil _ _ _
  | s :: l, h => (Els.single (C := strC) (cs := [.string (bs s)]) ⟨rfl, h s (by simp)⟩).append (lit_els M w l fun x hx => h x (by simp [hx]))
theorem lit_row (w : World) (l : List Str) (h : ∀ s ∈ l, s.length ≤ 1000) (hn : l.length ≤ 1000) : SlR strC M0 (w.alloc (.cells (l.map fun s => Value.string (bs s)).toArray 9)) (.slice (some ⟨w.heap.size, 0, none⟩) l.length l.length) l :=
  (Own.built (M := M0) (B := w.heap.size) 9 (lit_els _ w l fun s hs => by have := h s hs; unfold maxLen; omega) (Nat.le_refl _) (by unfold maxLen; omega)).read0
theorem rule_cells {w : World} {b B0 : Nat} (kB : Blk w b 151 #[.string ⟨#[105, 101, 115]⟩, .string ⟨#[105]⟩, .slice none 0 0, .string ⟨#[115, 115, 101, 115]⟩, .string ⟨#[115, 115]⟩, .slice none 0 0, .string ⟨#[110, 101, 115, 115]⟩, .string ⟨#[]⟩, .slice none 0 0, .string ⟨#[109, 101, 110, 116]⟩, .string ⟨#[]⟩, .slice none 0 0, .string ⟨#[105, 110, 103]⟩, .string ⟨#[]⟩, .slice none 0 0, .string ⟨#[101, 100, 108, 121]⟩, .string ⟨#[]⟩, .slice none 0 0, .string ⟨#[101, 100]⟩, .string ⟨#[]⟩, .slice none 0 0, .string ⟨#[108, 121]⟩, .string ⟨#[]⟩, .slice none 0 0, .string ⟨#[115]⟩, .string ⟨#[]⟩, .slice (some ⟨B0, 0, none⟩) 3 3, .string ⟨#[121]⟩, .string ⟨#[105]⟩, .slice none 0 0]) (k : Nat) (hk : k < 10) : ∃ (r : Sm.Rule) (v : Value), Sm.rules.drop k = r :: Sm.rules.drop (k + 1) ∧
    w.cell? ⟨b, k * 3, none⟩ = some (.string (bs r.ending)) ∧ w.cell? ⟨b, k * 3 + 1, none⟩ = some (.string (bs r.to)) ∧ w.cell? ⟨b, k * 3 + 2, none⟩ = some v ∧
    (v = .slice none 0 0 ∧ r.bars = [] ∨ v = .slice (some ⟨B0, 0, none⟩) 3 3 ∧ r.bars = [[115, 115], [117, 115], [105, 115]]) ∧ r.to.length ≤ 10 := by
  match k, hk with
  | 0, _ => exact ⟨_, _, rfl, kB.cell 0, kB.cell 1, kB.cell 2, .inl ⟨rfl, rfl⟩, by decide⟩
  | 1, _ => exact ⟨_, _, rfl, kB.cell 3, kB.cell 4, kB.cell 5, .inl ⟨rfl, rfl⟩, by decide⟩
  | 2, _ => exact ⟨_, _, rfl, kB.cell 6, kB.cell 7, kB.cell 8, .inl ⟨rfl, rfl⟩, by decide⟩
  | 3, _ => exact ⟨_, _, rfl, kB.cell 9, kB.cell 10, kB.cell 11, .inl ⟨rfl, rfl⟩, by decide⟩
  | 4, _ => exact ⟨_, _, rfl, kB.cell 12, kB.cell 13, kB.cell 14, .inl ⟨rfl, rfl⟩, by decide⟩
  | 5, _ => exact ⟨_, _, rfl, kB.cell 15, kB.cell 16, kB.cell 17, .inl ⟨rfl, rfl⟩, by decide⟩
  | 6, _ => exact ⟨_, _, rfl, kB.cell 18, kB.cell 19, kB.cell 20, .inl ⟨rfl, rfl⟩, by decide⟩
  | 7, _ => exact ⟨_, _, rfl, kB.cell 21, kB.cell 22, kB.cell 23, .inl ⟨rfl, rfl⟩, by decide⟩
  | 8, _ => exact ⟨_, _, rfl, kB.cell 24, kB.cell 25, kB.cell 26, .inr ⟨rfl, rfl⟩, by decide⟩
  | 9, _ => exact ⟨_, _, rfl, kB.cell 27, kB.cell 28, kB.cell 29, .inl ⟨rfl, rfl⟩, by decide⟩
theorem Sm.twice_of {s : List UInt8} {x y : UInt8} (h4 : 4 ≤ s.length) (hx : s[s.length - 1] = x) (hy : s[s.length - 2] = y) : Sm.twice s = ((x == y) && !(Sm.vowels.any (· == x))) := by
  have e1 : s[s.length - 1]? = some x := by rw [List.getElem?_eq_getElem (by omega), hx]
  have e2 : s[s.length - 2]? = some y := by rw [List.getElem?_eq_getElem (by omega), hy]
  simp [Sm.twice, e1, e2, h4, BEq.comm]
theorem Sm.index_hit {x : UInt8} (h : Sm.vowels.any (· == x) = true) : decide (Lib.indexByte [97, 101, 105, 111, 117, 108, 115, 122] x < 0) = false := by
  simp only [Sm.vowels, List.any_cons, List.any_nil, Bool.or_eq_true, beq_iff_eq, Bool.or_false] at h
  rcases h with h | h | h | h | h | h | h | h <;> (subst h; rfl)
theorem Sm.index_miss {x : UInt8} (h : Sm.vowels.any (· == x) = false) : decide (Lib.indexByte [97, 101, 105, 111, 117, 108, 115, 122] x < 0) = true := by
  simp only [Sm.vowels, List.any_cons, List.any_nil, Bool.or_eq_false_iff, beq_eq_false_iff_ne, Bool.or_false] at h
  simp [Lib.indexByte, h, Ne.symm]
set_option maxRecDepth 100000 in
set_option maxHeartbeats 8000000 in
theorem step_ok (s : Str) (w : World) (hs : s.length ≤ 4000000) :
    Calls Tryz.prog 92 #[.string (bs s)] w fun e w' => e = .returned (.string (bs (Sm.step s))) ∧ Below w.heap.size w w' := by
  have hbar : SlR strC M0 (w.alloc (.cells #[.string ⟨#[115, 115]⟩, .string ⟨#[117, 115]⟩, .string ⟨#[105, 115]⟩] 9)) (.slice (some ⟨w.heap.size, 0, none⟩) 3 3) [[115, 115], [117, 115], [105, 115]] := lit_row w [[115, 115], [117, 115], [105, 115]] (by decide) (by decide)
  obtain ⟨res, hres⟩ : ∃ r, Sm.step s = r := ⟨_, rfl⟩
  rw [hres]
  have Hres := Lib.hid hres
  clear hres
  have hbw := ((Below.refl w.heap.size w).alloc (Nat.le_refl _) (.cells #[.string ⟨#[115, 115]⟩, .string ⟨#[117, 115]⟩, .string ⟨#[105, 115]⟩] 9)).alloc (by simp) (.cells #[.string ⟨#[105, 101, 115]⟩, .string ⟨#[105]⟩, .slice none 0 0, .string ⟨#[115, 115, 101, 115]⟩, .string ⟨#[115, 115]⟩, .slice none 0 0, .string ⟨#[110, 101, 115, 115]⟩, .string ⟨#[]⟩, .slice none 0 0, .string ⟨#[109, 101, 110, 116]⟩, .string ⟨#[]⟩, .slice none 0 0, .string ⟨#[105, 110, 103]⟩, .string ⟨#[]⟩, .slice none 0 0, .string ⟨#[101, 100, 108, 121]⟩, .string ⟨#[]⟩, .slice none 0 0, .string ⟨#[101, 100]⟩, .string ⟨#[]⟩, .slice none 0 0, .string ⟨#[108, 121]⟩, .string ⟨#[]⟩, .slice none 0 0, .string ⟨#[115]⟩, .string ⟨#[]⟩, .slice (some ⟨w.heap.size, 0, none⟩) 3 3, .string ⟨#[121]⟩, .string ⟨#[105]⟩, .slice none 0 0] 151)
  have kB := Blk.new (w.alloc (.cells #[.string ⟨#[115, 115]⟩, .string ⟨#[117, 115]⟩, .string ⟨#[105, 115]⟩] 9)) 151 #[.string ⟨#[105, 101, 115]⟩, .string ⟨#[105]⟩, .slice none 0 0, .string ⟨#[115, 115, 101, 115]⟩, .string ⟨#[115, 115]⟩, .slice none 0 0, .string ⟨#[110, 101, 115, 115]⟩, .string ⟨#[]⟩, .slice none 0 0, .string ⟨#[109, 101, 110, 116]⟩, .string ⟨#[]⟩, .slice none 0 0, .string ⟨#[105, 110, 103]⟩, .string ⟨#[]⟩, .slice none 0 0, .string ⟨#[101, 100, 108, 121]⟩, .string ⟨#[]⟩, .slice none 0 0, .string ⟨#[101, 100]⟩, .string ⟨#[]⟩, .slice none 0 0, .string ⟨#[108, 121]⟩, .string ⟨#[]⟩, .slice none 0 0, .string ⟨#[115]⟩, .string ⟨#[]⟩, .slice (some ⟨w.heap.size, 0, none⟩) 3 3, .string ⟨#[121]⟩, .string ⟨#[105]⟩, .slice none 0 0]
  rw [show ∀ o, (w.alloc o).heap.size = w.heap.size + 1 from fun o => by simp] at kB
  replace hbar := hbar.ext (w' := _) ((Below.refl _ _).alloc (Nat.le_refl _) (.cells #[.string ⟨#[105, 101, 115]⟩, .string ⟨#[105]⟩, .slice none 0 0, .string ⟨#[115, 115, 101, 115]⟩, .string ⟨#[115, 115]⟩, .slice none 0 0, .string ⟨#[110, 101, 115, 115]⟩, .string ⟨#[]⟩, .slice none 0 0, .string ⟨#[109, 101, 110, 116]⟩, .string ⟨#[]⟩, .slice none 0 0, .string ⟨#[105, 110, 103]⟩, .string ⟨#[]⟩, .slice none 0 0, .string ⟨#[101, 100, 108, 121]⟩, .string ⟨#[]⟩, .slice none 0 0, .string ⟨#[101, 100]⟩, .string ⟨#[]⟩, .slice none 0 0, .string ⟨#[108, 121]⟩, .string ⟨#[]⟩, .slice none 0 0, .string ⟨#[115]⟩, .string ⟨#[]⟩, .slice (some ⟨w.heap.size, 0, none⟩) 3 3, .string ⟨#[121]⟩, .string ⟨#[105]⟩, .slice none 0 0] 151))
  go_enter Tryz.func92, Tryz.ntmps92
  go_wp2_with fail
  generalize hw1 : (w.alloc _).alloc _ = w1 at hbw kB hbar ⊢
  have Hw1 := Lib.hid hw1; clear hw1
  go_loopw [21] (fun i wr => ∃ k : Nat, k ≤ 10 ∧ i = .int .i64 k ∧ Hid (Sm.stepOf (Sm.rules.drop k) s = res) ∧ Below w1.heap.size w1 wr) (fun i _ => 10 - (intOf i).toNat)
  case atStart => exact ⟨0, Nat.zero_le _, rfl, Lib.hid Hres.out, Below.refl _ _⟩
  case round =>
    obtain ⟨k, hk, rfl, hst, hb⟩ := hrel
    by_cases hlt : k < 10
    · obtain ⟨r, v, hdr, c0, c1, c2, hvv, hto⟩ := rule_cells (kB.ext hb) k hlt
      have hbar1 := hbar.ext (hb.mono (Nat.le_refl _))
      have Hk := Lib.hid kB
      clear kB hbar
      have hsl : SlR strC M0 wr v r.bars := by
        rcases hvv with ⟨rfl, e⟩ | ⟨rfl, e⟩
        · rw [e]; exact SlR.nil _ _ _
        · rw [e]; exact hbar1
      clear hbar1
      have hsz := hb.size
      obtain ⟨A, n, c, rfl⟩ : ∃ A n c, v = .slice A n c := by
        rcases hvv with ⟨rfl, e⟩ | ⟨rfl, e⟩
        · exact ⟨_, _, _, rfl⟩
        · exact ⟨_, _, _, rfl⟩
      clear hvv
      have hba := (Below.refl w1.heap.size wr).alloc hsz (.cells #[.string (bs r.ending), .string (bs r.to), .slice A n c] 151)
      have hcall := apply_ok M0 r (.slice A n c) s _ (hsl.ext ((Below.refl wr.heap.size wr).alloc (Nat.le_refl _) (.cells #[.string (bs r.ending), .string (bs r.to), .slice A n c] 151))) hs hto
      clear hsl
      go_wp2_with fail
      refine hcall.mono ?_
      rintro e w2 ⟨rfl, hq⟩
      clear hcall
      have hb2 := hb.trans (hba.trans (hq.mono (Nat.le_trans hsz hba.size)))
      have hall := hbw.trans (hb2.mono hbw.size)
      clear hq hba c0 c1 c2
      obtain ⟨t, ht⟩ : ∃ t, Sm.fits r s = t := ⟨_, rfl⟩
      obtain ⟨ap, hap⟩ : ∃ a, Sm.applied r s = a := ⟨_, rfl⟩
      rw [ht, hap]
      have hres : res = if t then ap else Sm.stepOf (Sm.rules.drop (k + 1)) s := by
        rw [← hst.out, hdr, Sm.stepOf, ht, ← hap]
        cases t with
        | true => rw [if_pos rfl, if_pos rfl, Sm.applied_fits ht]
        | false => rw [if_neg (by simp), if_neg (by simp)]
      have Hap := Lib.hid hap; have Ht := Lib.hid ht; have Hdr := Lib.hid hdr; have Hr := Lib.hid hres
      clear hap ht hdr hres
      cases t with
      | true =>
        go_wp2
        go_ret
        exact ⟨by rw [Hr.out]; rfl, hall⟩
      | false =>
        go_wp2
        go_round
        case rel => exact ⟨k + 1, by omega, by go_num, Lib.hid (by rw [Hr.out]; rfl), hb2⟩
        case measure => simp [intOf]; omega
    · obtain rfl : k = 10 := by omega
      have htl : res = Sm.tail s := hst.out.symm
      have Htl := Lib.hid htl
      have hall := hbw.trans (hb.mono hbw.size)
      clear htl hst kB hbar hbw hb
      have hib := fun (c : UInt8) (W : World) => Tryz.strings_IndexByte (bs [97, 101, 105, 111, 117, 108, 115, 122]) (c.toNat : Int) W
      by_cases h4 : 4 ≤ s.length
      · have hd4 : decide (4 ≤ (s.length : Int)) = true := by simp; omega
        have hi1 : IntKind.i64.wrap ((s.length : Int) - 1) = (s.length : Int) - 1 := IntWalk.i64_in _ (by omega)
        have hi2 : IntKind.i64.wrap ((s.length : Int) - 2) = (s.length : Int) - 2 := IntWalk.i64_in _ (by omega)
        have hj1 : (0 : Int) ≤ (s.length : Int) - 1 := by omega
        have hj2 : (0 : Int) ≤ (s.length : Int) - 2 := by omega
        have hk1 : (1 : Int) ≤ (s.length : Int) := by omega
        have hk2 : (2 : Int) ≤ (s.length : Int) := by omega
        have hk3 : 1 ≤ s.length := by omega
        have hk4 : 2 ≤ s.length := by omega
        have hj3 : (s.length : Int) - 1 < (s.length : Int) := by omega
        have hj4 : (s.length : Int) - 2 < (s.length : Int) := by omega
        obtain ⟨x, hx⟩ : ∃ x, s[s.length - 1] = x := ⟨_, rfl⟩
        obtain ⟨y, hy⟩ : ∃ y, s[s.length - 2] = y := ⟨_, rfl⟩
        have hib := fun (n : Nat) => hib x (wr.drewN n)
        rw [bs_toList, show ((x.toNat : Int)).toNat.toUInt8 = x from by simp] at hib
        have htw := Sm.twice_of (s := s) h4 hx hy
        cases ht : ((x.toNat : Int) == (y.toNat : Int)) with
        | false =>
          have hxy : (x == y) = false := by
            rw [beq_eq_false_iff_ne] at ht ⊢
            exact fun e => ht (by rw [e])
          have hq : Sm.tail s = s := by rw [Sm.tail, htw, hxy]; rfl
          have Hq := Lib.hid hq
          clear hq hib htw hxy
          go_wp2
          go_quiet (fail)
          go_wp2
          go_ret
          exact ⟨ret_str (by rw [Htl.out, Hq.out]), hall.trans (below_drewN' _ _ _)⟩
        | true =>
          have hxy : (x == y) = true := by
            rw [beq_iff_eq] at ht ⊢
            exact UInt8.toNat_inj.1 (by omega)
          rw [hxy] at htw
          cases hv : (Sm.vowels.any (· == x)) with
          | true =>
            have hlt : decide (Lib.indexByte [97, 101, 105, 111, 117, 108, 115, 122] x < 0) = false := Sm.index_hit hv
            have hq : Sm.tail s = s := by rw [Sm.tail, htw, hv]; rfl
            obtain ⟨n, hn⟩ : ∃ n, Lib.indexByte [97, 101, 105, 111, 117, 108, 115, 122] x = n := ⟨_, rfl⟩
            rw [hn] at hlt hib
            have Hq := Lib.hid hq; have Hib := Lib.hid hib
            clear hq htw hxy hn hv hib
            go_wp2
            go_quiet ((go_at_call 124; exact Calls.quiet_of_same (Hib.out _)))
            go_wp2
            go_ret
            exact ⟨ret_str (by rw [Htl.out, Hq.out]), hall.trans (below_drewN' _ _ _)⟩
          | false =>
            have hlt : decide (Lib.indexByte [97, 101, 105, 111, 117, 108, 115, 122] x < 0) = true := Sm.index_miss hv
            have hq : Sm.tail s = s.take (s.length - 1) := by rw [Sm.tail, htw, hv]; rfl
            obtain ⟨n, hn⟩ : ∃ n, Lib.indexByte [97, 101, 105, 111, 117, 108, 115, 122] x = n := ⟨_, rfl⟩
            rw [hn] at hlt hib
            have Hq := Lib.hid hq; have Hib := Lib.hid hib
            clear hq htw hxy hn hv hib
            go_wp2
            go_quiet ((go_at_call 124; exact Calls.quiet_of_same (Hib.out _)))
            go_wp2
            go_ret
            exact ⟨ret_str (by rw [Htl.out, Hq.out]), hall.trans (below_drewN' _ _ _)⟩
      · have hd4 : decide (4 ≤ (s.length : Int)) = false := by simp; omega
        have hq : Sm.tail s = s := by simp [Sm.tail, Sm.twice, h4]
        have Hq := Lib.hid hq
        clear hq hib
        go_wp2
        go_quiet (fail)
        go_wp2
        go_ret
        exact ⟨ret_str (by rw [Htl.out, Hq.out]), hall.trans (below_drewN' _ _ _)⟩
end Go.Proofs.YtiohhajkegpebaaGreatDoor
namespace Go.Proofs.YtiohhajkegpebaaGreatDoor
namespace Al
/-- a strict order in which any two keys are compared -/
structure Tot {K : Type} (lt : K → K → Bool) : Prop where
  irrefl : ∀ a, lt a a = false
  trans : ∀ a b c, lt a b = true → lt b c = true → lt a c = true
  total : ∀ a b, lt a b = false → lt b a = false → a = b
variable {K V : Type} {lt : K → K → Bool}
theorem Tot.asymm (h : Tot lt) {a b : K} (hab : lt a b = true) : lt b a = false := by
  cases hb : lt b a with
  | false => rfl
  | true => have := h.trans _ _ _ hab hb; rw [h.irrefl] at this; cases this
theorem Tot.ne (h : Tot lt) {a b : K} (hab : lt a b = true) : a ≠ b := by
  intro e
  subst e
  rw [h.irrefl] at hab
  cases hab
def Sorted (lt : K → K → Bool) (l : List (K × V)) : Prop := l.Pairwise fun a b => lt a.1 b.1 = true
theorem sorted_filter {l : List (K × V)} (hs : Sorted lt l) (p : K × V → Bool) : Sorted lt (l.filter p) := List.Pairwise.sublist List.filter_sublist hs
theorem sorted_map {W : Type} (g : V → W) {l : List (K × V)} (hs : Sorted lt l) : Sorted lt (l.map fun p => (p.1, g p.2)) := by
  unfold Sorted
  rw [List.pairwise_map]
  exact hs
variable [DecidableEq K]
def look : List (K × V) → K → Option V
  | [], _ => none
  | p :: l, k => if p.1 = k then some p.2 else look l k
theorem look_none {l : List (K × V)} {k : K} (h : ∀ p ∈ l, p.1 ≠ k) : look l k = none := by
  induction l with
  | nil => rfl
  | cons p l ih =>
    rw [look, if_neg (h p List.mem_cons_self)]
    exact ih fun q hq => h q (List.mem_cons_of_mem _ hq)
theorem look_mem {l : List (K × V)} {k : K} {v : V} (h : look l k = some v) : (k, v) ∈ l := by
  induction l with
  | nil => cases h
  | cons p l ih =>
    rw [look] at h
    split at h
    · rename_i e
      injection h with h
      have : p.1 = k := e
      rw [← this, ← h]
      exact List.mem_cons_self
    · exact List.mem_cons_of_mem _ (ih h)
theorem look_of_mem (ht : Tot lt) {l : List (K × V)} (hs : Sorted lt l) {k : K} {v : V} (h : (k, v) ∈ l) : look l k = some v := by
  induction l with
  | nil => cases h
  | cons p l ih =>
    unfold Sorted at hs
    rw [List.pairwise_cons] at hs
    rw [look]
    rcases List.mem_cons.1 h with e | e
    · subst e; simp
    · have := ht.ne (hs.1 _ e)
      rw [if_neg this]
      exact ih hs.2 e
theorem look_none_iff {l : List (K × V)} {k : K} : look l k = none ↔ ∀ p ∈ l, p.1 ≠ k := by
  refine ⟨fun h p hp e => ?_, look_none⟩
  induction l with
  | nil => cases hp
  | cons q l ih =>
    rw [look] at h
    split at h
    · cases h
    · rename_i e2
      rcases List.mem_cons.1 hp with e3 | e3
      · subst e3; exact e2 e
      · exact ih h e3
/-- one of the same look-ups -/
theorem ext (ht : Tot lt) : ∀ {l l' : List (K × V)}, Sorted lt l → Sorted lt l' → (∀ k, look l k = look l' k) → l = l'
  | [], [], _, _, _ => rfl
  | [], p :: l', _, _, h => by have := h p.1; simp [look] at this
  | p :: l, [], _, _, h => by have := h p.1; simp [look] at this
  | p :: l, q :: l', hs, hs', h => by
    have hs0 := hs
    have hs0' := hs'
    unfold Sorted at hs hs'
    rw [List.pairwise_cons] at hs hs'
    have hpq : p.1 = q.1 := by
      apply ht.total
      · cases hlt : lt p.1 q.1 with
        | false => rfl
        | true =>
          exfalso
          have h1 := h p.1
          rw [look_of_mem ht hs0 (show (p.1, p.2) ∈ p :: l from List.mem_cons_self)] at h1
          have h2 := look_mem h1.symm
          rcases List.mem_cons.1 h2 with e | e
          · exact ht.ne hlt (by rw [← e])
          · have := ht.asymm (hs'.1 _ e); simp only at this; rw [hlt] at this; cases this
      · cases hlt : lt q.1 p.1 with
        | false => rfl
        | true =>
          exfalso
          have h1 := h q.1
          rw [look_of_mem ht hs0' (show (q.1, q.2) ∈ q :: l' from List.mem_cons_self)] at h1
          have h2 := look_mem h1
          rcases List.mem_cons.1 h2 with e | e
          · exact ht.ne hlt (by rw [← e])
          · have := ht.asymm (hs.1 _ e); simp only at this; rw [hlt] at this; cases this
    have hv : p.2 = q.2 := by
      have h1 := h p.1
      rw [look, look, hpq] at h1
      simpa using h1
    have : p = q := Prod.ext hpq hv
    subst this
    congr 1
    refine ext ht hs.2 hs'.2 fun k => ?_
    have h1 := h k
    rw [look, look] at h1
    split at h1
    · rename_i e
      have e' : p.1 = k := e
      rw [look_none fun r hr e2 => ht.ne (hs.1 r hr) (e'.trans e2.symm), look_none fun r hr e2 => ht.ne (hs'.1 r hr) (e'.trans e2.symm)]
    · exact h1
/-- the value at a key is made anew -/
def upd (lt : K → K → Bool) (f : Option V → V) (k : K) : List (K × V) → List (K × V)
  | [] => [(k, f none)]
  | p :: l => if lt p.1 k then p :: upd lt f k l else if p.1 = k then (k, f (some p.2)) :: l else (k, f none) :: p :: l
theorem key_upd {f : Option V → V} {k : K} {l : List (K × V)} {q : K × V} (h : q ∈ upd lt f k l) : q.1 = k ∨ q ∈ l := by
  induction l with
  | nil => simp [upd] at h; subst h; exact .inl rfl
  | cons p l ih =>
    rw [upd] at h
    split at h
    · rcases List.mem_cons.1 h with e | e
      · exact .inr (e ▸ List.mem_cons_self)
      · exact (ih e).imp id fun h => List.mem_cons_of_mem _ h
    · split at h
      · rcases List.mem_cons.1 h with e | e
        · subst e; exact .inl rfl
        · exact .inr (List.mem_cons_of_mem _ e)
      · rcases List.mem_cons.1 h with e | e
        · subst e; exact .inl rfl
        · exact .inr e
theorem sorted_upd (ht : Tot lt) {f : Option V → V} {k : K} {l : List (K × V)} (hs : Sorted lt l) : Sorted lt (upd lt f k l) := by
  induction l with
  | nil => unfold Sorted; simp [upd]
  | cons p l ih =>
    have hs0 := hs
    unfold Sorted at hs
    rw [List.pairwise_cons] at hs
    rw [upd]
    unfold Sorted
    split
    · rename_i hlt
      refine List.pairwise_cons.2 ⟨fun q hq => ?_, ih hs.2⟩
      rcases key_upd hq with e | e
      · rw [e]; exact hlt
      · exact hs.1 _ e
    · rename_i hlt
      split
      · rename_i e
        have e' : p.1 = k := e
        exact List.pairwise_cons.2 ⟨fun q hq => by rw [← e']; exact hs.1 q hq, hs.2⟩
      · rename_i e
        have hkp : lt k p.1 = true := by
          cases h : lt k p.1 with
          | true => rfl
          | false => exact absurd (ht.total _ _ (by simpa using hlt) h) e
        refine List.pairwise_cons.2 ⟨fun q hq => ?_, hs0⟩
        rcases List.mem_cons.1 hq with e2 | e2
        · rw [e2]; exact hkp
        · exact ht.trans _ _ _ hkp (hs.1 _ e2)
theorem look_upd (ht : Tot lt) {f : Option V → V} {k : K} {l : List (K × V)} (hs : Sorted lt l) (k' : K) : look (upd lt f k l) k' = if k' = k then some (f (look l k)) else look l k' := by
  induction l with
  | nil =>
    rw [upd, look]
    by_cases h : k' = k
    · subst h; simp [look]
    · have : ¬ k = k' := fun e => h e.symm
      simp [look, h, this]
  | cons p l ih =>
    have hs0 := hs
    unfold Sorted at hs
    rw [List.pairwise_cons] at hs
    rw [upd]
    split
    · rename_i hlt
      have hne := ht.ne hlt
      have e1 : ¬ p.1 = k := hne
      rw [look, ih hs.2]
      by_cases h : k' = k
      · subst h
        simp [look, e1]
      · simp only [h, if_false, look]
    · rename_i hlt
      split
      · rename_i e
        have e' : p.1 = k := e
        rw [look]
        by_cases h : k' = k
        · subst h
          simp [look, e]
        · have h2 : ¬ k = k' := fun e => h e.symm
          have h3 : ¬ p.1 = k' := by rw [e']; exact h2
          simp [look, h, h2, h3]
      · rename_i e
        have hkp : lt k p.1 = true := by
          cases h : lt k p.1 with
          | true => rfl
          | false => exact absurd (ht.total _ _ (by simpa using hlt) h) e
        have hn : look (p :: l) k = none := look_none fun q hq e2 => by
          rcases List.mem_cons.1 hq with e3 | e3
          · subst e3; exact ht.ne hkp e2.symm
          · exact ht.ne (ht.trans _ _ _ hkp (hs.1 _ e3)) e2.symm
        rw [look, hn]
        by_cases h : k' = k
        · subst h; simp
        · have h2 : ¬ k = k' := fun e => h e.symm
          simp [h, h2]
theorem look_filter (ht : Tot lt) {l : List (K × V)} (hs : Sorted lt l) (p : K × V → Bool) (k : K) : look (l.filter p) k = (look l k).bind fun v => if p (k, v) then some v else none := by
  cases h : look l k with
  | none =>
    rw [look_none_iff] at h
    exact look_none fun q hq => h q (List.mem_filter.1 hq).1
  | some v =>
    have hm := look_mem h
    show _ = if p (k, v) then some v else none
    split
    · rename_i hp
      exact look_of_mem ht (sorted_filter hs p) (List.mem_filter.2 ⟨hm, hp⟩)
    · rename_i hp
      refine look_none fun q hq e => hp ?_
      obtain ⟨h1, h2⟩ := List.mem_filter.1 hq
      have h3 := look_of_mem ht hs (show (q.1, q.2) ∈ l from h1)
      rw [e, h] at h3
      injection h3 with h3
      rw [h3, ← e]
      exact h2
/-- values turned in place -/
theorem look_map {W : Type} (g : V → W) (l : List (K × V)) (k : K) : look (l.map fun p => (p.1, g p.2)) k = (look l k).map g := by
  induction l with
  | nil => rfl
  | cons p l ih =>
    rw [List.map_cons, look, look, ih]
    split <;> rfl
/-- upd by a position: what stands ahead of it is smaller, what stands there and behind is not -/
theorem upd_at (ht : Tot lt) {f : Option V → V} {k : K} : ∀ {l : List (K × V)}, Sorted lt l → ∀ (i : Nat), i ≤ l.length → (∀ (m : Nat) (h : m < l.length), m < i → lt l[m].1 k = true) → (∀ (h : i < l.length), lt l[i].1 k = false) →
    upd lt f k l = l.take i ++ (match l[i]? with | some p => if p.1 = k then (k, f (some p.2)) :: l.drop (i + 1) else (k, f none) :: l.drop i | none => [(k, f none)])
  | [], _, i, hi, _, _ => by
    have : i = 0 := by simpa using hi
    subst this
    simp [upd]
  | p :: l, hs, 0, _, _, h2 => by
    have h3 := h2 (by simp)
    simp only [List.getElem_cons_zero] at h3
    rw [upd, if_neg (by rw [h3]; simp)]
    simp
  | p :: l, hs, i + 1, hi, h1, h2 => by
    have h3 := h1 0 (by simp) (by omega)
    simp only [List.getElem_cons_zero] at h3
    unfold Sorted at hs
    rw [List.pairwise_cons] at hs
    rw [upd, if_pos h3, upd_at ht hs.2 i (by simpa using hi) (fun m hm hmi => h1 (m + 1) (by simpa using hm) (by omega)) (fun h => h2 (by simpa using h))]
    simp
end Al
theorem tot_int : Al.Tot (fun a b : Int => decide (a < b)) where
  irrefl a := by simp
  trans a b c h1 h2 := by simp at h1 h2 ⊢; omega
  total a b h1 h2 := by simp at h1 h2; omega
theorem tot_str : Al.Tot ltS where
  irrefl := ltS_irrefl
  trans a b c := ltS_trans
  total a b h1 h2 := by
    rcases ltS_total a b with h | h | h
    · rw [h] at h1; cases h1
    · exact h
    · rw [h] at h2; cases h2
end Go.Proofs.YtiohhajkegpebaaGreatDoor
namespace Go.Proofs.YtiohhajkegpebaaGreatDoor
open Go.RowKit
section
variable {P : Program} {Q : Exit → Act → World → Prop} {ops : Array Oper} {md : Region.Mode} {S : World → Prop} {D : Nat → Bool}
theorem anyD_pick {fuel : Nat} {listed : Array Bool} {a : Act} {w : World} (l : List Nat) (hr : Region.ready md ops listed = l) (hne : l ≠ [])
    (h : ∀ j ∈ l, ∃ o, ops[j]? = some o ∧ o.guard = none ∧ ∀ K : Act → World → Prop, (∀ a w, (D j = false → S w) → anyD P md ops Q S D fuel (listed.setIfInBounds j true) a w → K a w) → o.wp P a w K Q) : anyD P md ops Q S D (fuel + 1) listed a w := by
  refine ⟨fun h0 => absurd (hr ▸ h0) hne, fun j hj => ?_⟩
  rw [hr] at hj
  obtain ⟨o, ho, hg, hk⟩ := h j hj
  unfold wpOp
  rw [ho]
  have hw : Region.wanted o (yielded ops a.tmps) = true := by simp [Region.wanted, hg]
  simp only [hw, if_true]
  exact .inl (hk _ fun a w h1 h2 => ⟨h1, h2⟩)
end
end Go.Proofs.YtiohhajkegpebaaGreatDoor
namespace Go.Proofs.YtiohhajkegpebaaGreatDoor
open Go.RowKit
theorem run_neq_fault (a b a' b' : Int) (w : World) : (binOp .neq 27 (.agg #[.int .i64 a, .int .i64 b]) (.agg #[.int .i64 a', .int .i64 b'])).run Tryz.prog w = .ok (.bool (!((a, b) == (a', b')))) w := by
  have h1 : ((a, b) == (a', b')) = ((a == a') && (b == b')) := rfl
  rw [h1]
  cases e1 : (a == a') <;> cases e2 : (b == b') <;> simp [go_sem, e1, e2]
end Go.Proofs.YtiohhajkegpebaaGreatDoor

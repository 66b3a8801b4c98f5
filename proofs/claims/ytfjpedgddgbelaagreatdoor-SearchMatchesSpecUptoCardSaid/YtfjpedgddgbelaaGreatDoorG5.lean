/-
  Contracts and plain facts, one after another: Regions that draw their order, walked by hand: in a round and outside. No program is named here; Regions that draw their order: what a load needs is owed only behind operations that do not wait for it. No program is named here; Rows of elements of several cells: append in place, copy, clear; Insert and Delete on what the call owns. No program is named here.
-/
import Derived.Test.YtfjpedgddgbelaaGreatDoorG4
import Derived.OrdersHeld
import Derived.OrdersIn
import Derived.RangeFuncCalls
import Derived.Laws.CopyOwn
import Derived.Lib.AppendZerosOnto
import Derived.Lib.Overlaps
import Derived.Lib.SliceRun
namespace Go.Proofs.YtfjpedgddgbelaaGreatDoor
open Go.RowKit

section
variable {P : Program} {Q : Exit → Act → World → Prop} {ops : Array Oper} {md : Region.Mode} {S : World → Prop}

theorem oper_inRound {l n : Nat} {o : Oper} {a : Act} {w : World} {next : Act → World → Prop} (hnd : ∀ c, o.op ≠ .defer c) (h : o.wp P a w next Q) :
    o.wpIn (Fence.wide.inRound l) n P a w next Q := by
  refine ⟨fun _ _ => trivial, ?_⟩
  rw [Oper.semAt_eq _ _ _ hnd]
  unfold Oper.wp at h
  revert h
  generalize (execOp a.eval o).run P w = r
  intro h
  have hd : (Fence.wide.inRound l).depth.isSome = true → 1 ≤ n := fun hh => by simp [Fence.wide] at hh
  cases r with
  | ok nx w' =>
    cases nx with
    | value v => exact h
    | skip => exact h
    | defer d => exact h
    | enter f args => exact ⟨hd, CallsIn.inRound l (callsIn_wide.2 h)⟩
    | row row args => exact ⟨hd, fun c cs _ => let ⟨v, w2, r, s⟩ := h c cs; ⟨v, w2, r, stepsIn_wide.2 s⟩⟩
    | _ => exact h.elim
  | halt hh w' => cases hh <;> first | exact h | exact h.elim

/-- No operation of the region is a defer. -/
def noDefer (ops : Array Oper) : Bool := ops.all fun o => match o.op with | .defer _ => false | _ => true
theorem noDefer_spec (h : noDefer ops = true) {j : Nat} {o : Oper} (ho : ops[j]? = some o) : ∀ c, o.op ≠ .defer c := fun c e => by
  unfold noDefer at h
  rw [Array.all_eq_true] at h
  obtain ⟨hj, rfl⟩ := Array.getElem?_eq_some_iff.1 ho
  have := h j hj
  rw [e] at this
  cases this

theorem any_inRound {l n : Nat} (hnd : noDefer ops = true) (hL : ¬ LetsOut Q) : ∀ (fuel : Nat) (listed : Array Bool) (a : Act) (w : World), wpAny P md ops Q fuel listed a w → wpAnyIn (Fence.wide.inRound l) n P md ops Q fuel listed a w
  | 0, _, _, _, h => h
  | fuel + 1, listed, a, w, h => ⟨h.1, fun i hi => by
      have h1 := h.2 i hi
      unfold wpOp at h1
      unfold wpOpIn
      cases ho : ops[i]? with
      | none => rw [ho] at h1; exact any_inRound hnd hL fuel _ _ _ h1
      | some o =>
        rw [ho] at h1
        simp only at h1 ⊢
        split at h1
        · rename_i hw
          rw [if_pos hw]
          rcases h1 with h1 | h1
          · exact oper_inRound (noDefer_spec hnd ho) (Oper.wp_mono (fun a w h2 => any_inRound hnd hL fuel _ a w h2) h1)
          · exact absurd h1.2 hL
        · rename_i hw
          rw [if_neg hw]
          exact ⟨fun _ _ => trivial, any_inRound hnd hL fuel _ _ _ h1⟩⟩

theorem wpIn_region_held_round {l n id : Nat} {a : Act} {w : World} (S : World → Prop) (hm : P.follows .mixedOrders = true) (hnd : noDefer ops = true) (hL : ¬ LetsOut Q)
    (h : wpAnyH P .any ops Q S ops.size (Array.replicate ops.size false) a w.drew) : (Code.region id ops true).wpIn (Fence.wide.inRound l) n P Q a w :=
  wpIn_region_any hm (any_inRound hnd hL _ _ _ _ (wpAny_of_held _ _ _ _ h))

/-- One operation alone may come up. -/
theorem wpAnyH_one {i fuel : Nat} {o : Oper} {listed : Array Bool} {a : Act} {w : World} (hr : Region.ready md ops listed = [i]) (ho : ops[i]? = some o) (hg : o.guard = none)
    (h : ∀ K : Act → World → Prop, (∀ a w, S w → wpAnyH P md ops Q S fuel (listed.setIfInBounds i true) a w → K a w) → o.wp P a w K Q) : wpAnyH P md ops Q S (fuel + 1) listed a w := by
  refine wpAnyH_all hr (by simp) fun j hj => ?_
  obtain rfl : j = i := by simpa using hj
  unfold wpOp
  rw [ho]
  have hw : Region.wanted o (yielded ops a.tmps) = true := by simp [Region.wanted, hg]
  simp only [hw, if_true]
  exact .inl (h _ fun a w h1 h2 => ⟨h1, h2⟩)
/-- A light operation is taken first. -/
theorem wpAnyH_light {i fuel : Nat} {o : Oper} {v : Value} {listed : Array Bool} {a : Act} {w : World} (ho : ops[i]? = some o) (hs : Region.noSelect ops = true) (hf : Region.free md ops listed i = true)
    (hr : (Region.ready md ops listed).contains i = true) (hQ : ∀ c a w, Q (.panic c) (a.put o.dst v) w → Q (.panic c) a w) (hg : o.guard = none) (hy : ∀ w, S w → (execOp a.eval o).run P w = .ok (.value v) w) (hS : S w)
    (h : wpAnyH P md ops Q S fuel (listed.setIfInBounds i true) (a.put o.dst v) w) : wpAnyH P md ops Q S (fuel + 1) listed a w :=
  wpAnyH_take ho hs hf hr hQ (.inl ⟨by simp [Region.wanted, hg], hy⟩) hS h
end

section
variable {P : Program} {α : Type} (C : Codec α) {w : World} {M : Nat → Prop} {B : Nat} {l l' : List α} {o : Oper} {a : Act} {K : Act → World → Prop} {Q : Exit → Act → World → Prop} {t e : TypeId} {bytes : Nat}
/-- append, as one operation. -/
theorem wp_append_Own (T : SlT P C.n t e bytes) (s x : Operand)
    (ho : o.op = .call { callee := .builtin .append, args := #[s, x], argTypes := #[t, t] })
    {v : Value} (hs : a.eval s = v) (hown : Own C M w B e v l)
    {x' : Value} (hx : a.eval x = x') (hr : SlR C (fun b => M b ∨ v.ownBlock = some b) w x' l')
    (h63 : l.length + l'.length ≤ maxLen) (hbytes : (l.length + l'.length) * bytes ≤ 140737488355328) (hbase : B ≤ w.heap.size)
    (h : ∀ A' c' L w', Hid (L = l ++ l') → Own C M w' B e (.slice A' L.length c') L → Below B w w' → w.grownBy w' v.ownBlock → ((Value.slice A' L.length c').ownBlock = v.ownBlock ∨ (Value.slice A' L.length c').ownBlock = some w.heap.size) →
      K (a.put o.dst (.slice A' L.length c')) w') : o.wp P a w K Q := by
  obtain ⟨i, z, hi, hz, h1, h2, h3⟩ := T.hi
  obtain ⟨A, n, c, xs, rfl, hn, hc, hm, he, ha⟩ := hr
  obtain ⟨v', w', hrun, h5, h6, h7⟩ := run_append_Own (P := P) C t o.type e i z bytes T.ht hi hz h1 h2 h3 hown A n c xs he hn
    (fun h0 => by obtain ⟨b, off, rfl, _, _, hcell⟩ := ha h0; exact ⟨b, off, rfl, hcell⟩) h63 hbytes hbase
  obtain ⟨A', c', rfl, _⟩ := h5.shape
  unfold Oper.wp execOp
  simp only [ho, resolve, invoke, builtin, Sem.run_bind, Sem.run_pure, Result.andThen_ok, List.map_toArray, List.map_cons, List.map_nil, hs, hx, hrun]
  exact h A' c' _ w' (Lib.hid rfl) h5 ((Below.refl _ _).grown h6 hbase fun k hk => hown.base k hk) h6 h7
/-- append of one element that has been laid in a block of its own. -/
theorem wp_push_Own (T : SlT P C.n t e bytes) (s x : Operand)
    (ho : o.op = .call { callee := .builtin .append, args := #[s, x], argTypes := #[t, t] })
    {v : Value} (hs : a.eval s = v) (hown : Own C M w B e v l) {cs : List Value} {y : α} (hx : a.eval x = .slice (some ⟨w.heap.size, 0, none⟩) 1 1)
    (hr : C.rd (fun b => M b ∨ v.ownBlock = some b) w cs y) (hM : ∀ b, M b → b < w.heap.size)
    (h63 : l.length + 1 ≤ maxLen) (hbytes : (l.length + 1) * bytes ≤ 140737488355328) (hbase : B ≤ w.heap.size)
    (h : ∀ A' c' L w', Hid (L = l ++ [y]) → Own C M w' B e (.slice A' L.length c') L → Below B w w' → w.grownBy w' v.ownBlock → ((Value.slice A' L.length c').ownBlock = v.ownBlock ∨ (Value.slice A' L.length c').ownBlock = some (w.heap.size + 1)) →
      K (a.put o.dst (.slice A' L.length c')) w') : o.wp P a (w.alloc (.cells cs.toArray e)) K Q := by
  have hal : Below w.heap.size w (w.alloc (.cells cs.toArray e)) := (Below.refl _ _).alloc (Nat.le_refl _) _
  refine wp_append_Own C T s x ho hs (hown.ext hal) hx (SlR.built e hr fun b hb => hb.elim (hM b) (hown.lt b)) h63 hbytes (by simp; omega) fun A' c' L w' hL h1 h2 h3 h4 => ?_
  refine h A' c' L w' hL h1 ((hal.mono hbase).trans h2) ⟨h3.os, h3.tape, h3.output, Nat.le_trans hal.size h3.size, fun k hk hne => (h3.block k (by simp; omega) hne).trans (hal.block k hk)⟩ ?_
  rw [World.size_alloc] at h4
  exact h4
end
end Go.Proofs.YtfjpedgddgbelaaGreatDoor
namespace Go.Proofs.YtfjpedgddgbelaaGreatDoor
open Go.RowKit

section
variable {P : Program} {Q : Exit → Act → World → Prop} {ops : Array Oper} {md : Region.Mode} {S : World → Prop} {D : Nat → Bool}

/-- Any order; S is owed behind each operation outside D. -/
def anyD (P : Program) (md : Region.Mode) (ops : Array Oper) (Q : Exit → Act → World → Prop) (S : World → Prop) (D : Nat → Bool) : Nat → Array Bool → Act → World → Prop
  | 0, listed, a, w => Region.ready md ops listed = [] ∧ Q .normal a w
  | fuel + 1, listed, a, w => (Region.ready md ops listed = [] → Q .normal a w) ∧
      ∀ i ∈ Region.ready md ops listed, wpOp P ops Q i (fun a' w' => (D i = false → S w') ∧ anyD P md ops Q S D fuel (listed.setIfInBounds i true) a' w') a w

theorem any_of_D : ∀ (fuel : Nat) (listed : Array Bool) (a : Act) (w : World), anyD P md ops Q S D fuel listed a w → wpAny P md ops Q fuel listed a w
  | 0, _, _, _, h => h
  | fuel + 1, _, _, _, h => ⟨h.1, fun i hi => wpOp_mono (fun a' w' h' => any_of_D fuel _ a' w' h'.2) (h.2 i hi)⟩

theorem anyD_first {i : Nat} {oi : Oper} {v : Value} (hi : ops[i]? = some oi) (hsel : ∀ (j : Nat) (o : Oper) cs b, ops[j]? = some o → o.op ≠ .select cs b)
    (hQ : ∀ c a w, Q (.panic c) (a.put oi.dst v) w → Q (.panic c) a w)
    (hdep : ∀ (j : Nat) (oj : Oper), ops[j]? = some oj → D j = true → j ≠ i → ∃ e ∈ oj.after, Region.binds md e = true ∧ (e.on = i ∨ D e.on = true)) :
    ∀ (fuel : Nat) (listed : Array Bool) (a : Act) (w : World),
      (∀ (j : Nat) (oj : Oper), ops[j]? = some oj → j ≠ i → listed.getD j true = false → (∀ e ∈ oj.after, Region.binds md e = true → e.on ≠ i) → oi.apart ops oj = true) →
      (∀ j, listed.getD j false = true → D j = false) →
      i ∈ Region.ready md ops listed → YieldsIf P ops S oi v a → S w →
      anyD P md ops Q S D fuel (listed.setIfInBounds i true) (a.put oi.dst v) w → anyD P md ops Q S D (fuel + 1) listed a w := by
  intro fuel
  induction fuel with
  | zero =>
    intro listed a w _ _ hr hy hS H
    refine ⟨fun h => absurd hr (by rw [h]; simp), fun j hj => ?_⟩
    by_cases hji : j = i
    · subst hji
      exact hy.wpOp hi hS ⟨fun _ => hS, H⟩
    · have hm := ready_mono hj hji
      rw [H.1] at hm
      cases hm
  | succ fuel ih =>
    intro listed a w hfree hlist hr hy hS H
    refine ⟨fun h => absurd hr (by rw [h]; simp), fun j hj => ?_⟩
    by_cases hji : j = i
    · subst hji
      exact hy.wpOp hi hS ⟨fun _ => hS, H⟩
    · have h1 := H.2 j (ready_mono hj hji)
      obtain ⟨hun, oj, hoj, hall⟩ := mem_ready.1 hj
      have hi0 := (mem_ready.1 hr).1
      have hli : listed.getD i false = true → False := fun h => by
        rcases Nat.lt_or_ge i listed.size with h' | h'
        · simp [h'] at h hi0; rw [h] at hi0; cases hi0
        · simp [Array.getElem?_eq_none h'] at h
      have hnot : ∀ e ∈ oj.after, Region.binds md e = true → e.on ≠ i := fun e he hb heq => hli (heq ▸ hall e he hb)
      have hDj : D j = false := by
        cases hd : D j with
        | false => rfl
        | true =>
          obtain ⟨e, he, hb, hor⟩ := hdep j oj hoj hd hji
          rcases hor with h' | h'
          · exact absurd h' (hnot e he hb)
          · rw [hlist _ (hall e he hb)] at h'; cases h'
      have h2 := wpOp_putIf hoj (hfree j oj hoj hji hun hnot) (fun cs b => hsel i oi cs b hi) (fun cs b => hsel j oj cs b hoj) hQ hy h1
      refine wpOp_mono (fun a' w' h3 => ⟨fun _ => h3.2.1 hDj, ih (listed.setIfInBounds j true) a' w' (fun k ok hk hki hku hno => hfree k ok hk hki ?_ hno) (fun k hk => ?_) (ready_mono hr (Ne.symm hji)) h3.1 (h3.2.1 hDj) ?_⟩) h2
      · by_cases hjk : j = k
        · subst hjk; exact hun
        · rwa [getD_set_ne true hjk] at hku
      · by_cases hjk : j = k
        · subst hjk; exact hDj
        · rw [getD_set_ne false hjk] at hk; exact hlist k hk
      · rw [Array.setIfInBounds_comm _ _ hji]
        exact h3.2.2

/-- D's operations wait for number i, each by a way inside D. -/
def behind (md : Region.Mode) (ops : Array Oper) (i : Nat) (D : Nat → Bool) : Bool :=
  (List.range ops.size).all fun j => !D j || j == i || match ops[j]? with
    | some o => o.after.any fun e => Region.binds md e && (e.on == i || D e.on)
    | none => false
def outsideD (listed : Array Bool) (D : Nat → Bool) : Bool := (List.range listed.size).all fun j => !listed.getD j false || !D j
theorem behind_spec {i : Nat} (h : behind md ops i D = true) (j : Nat) (oj : Oper) (ho : ops[j]? = some oj) (hd : D j = true) (hne : j ≠ i) :
    ∃ e ∈ oj.after, Region.binds md e = true ∧ (e.on = i ∨ D e.on = true) := by
  unfold behind at h
  rw [List.all_eq_true] at h
  have h1 := h j (List.mem_range.2 (Array.getElem?_eq_some_iff.1 ho).1)
  simp only [hd, Bool.not_true, Bool.false_or, ho] at h1
  have h2 : (j == i) = false := by simpa using hne
  rw [h2, Bool.false_or, Array.any_eq_true'] at h1
  obtain ⟨e, he, h3⟩ := h1
  rw [Bool.and_eq_true, Bool.or_eq_true, beq_iff_eq] at h3
  exact ⟨e, he, h3⟩
theorem outsideD_spec {listed : Array Bool} (h : outsideD listed D = true) (j : Nat) (hj : listed.getD j false = true) : D j = false := by
  unfold outsideD at h
  rw [List.all_eq_true] at h
  have hlt : j < listed.size := Classical.byContradiction fun h' => by
    simp [Array.getElem?_eq_none (Nat.le_of_not_lt h')] at hj
  have h1 := h j (List.mem_range.2 hlt)
  rw [hj] at h1
  simpa using h1

theorem anyD_light {i fuel : Nat} {o : Oper} {v : Value} {listed : Array Bool} {a : Act} {w : World} (ho : ops[i]? = some o) (hs : Region.noSelect ops = true) (hf : Region.free md ops listed i = true)
    (hr : (Region.ready md ops listed).contains i = true) (hb : behind md ops i D = true) (hl : outsideD listed D = true)
    (hQ : ∀ c a w, Q (.panic c) (a.put o.dst v) w → Q (.panic c) a w) (hy : YieldsIf P ops S o v a) (hS : S w)
    (h : anyD P md ops Q S D fuel (listed.setIfInBounds i true) (a.put o.dst v) w) : anyD P md ops Q S D (fuel + 1) listed a w :=
  anyD_first ho (Region.noSelect_spec hs) hQ (behind_spec hb) fuel listed a w (Region.free_spec ho hf) (outsideD_spec hl) (by simpa using hr) hy hS h
theorem anyD_one {i fuel : Nat} {o : Oper} {listed : Array Bool} {a : Act} {w : World} (hr : Region.ready md ops listed = [i]) (ho : ops[i]? = some o) (hg : o.guard = none)
    (h : ∀ K : Act → World → Prop, (∀ a w, (D i = false → S w) → anyD P md ops Q S D fuel (listed.setIfInBounds i true) a w → K a w) → o.wp P a w K Q) : anyD P md ops Q S D (fuel + 1) listed a w := by
  refine ⟨fun h0 => absurd (hr ▸ h0) (by simp), fun j hj => ?_⟩
  rw [hr] at hj
  obtain rfl : j = i := by simpa using hj
  unfold wpOp
  rw [ho]
  have hw : Region.wanted o (yielded ops a.tmps) = true := by simp [Region.wanted, hg]
  simp only [hw, if_true]
  exact .inl (h _ fun a w h1 h2 => ⟨h1, h2⟩)
theorem anyD_oneG {i fuel : Nat} {o : Oper} {listed : Array Bool} {a : Act} {w : World} (hr : Region.ready md ops listed = [i]) (ho : ops[i]? = some o) (hw : Region.wanted o (yielded ops a.tmps) = true)
    (h : ∀ K : Act → World → Prop, (∀ a w, (D i = false → S w) → anyD P md ops Q S D fuel (listed.setIfInBounds i true) a w → K a w) → o.wp P a w K Q) : anyD P md ops Q S D (fuel + 1) listed a w := by
  refine ⟨fun h0 => absurd (hr ▸ h0) (by simp), fun j hj => ?_⟩
  rw [hr] at hj
  obtain rfl : j = i := by simpa using hj
  unfold wpOp
  rw [ho]
  simp only [hw, if_true]
  exact .inl (h _ fun a w h1 h2 => ⟨h1, h2⟩)
theorem anyD_done {listed : Array Bool} {a : Act} {w : World} (hr : Region.ready md ops listed = []) (h : Q .normal a w) : ∀ fuel, anyD P md ops Q S D fuel listed a w
  | 0 => ⟨hr, h⟩
  | _ + 1 => ⟨fun _ => h, by rw [hr]; simp⟩
theorem wpIn_region_D_round {l n id : Nat} {a : Act} {w : World} (S : World → Prop) (D : Nat → Bool) (hm : P.follows .mixedOrders = true) (hnd : noDefer ops = true) (hL : ¬ LetsOut Q)
    (h : anyD P .any ops Q S D ops.size (Array.replicate ops.size false) a w.drew) : (Code.region id ops true).wpIn (Fence.wide.inRound l) n P Q a w :=
  wpIn_region_any hm (any_inRound hnd hL _ _ _ _ (any_of_D _ _ _ _ h))
theorem wp_region_D {id : Nat} {a : Act} {w : World} (S : World → Prop) (D : Nat → Bool) (hm : P.follows .mixedOrders = true)
    (h : anyD P .any ops Q S D ops.size (Array.replicate ops.size false) a w.drew) : (Code.region id ops true).wp P Q a w :=
  wp_region_any hm (any_of_D _ _ _ _ h)
end
end Go.Proofs.YtfjpedgddgbelaaGreatDoor
namespace Go.Proofs.YtfjpedgddgbelaaGreatDoor
open Go.RowKit

section
variable {P : Program} {w : World} {k bytes : Nat} {t e : TypeId}

theorem Blk.setRow {g : Nat} {cur cs : Array Value} (h : Blk w g e cur) : Blk (w.setRow g cs) g e cs := setRow_heap w g cur cs e (0, 0) h
theorem setRow_same {g : Nat} {cur : Array Value} (h : Blk w g e cur) (o : Nat) : w.setRow g (splice cur.toList o []).toArray = w := by
  have : (splice cur.toList o []).toArray = cur := by simp [splice]
  rw [this]
  exact setRow_self w g cur e (0, 0) h
theorem add_zero_lit (g o : Nat) (i : Nat) : (⟨g, o, none⟩ : Addr).add i = ⟨g, o + i, none⟩ := Addr.add_lit _ _ _

/-- append onto a row that has room. -/
theorem run_append_in (T : SlT P k t e bytes) (ty : TypeId) {g n c : Nat} {cur : Array Value} (hg : Blk w g e cur) (A : Option Addr) (m c2 : Nat) (news : List Value) (hl : news.length = m * k)
    (hA : 0 < m → ∃ ad, A = some ad ∧ ∀ (j : Nat) (u : Value), news[j]? = some u → w.cell? (ad.add j) = some u) (h1 : ∀ u ∈ news, u.oneCell' = true) (hroom : n + m ≤ c) (hfit : n * k + news.length ≤ cur.size) :
    (Builtin.append_ #[t, t] ty #[.slice (some ⟨g, 0, none⟩) n c, .slice A m c2]).run P w = .ok (.slice (some ⟨g, 0, none⟩) (n + m) c) (w.setRow g (splice cur.toList (n * k) news).toArray) := by
  obtain ⟨i, z, hi, hz, hk, hb, hzs⟩ := T.hi
  rcases Nat.eq_zero_or_pos m with h0 | h0
  · subst h0
    have : news = [] := List.eq_nil_of_length_eq_zero (by simpa using hl)
    subst this
    rw [setRow_same hg]
    cases A <;> simp [Builtin.append_, run_underlying T.ht, sizeOf, typeInfo, hi, Builtin.lenOf, Builtin.firstCells, storeCells, loadCells, loadCellsFrom, show n ≤ c by omega]
  · obtain ⟨ad, rfl, hc⟩ := hA h0
    have := run_append_room (P := P) w t ty e i T.ht hi g n c cur hg ad m c2 news (by rw [hk]; exact hl) hc h1 hroom (by rw [hk]; exact hfit)
    rw [this, hk]
    simp [splice]

/-- copy into a row. -/
theorem run_copy_in (T : SlT P k t e bytes) {g o : Nat} {cur : Array Value} (hg : Blk w g e cur) (dp A : Option Addr) (dLen dCap sLen sCap : Nat) (cs : List Value) (hl : cs.length = Nat.min sLen dLen * k)
    (hpos : 0 < cs.length → dp = some ⟨g, o, none⟩ ∧ ∃ ad, A = some ad ∧ ∀ (j : Nat) (u : Value), cs[j]? = some u → w.cell? (ad.add j) = some u) (h1 : ∀ u ∈ cs, u.oneCell' = true) (hfit : o + cs.length ≤ cur.size) (ty : TypeId) :
    (Builtin.copy_ #[t, t] ty #[.slice dp dLen dCap, .slice A sLen sCap]).run P w = .ok (.int .i64 (Nat.min sLen dLen : Nat)) (w.setRow g (splice cur.toList o cs).toArray) := by
  obtain ⟨i, z, hi, hz, hk, hb, hzs⟩ := T.hi
  rcases Nat.eq_zero_or_pos cs.length with h0 | h0
  · have : cs = [] := List.eq_nil_of_length_eq_zero h0
    subst this
    rw [setRow_same hg]
    have h2 : Nat.min sLen dLen * k = 0 := by simpa using hl.symm
    cases A <;> cases dp <;> simp [Builtin.copy_, run_underlying T.ht, sizeOf, typeInfo, hi, hk, Builtin.lenOf, Builtin.firstCells, h2, storeCells, loadCells, loadCellsFrom, goInt]
  · obtain ⟨rfl, ad, rfl, hc⟩ := hpos h0
    have hld := run_loadCells_list (P := P) w ad cs hc
    have hst := run_storeCells_at P g o e cs 0 cur w hg (by simpa using hfit) h1
    simp [Builtin.copy_, run_underlying T.ht, Builtin.lenOf, Builtin.firstCells, sizeOf, typeInfo, hi, hk, ← hl, hld, hst, goInt, splice]

theorem zeroCells_one (z : Array Value) (h0 : 0 < z.size) (h : ∀ u ∈ z.toList, u.oneCell' = true) (m : Nat) : ∀ u ∈ (Builtin.zeroCells z m).toList, u.oneCell' = true := by
  intro u hu
  simp only [Builtin.zeroCells, Array.toList_map, Array.toList_range, List.mem_map, List.mem_range] at hu
  obtain ⟨i, _, rfl⟩ := hu
  have hlt : i % z.size < z.size := Nat.mod_lt _ h0
  rw [getElem!_pos z (i % z.size) hlt]
  exact h _ (by simp)
/-- clear on a part of a row. -/
theorem run_clear_in (T : SlT P k t e bytes) {g o : Nat} {cur : Array Value} (hg : Blk w g e cur) (m c : Nat) (h0 : 0 < m) (hk0 : 0 < k) (hone : ∀ i z, P.info? e = some i → i.zero = some z → ∀ u ∈ z.cells.toList, u.oneCell' = true) (hfit : o + m * k ≤ cur.size) : ∃ zs : List Value, zs.length = m * k ∧ ∀ ty : TypeId,
    (Builtin.clear_ #[t] ty #[.slice (some ⟨g, o, none⟩) m c]).run P w = .ok (.tuple #[]) (w.setRow g (splice cur.toList o zs).toArray) := by
  obtain ⟨i, z, hi, hz, hk, hb, hzs⟩ := T.hi
  have hlen : (Builtin.zeroCells z.cells m).toList.length = m * k := by rw [Array.length_toList, size_zeroCells, hzs]
  have hst := run_storeCells_at P g o e (Builtin.zeroCells z.cells m).toList 0 cur w hg (by rw [hlen]; simpa using hfit) (zeroCells_one z.cells (by omega) (hone i z hi hz) m)
  refine ⟨_, hlen, fun ty => ?_⟩
  obtain ⟨m', rfl⟩ : ∃ m', m = m' + 1 := ⟨m - 1, by omega⟩
  simp [Builtin.clear_, run_underlying T.ht, zeroValue, typeInfo, hi, hz, hst, splice]
end
section
variable {P : Program} {w w' : World} {o : Oper} {a : Act} {K : Act → World → Prop} {Q : Exit → Act → World → Prop} {ts : Array TypeId} {v vx vy : Value} {ops : Array Oper} {rest : List Oper}
theorem wp_append_run (x y : Operand) (ho : o.op = .call { callee := .builtin .append, args := #[x, y], argTypes := ts }) (hx : a.eval x = vx) (hy : a.eval y = vy)
    (hrun : (Builtin.append_ ts o.type #[vx, vy]).run P w = .ok v w') (h : K (a.put o.dst v) w') : o.wp P a w K Q := by
  unfold Oper.wp execOp
  simp only [ho, resolve, invoke, builtin, Sem.run_bind, Sem.run_pure, Result.andThen_ok, List.map_toArray, List.map_cons, List.map_nil, hx, hy, hrun]
  exact h
theorem wp_copy_run (x y : Operand) (ho : o.op = .call { callee := .builtin .copy, args := #[x, y], argTypes := ts }) (hx : a.eval x = vx) (hy : a.eval y = vy)
    (hrun : (Builtin.copy_ ts o.type #[vx, vy]).run P w = .ok v w') (h : K (a.put o.dst v) w') : o.wp P a w K Q := by
  unfold Oper.wp execOp
  simp only [ho, resolve, invoke, builtin, Sem.run_bind, Sem.run_pure, Result.andThen_ok, List.map_toArray, List.map_cons, List.map_nil, hx, hy, hrun]
  exact h
theorem wp_clear_run (x : Operand) (ho : o.op = .call { callee := .builtin .clear, args := #[x], argTypes := ts }) (hx : a.eval x = vx)
    (hrun : (Builtin.clear_ ts o.type #[vx]).run P w = .ok v w') (h : K (a.put o.dst v) w') : o.wp P a w K Q := by
  unfold Oper.wp execOp
  simp only [ho, resolve, invoke, builtin, Sem.run_bind, Sem.run_pure, Result.andThen_ok, List.map_toArray, List.map_cons, List.map_nil, hx, hrun]
  exact h
theorem wpList_of_wp (hgd : Region.wanted o (yielded ops a.tmps) = true) (h : ∀ K : Act → World → Prop, (∀ a w, wpList P ops Q rest a w → K a w) → o.wp P a w K Q) : wpList P ops Q (o :: rest) a w := by
  refine wpList_step fun K hK => ?_
  rw [if_pos hgd]
  exact h K hK
theorem wpList_append_run' (hgd : Region.wanted o (yielded ops a.tmps) = true) (x y : Operand) (ho : o.op = .call { callee := .builtin .append, args := #[x, y], argTypes := ts }) (hx : a.eval x = vx) (hy : a.eval y = vy)
    (hrun : (Builtin.append_ ts o.type #[vx, vy]).run P w = .ok v w') (h : wpList P ops Q rest (a.put o.dst v) w') : wpList P ops Q (o :: rest) a w :=
  wpList_of_wp hgd fun _ hK => wp_append_run x y ho hx hy hrun (hK _ _ h)
theorem wpList_copy_run' (hgd : Region.wanted o (yielded ops a.tmps) = true) (x y : Operand) (ho : o.op = .call { callee := .builtin .copy, args := #[x, y], argTypes := ts }) (hx : a.eval x = vx) (hy : a.eval y = vy)
    (hrun : (Builtin.copy_ ts o.type #[vx, vy]).run P w = .ok v w') (h : wpList P ops Q rest (a.put o.dst v) w') : wpList P ops Q (o :: rest) a w :=
  wpList_of_wp hgd fun _ hK => wp_copy_run x y ho hx hy hrun (hK _ _ h)
theorem wpList_clear_run' (hgd : Region.wanted o (yielded ops a.tmps) = true) (x : Operand) (ho : o.op = .call { callee := .builtin .clear, args := #[x], argTypes := ts }) (hx : a.eval x = vx)
    (hrun : (Builtin.clear_ ts o.type #[vx]).run P w = .ok v w') (h : wpList P ops Q rest (a.put o.dst v) w') : wpList P ops Q (o :: rest) a w :=
  wpList_of_wp hgd fun _ hK => wp_clear_run x ho hx hrun (hK _ _ h)
end
/-- The cells of what is owned. -/
theorem Own.cells {α : Type} {C : Codec α} {M : Nat → Prop} {w : World} {B g n c : Nat} {e : TypeId} {l : List α} {cur : Array Value} (h : Own C M w B e (.slice (some ⟨g, 0, none⟩) n c) l) (hb : Blk w g e cur) :
    cur.size = c * C.n ∧ Els C (fun b => M b ∨ b = g) w (cur.toList.take (l.length * C.n)) l := by
  obtain ⟨xs, ho, he⟩ := h
  rcases ho.2 with ⟨h, _⟩ | ⟨g', cap, cur', hv, _, hb', _, _, h3, htk⟩
  · cases h
  · injection hv with hv1 hv2 hv3
    injection hv1 with hv1
    injection hv1 with hv1
    subst hv1 hv3
    have : cur' = cur := by have h1 := hb'.symm.trans hb; simpa using h1
    subst this
    rw [htk]
    exact ⟨h3, he.sub fun b _ hor => hor.imp id fun e => by rw [e]; rfl⟩
/-- A row that is known whole is owned. -/
theorem Own.mk_row {α : Type} {C : Codec α} {M : Nat → Prop} {w : World} {B g n c : Nat} {e : TypeId} {l : List α} {cur : Array Value} {xs : List Value} (hb : Blk w g e cur) (hB : B ≤ g) (hsz : cur.size = c * C.n) (hn : l.length = n) (hc : n ≤ c) (hm : c ≤ maxLen)
    (he : Els C (fun b => M b ∨ b = g) w xs l) (hx : cur.toList.take (n * C.n) = xs) : Own C M w B e (.slice (some ⟨g, 0, none⟩) n c) l := by
  subst hn
  refine ⟨xs, ⟨he.1, .inr ⟨g, c, cur, rfl, hB, hb, hc, hm, hsz, hx⟩⟩, he.sub fun b _ hor => hor.imp id fun h => ?_⟩
  simp only [Value.ownBlock, Option.some.injEq] at h
  exact h.symm
theorem splice_take {α : Type} (L D : List α) (a n : Nat) (h : a + D.length ≤ L.length) (hn : n = a + D.length) : (splice L a D).take n = L.take a ++ D := by
  subst hn
  have h1 : (L.take a).length = a := by rw [List.length_take]; omega
  rw [splice, ← List.append_assoc, List.take_append_of_le_length (by rw [List.length_append, h1]; omega), List.take_of_length_le (by rw [List.length_append, h1]; omega)]
/-- A gap made, and filled. -/
theorem splice_two {α : Type} (L X D : List α) (a b n : Nat) (hb : X.length = b) (h : a + b + D.length ≤ L.length) (hn : n = a + b + D.length) : (splice (splice L (a + b) D) a X).take n = L.take a ++ (X ++ D) := by
  subst hb hn
  have hl : (splice L (a + X.length) D).length = L.length := length_splice _ _ _ h
  have h1 : (L.take a).length = a := by rw [List.length_take]; omega
  have e1 : (splice L (a + X.length) D).take a = L.take a := by
    rw [splice, List.take_append_of_le_length (by rw [List.length_take]; omega), List.take_take, Nat.min_eq_left (by omega)]
  have e2 : (splice L (a + X.length) D).drop (a + X.length) = D ++ L.drop (a + X.length + D.length) := by
    have h2 : (L.take (a + X.length)).length = a + X.length := by rw [List.length_take]; omega
    have h3 := List.drop_left (l₁ := L.take (a + X.length)) (l₂ := D ++ L.drop (a + X.length + D.length))
    rw [h2] at h3
    exact h3
  rw [splice, e1, e2, ← List.append_assoc, ← List.append_assoc, List.take_append_of_le_length (by simp only [List.length_append, h1]; omega), List.take_of_length_le (by simp only [List.length_append, h1]; omega), List.append_assoc]
/-- Filled, and the rest behind. -/
theorem splice_two' {α : Type} (L X D : List α) (a b n : Nat) (hb : X.length = b) (h : a + b + D.length ≤ L.length) (hn : n = a + b + D.length) : (splice (splice L a X) (a + b) D).take n = L.take a ++ (X ++ D) := by
  subst hb
  have hl : (splice L a X).length = L.length := length_splice _ _ _ (by omega)
  rw [splice_take _ _ _ _ (by rw [hl]; omega) hn, splice_take _ _ _ _ (by omega) rfl, List.append_assoc]
/-- The model's own entry for slices.overlaps, at two rows of two blocks. -/
theorem run_overlaps_rows {P : Program} {w : World} {k bytes : Nat} {t e : TypeId} (T : SlT P k t e bytes) (tR : TypeId) {ga gb oa ob la ca lb cb : Nat} {ca' cb' : Array Value} (ha : Blk w ga e ca') (hb : Blk w gb e cb') (hne : ga ≠ gb) (hcb : cb'.size ≠ 0) :
    (Extern.SlicesOverlaps.overlaps #[t, t] #[tR] #[.slice (some ⟨ga, oa, none⟩) la ca, .slice (some ⟨gb, ob, none⟩) lb cb]).run P w = .ok (.bool false) w := by
  obtain ⟨i, z, hi, hz, hk, hb', hzs⟩ := T.hi
  unfold Blk at ha hb
  exact Lib.run_overlaps_apart w t tR e T.ht i.size (fun w => by simp [sizeOf, typeInfo, hi]) ⟨ga, oa, none⟩ ⟨gb, ob, none⟩ la ca lb cb hne e e ca'.size cb'.size (by simp [World.shape?, ha]) (by simp [World.shape?, hb]) hcb (by simp [World.frozen?, ha]) (by simp [World.frozen?, ha])
end Go.Proofs.YtfjpedgddgbelaaGreatDoor

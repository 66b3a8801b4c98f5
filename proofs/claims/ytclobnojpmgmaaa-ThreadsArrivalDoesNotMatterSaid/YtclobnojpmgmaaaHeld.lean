/-
  Regions that draw their order, walked by hand: in a round and outside. No program is named here.
-/
import Derived.Test.YtclobnojpmgmaaaIter
import Derived.OrdersHeld
import Derived.OrdersIn
import Derived.RangeFuncCalls
namespace Go.Proofs.Ytclobnojpmgmaaa
open Go.RowKit

section
variable {P : Program} {Q : Exit → Act → World → Prop} {ops : Array Oper} {md : Region.Mode} {S : World → Prop}

theorem oper_inRound {l n : Nat} {o : Oper} {a : Act} {w : World} {next : Act → World → Prop} (hnd : ∀ c, o.op ≠ .defer c) (h : o.wp P a w next Q) :
    o.wpIn (Fence.wide.inRound l) n P a w next Q := by
  refine ⟨fun _ _ => trivial, ?_⟩
  rw [Oper.semAt_eq _ _ _ hnd]
  unfold Oper.wp at h
  revert h
  generalize (execOp a.eval o).run P w = r
  intro h
  have hd : (Fence.wide.inRound l).depth.isSome = true → 1 ≤ n := fun hh => by simp [Fence.wide] at hh
  cases r with
  | ok nx w' =>
    cases nx with
    | value v => exact h
    | skip => exact h
    | defer d => exact h
    | enter f args => exact ⟨hd, CallsIn.inRound l (callsIn_wide.2 h)⟩
    | row row args => exact ⟨hd, fun c cs _ => let ⟨v, w2, r, s⟩ := h c cs; ⟨v, w2, r, stepsIn_wide.2 s⟩⟩
    | _ => exact h.elim
  | halt hh w' => cases hh <;> first | exact h | exact h.elim

/-- No operation of the region is a defer. -/
def noDefer (ops : Array Oper) : Bool := ops.all fun o => match o.op with | .defer _ => false | _ => true
theorem noDefer_spec (h : noDefer ops = true) {j : Nat} {o : Oper} (ho : ops[j]? = some o) : ∀ c, o.op ≠ .defer c := fun c e => by
  unfold noDefer at h
  rw [Array.all_eq_true] at h
  obtain ⟨hj, rfl⟩ := Array.getElem?_eq_some_iff.1 ho
  have := h j hj
  rw [e] at this
  cases this

theorem any_inRound {l n : Nat} (hnd : noDefer ops = true) (hL : ¬ LetsOut Q) : ∀ (fuel : Nat) (listed : Array Bool) (a : Act) (w : World), wpAny P md ops Q fuel listed a w → wpAnyIn (Fence.wide.inRound l) n P md ops Q fuel listed a w
  | 0, _, _, _, h => h
  | fuel + 1, listed, a, w, h => ⟨h.1, fun i hi => by
      have h1 := h.2 i hi
      unfold wpOp at h1
      unfold wpOpIn
      cases ho : ops[i]? with
      | none => rw [ho] at h1; exact any_inRound hnd hL fuel _ _ _ h1
      | some o =>
        rw [ho] at h1
        simp only at h1 ⊢
        split at h1
        · rename_i hw
          rw [if_pos hw]
          rcases h1 with h1 | h1
          · exact oper_inRound (noDefer_spec hnd ho) (Oper.wp_mono (fun a w h2 => any_inRound hnd hL fuel _ a w h2) h1)
          · exact absurd h1.2 hL
        · rename_i hw
          rw [if_neg hw]
          exact ⟨fun _ _ => trivial, any_inRound hnd hL fuel _ _ _ h1⟩⟩

theorem wpIn_region_held_round {l n id : Nat} {a : Act} {w : World} (S : World → Prop) (hm : P.follows .mixedOrders = true) (hnd : noDefer ops = true) (hL : ¬ LetsOut Q)
    (h : wpAnyH P .any ops Q S ops.size (Array.replicate ops.size false) a w.drew) : (Code.region id ops true).wpIn (Fence.wide.inRound l) n P Q a w :=
  wpIn_region_any hm (any_inRound hnd hL _ _ _ _ (wpAny_of_held _ _ _ _ h))

/-- One operation alone may come up. -/
theorem wpAnyH_one {i fuel : Nat} {o : Oper} {listed : Array Bool} {a : Act} {w : World} (hr : Region.ready md ops listed = [i]) (ho : ops[i]? = some o) (hg : o.guard = none)
    (h : ∀ K : Act → World → Prop, (∀ a w, S w → wpAnyH P md ops Q S fuel (listed.setIfInBounds i true) a w → K a w) → o.wp P a w K Q) : wpAnyH P md ops Q S (fuel + 1) listed a w := by
  refine wpAnyH_all hr (by simp) fun j hj => ?_
  obtain rfl : j = i := by simpa using hj
  unfold wpOp
  rw [ho]
  have hw : Region.wanted o (yielded ops a.tmps) = true := by simp [Region.wanted, hg]
  simp only [hw, if_true]
  exact .inl (h _ fun a w h1 h2 => ⟨h1, h2⟩)
/-- A light operation is taken first. -/
theorem wpAnyH_light {i fuel : Nat} {o : Oper} {v : Value} {listed : Array Bool} {a : Act} {w : World} (ho : ops[i]? = some o) (hs : Region.noSelect ops = true) (hf : Region.free md ops listed i = true)
    (hr : (Region.ready md ops listed).contains i = true) (hQ : ∀ c a w, Q (.panic c) (a.put o.dst v) w → Q (.panic c) a w) (hg : o.guard = none) (hy : ∀ w, S w → (execOp a.eval o).run P w = .ok (.value v) w) (hS : S w)
    (h : wpAnyH P md ops Q S fuel (listed.setIfInBounds i true) (a.put o.dst v) w) : wpAnyH P md ops Q S (fuel + 1) listed a w :=
  wpAnyH_take ho hs hf hr hQ (.inl ⟨by simp [Region.wanted, hg], hy⟩) hS h
end

section
variable {P : Program} {α : Type} (C : Codec α) {w : World} {M : Nat → Prop} {B : Nat} {l l' : List α} {o : Oper} {a : Act} {K : Act → World → Prop} {Q : Exit → Act → World → Prop} {t e : TypeId} {bytes : Nat}
/-- append, as one operation. -/
theorem wp_append_Own (T : SlT P C.n t e bytes) (s x : Operand)
    (ho : o.op = .call { callee := .builtin .append, args := #[s, x], argTypes := #[t, t] })
    {v : Value} (hs : a.eval s = v) (hown : Own C M w B e v l)
    {x' : Value} (hx : a.eval x = x') (hr : SlR C (fun b => M b ∨ v.ownBlock = some b) w x' l')
    (h63 : l.length + l'.length ≤ maxLen) (hbytes : (l.length + l'.length) * bytes ≤ 140737488355328) (hbase : B ≤ w.heap.size)
    (h : ∀ A' c' L w', Hid (L = l ++ l') → Own C M w' B e (.slice A' L.length c') L → Below B w w' → w.grownBy w' v.ownBlock → ((Value.slice A' L.length c').ownBlock = v.ownBlock ∨ (Value.slice A' L.length c').ownBlock = some w.heap.size) →
      K (a.put o.dst (.slice A' L.length c')) w') : o.wp P a w K Q := by
  obtain ⟨i, z, hi, hz, h1, h2, h3⟩ := T.hi
  obtain ⟨A, n, c, xs, rfl, hn, hc, hm, he, ha⟩ := hr
  obtain ⟨v', w', hrun, h5, h6, h7⟩ := run_append_Own (P := P) C t o.type e i z bytes T.ht hi hz h1 h2 h3 hown A n c xs he hn
    (fun h0 => by obtain ⟨b, off, rfl, _, _, hcell⟩ := ha h0; exact ⟨b, off, rfl, hcell⟩) h63 hbytes hbase
  obtain ⟨A', c', rfl, _⟩ := h5.shape
  unfold Oper.wp execOp
  simp only [ho, resolve, invoke, builtin, Sem.run_bind, Sem.run_pure, Result.andThen_ok, List.map_toArray, List.map_cons, List.map_nil, hs, hx, hrun]
  exact h A' c' _ w' (Lib.hid rfl) h5 ((Below.refl _ _).grown h6 hbase fun k hk => hown.base k hk) h6 h7
/-- append of one element that has been laid in a block of its own. -/
theorem wp_push_Own (T : SlT P C.n t e bytes) (s x : Operand)
    (ho : o.op = .call { callee := .builtin .append, args := #[s, x], argTypes := #[t, t] })
    {v : Value} (hs : a.eval s = v) (hown : Own C M w B e v l) {cs : List Value} {y : α} (hx : a.eval x = .slice (some ⟨w.heap.size, 0, none⟩) 1 1)
    (hr : C.rd (fun b => M b ∨ v.ownBlock = some b) w cs y) (hM : ∀ b, M b → b < w.heap.size)
    (h63 : l.length + 1 ≤ maxLen) (hbytes : (l.length + 1) * bytes ≤ 140737488355328) (hbase : B ≤ w.heap.size)
    (h : ∀ A' c' L w', Hid (L = l ++ [y]) → Own C M w' B e (.slice A' L.length c') L → Below B w w' → w.grownBy w' v.ownBlock → ((Value.slice A' L.length c').ownBlock = v.ownBlock ∨ (Value.slice A' L.length c').ownBlock = some (w.heap.size + 1)) →
      K (a.put o.dst (.slice A' L.length c')) w') : o.wp P a (w.alloc (.cells cs.toArray e)) K Q := by
  have hal : Below w.heap.size w (w.alloc (.cells cs.toArray e)) := (Below.refl _ _).alloc (Nat.le_refl _) _
  refine wp_append_Own C T s x ho hs (hown.ext hal) hx (SlR.built e hr fun b hb => hb.elim (hM b) (hown.lt b)) h63 hbytes (by simp; omega) fun A' c' L w' hL h1 h2 h3 h4 => ?_
  refine h A' c' L w' hL h1 ((hal.mono hbase).trans h2) ⟨h3.os, h3.tape, h3.output, Nat.le_trans hal.size h3.size, fun k hk hne => (h3.block k (by simp; omega) hne).trans (hal.block k hk)⟩ ?_
  rw [World.size_alloc] at h4
  exact h4
end
end Go.Proofs.Ytclobnojpmgmaaa

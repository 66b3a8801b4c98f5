/-
  Two rows that grow side by side, under a range over a function.
-/
import Derived.Test.YtclobnojpmgmaaaThY
namespace Go.Proofs.Ytclobnojpmgmaaa
open Go.RowKit
set_option linter.unusedVariables false
section
variable {P : Program} {ops : Array Oper} {md : Region.Mode} {Q : Exit → Act → World → Prop} {S : World → Prop} {D : Nat → Bool}
theorem anyD_two {i j fuel : Nat} {oi oj : Oper} {listed : Array Bool} {a : Act} {w : World} (hr : Region.ready md ops listed = [i, j]) (hoi : ops[i]? = some oi) (hgi : oi.guard = none) (hoj : ops[j]? = some oj) (hgj : oj.guard = none)
    (hi : ∀ K : Act → World → Prop, (∀ a w, (D i = false → S w) → anyD P md ops Q S D fuel (listed.setIfInBounds i true) a w → K a w) → oi.wp P a w K Q)
    (hj : ∀ K : Act → World → Prop, (∀ a w, (D j = false → S w) → anyD P md ops Q S D fuel (listed.setIfInBounds j true) a w → K a w) → oj.wp P a w K Q) : anyD P md ops Q S D (fuel + 1) listed a w := by
  refine ⟨fun h0 => absurd (hr ▸ h0) (by simp), fun k hk => ?_⟩
  rw [hr] at hk
  have hk2 : k = i ∨ k = j := by simpa using hk
  rcases hk2 with rfl | rfl
  · unfold wpOp
    rw [hoi]
    have hw : Region.wanted oi (yielded ops a.tmps) = true := by simp [Region.wanted, hgi]
    simp only [hw, if_true]
    exact .inl (hi _ fun a w h1 h2 => ⟨h1, h2⟩)
  · unfold wpOp
    rw [hoj]
    have hw : Region.wanted oj (yielded ops a.tmps) = true := by simp [Region.wanted, hgj]
    simp only [hw, if_true]
    exact .inl (hj _ fun a w h1 h2 => ⟨h1, h2⟩)
theorem anyD_mono {D' : Nat → Bool} (hD : ∀ i, D' i = true → D i = true) : ∀ (fuel : Nat) (listed : Array Bool) (a : Act) (w : World), anyD P md ops Q S D' fuel listed a w → anyD P md ops Q S D fuel listed a w
  | 0, _, _, _, h => h
  | fuel + 1, _, _, _, h => ⟨h.1, fun i hi => wpOp_mono (fun a' w' h' => ⟨fun hf => h'.1 (by cases hh : D' i with | false => rfl | true => rw [hD i hh] at hf; cases hf), anyD_mono hD fuel _ a' w' h'.2⟩) (h.2 i hi)⟩
end
/-- where the places lie, and what may be turned -/
structure OP where
  S : Nat → Prop
  W : World
  w : World
  r2 : Nat
  r3 : Nat
  r4 : Nat
  B : Nat
/-- two rows: u1, u2 in the cells, v1, v2 what they are now -/
structure OS (X : OP) (u1 u2 v1 v2 : Value) (L1 L2 : List Int) (V : World) : Prop where
  q1 : Blk V X.r2 23 #[u1]
  q2 : Blk V X.r3 23 #[u2]
  q4 : Blk V X.r4 25 #[.int .i64 0, .int .i64 0]
  o1 : Own intC M0 V (X.B + 1) 3 v1 L1
  o2 : Own intC M0 V (X.B + 1) 3 v2 L2
  p1 : ∀ b, v1.ownBlock = some b → X.S b ∨ X.W.heap.size ≤ b
  p2 : ∀ b, v2.ownBlock = some b → X.S b ∨ X.W.heap.size ≤ b
  pa : ∀ b, v1.ownBlock = some b → v2.ownBlock ≠ some b
  os : V.os = X.W.os
  tape : V.tape = X.W.tape
  output : V.output = X.W.output
  size : X.W.heap.size ≤ V.heap.size
  same : ∀ b, b < X.W.heap.size → ¬ X.S b → V.heap[b]? = X.W.heap[b]?
  bw : Below X.w.heap.size X.w V
  rr : X.w.heap.size ≤ X.r2 ∧ X.r2 < X.r3 ∧ X.r3 < X.r4 ∧ X.r4 < X.B
  s2 : X.S X.r2
  s3 : X.S X.r3
section
variable {X : OP} {u1 u2 v1 v2 v' : Value} {L1 L2 L' : List Int} {V V' : World}
theorem OS.S (h : OS X u1 u2 v1 v2 L1 L2 V) : V.cell? ⟨X.r2, 0, none⟩ = some u1 ∧ V.cell? ⟨X.r3, 0, none⟩ = some u2 := ⟨h.q1.one.1, h.q2.one.1⟩
theorem OS.Z (h : OS X u1 u2 v1 v2 L1 L2 V) : V.cell? ⟨X.r2, 0, none⟩ = some u1 ∧ V.frozen? ⟨X.r2, 0, none⟩ = false ∧ V.cell? ⟨X.r3, 0, none⟩ = some u2 ∧ V.frozen? ⟨X.r3, 0, none⟩ = false := ⟨h.q1.one.1, h.q1.one.2.1, h.q2.one.1, h.q2.one.2.1⟩
theorem OS.ext (h : OS X u1 u2 v1 v2 L1 L2 V) (hb : Below V.heap.size V V') : OS X u1 u2 v1 v2 L1 L2 V' :=
  { h with
    q1 := h.q1.ext hb, q2 := h.q2.ext hb, q4 := h.q4.ext hb, o1 := h.o1.ext hb, o2 := h.o2.ext hb, os := hb.os.trans h.os, tape := hb.tape.trans h.tape, output := hb.output.trans h.output, size := Nat.le_trans h.size hb.size, same := fun b hlt hS => (hb.block b (Nat.lt_of_lt_of_le hlt h.size)).trans (h.same b hlt hS)
    bw := h.bw.trans (hb.mono h.bw.size) }
theorem OS.app1 (h : OS X u1 u2 v1 v2 L1 L2 V) (ho : Own intC M0 V' (X.B + 1) 3 v' L') (hg : V.grownBy V' v1.ownBlock) (hor : v'.ownBlock = v1.ownBlock ∨ v'.ownBlock = some V.heap.size) : OS X u1 u2 v' v2 L' L2 V' := by
  have hbase : ∀ b, v1.ownBlock = some b → X.B + 1 ≤ b := h.o1.base
  have hne : ∀ r, r ≤ X.B → some r ≠ v1.ownBlock := fun r hr e => by have := hbase r e.symm; omega
  obtain ⟨r1, r2, r3, r4⟩ := h.rr
  exact { h with
    q1 := h.q1.grown hg (hne _ (by omega))
    q2 := h.q2.grown hg (hne _ (by omega))
    q4 := h.q4.grown hg (hne _ (by omega))
    o1 := ho
    o2 := h.o2.flatI fun b hb => hg.block b (h.o2.lt b hb) fun e => h.pa b e.symm hb
    p1 := fun b hb => by
      rcases hor with e | e
      · exact h.p1 b (e ▸ hb)
      · rw [e] at hb; injection hb with hb; subst hb; exact .inr h.size
    pa := fun b hb hb2 => by
      rcases hor with e | e
      · exact h.pa b (e ▸ hb) hb2
      · rw [e] at hb; injection hb with hb; subst hb; have := h.o2.lt _ hb2; omega
    os := hg.os.trans h.os, tape := hg.tape.trans h.tape, output := hg.output.trans h.output, size := Nat.le_trans h.size hg.size
    same := fun b hlt hS => (hg.block b (Nat.lt_of_lt_of_le hlt h.size) fun e => by
      rcases h.p1 b e.symm with h1 | h1
      · exact hS h1
      · omega).trans (h.same b hlt hS)
    bw := h.bw.grown hg h.bw.size fun b hb => by have := hbase b hb; omega }
theorem OS.app2 (h : OS X u1 u2 v1 v2 L1 L2 V) (ho : Own intC M0 V' (X.B + 1) 3 v' L') (hg : V.grownBy V' v2.ownBlock) (hor : v'.ownBlock = v2.ownBlock ∨ v'.ownBlock = some V.heap.size) : OS X u1 u2 v1 v' L1 L' V' := by
  have hbase : ∀ b, v2.ownBlock = some b → X.B + 1 ≤ b := h.o2.base
  have hne : ∀ r, r ≤ X.B → some r ≠ v2.ownBlock := fun r hr e => by have := hbase r e.symm; omega
  obtain ⟨r1, r2, r3, r4⟩ := h.rr
  exact { h with
    q1 := h.q1.grown hg (hne _ (by omega))
    q2 := h.q2.grown hg (hne _ (by omega))
    q4 := h.q4.grown hg (hne _ (by omega))
    o2 := ho
    o1 := h.o1.flatI fun b hb => hg.block b (h.o1.lt b hb) fun e => h.pa b hb e.symm
    p2 := fun b hb => by
      rcases hor with e | e
      · exact h.p2 b (e ▸ hb)
      · rw [e] at hb; injection hb with hb; subst hb; exact .inr h.size
    pa := fun b hb hb2 => by
      rcases hor with e | e
      · exact h.pa b hb (e ▸ hb2)
      · rw [e] at hb2; injection hb2 with hb2; subst hb2; have := h.o1.lt _ hb; omega
    os := hg.os.trans h.os, tape := hg.tape.trans h.tape, output := hg.output.trans h.output, size := Nat.le_trans h.size hg.size
    same := fun b hlt hS => (hg.block b (Nat.lt_of_lt_of_le hlt h.size) fun e => by
      rcases h.p2 b e.symm with h1 | h1
      · exact hS h1
      · omega).trans (h.same b hlt hS)
    bw := h.bw.grown hg h.bw.size fun b hb => by have := hbase b hb; omega }
theorem OS.set1 (h : OS X u1 u2 v1 v2 L1 L2 V) : OS X v1 u2 v1 v2 L1 L2 (V.setCell ⟨X.r2, 0, none⟩ v1) := by
  obtain ⟨r1, r2, r3, r4⟩ := h.rr
  exact { h with
    q1 := by have := h.q1.set_ 0 v1; simpa using this
    q2 := h.q2.far (by show X.r3 ≠ X.r2; omega) _
    q4 := h.q4.far (by show X.r4 ≠ X.r2; omega) _
    o1 := h.o1.flatI fun b hb => Below.heap_setCell _ _ _ _ (by have := h.o1.base b hb; show b ≠ X.r2; omega)
    o2 := h.o2.flatI fun b hb => Below.heap_setCell _ _ _ _ (by have := h.o2.base b hb; show b ≠ X.r2; omega)
    os := h.os, tape := h.tape, output := h.output, size := by simpa using h.size
    same := fun b hlt hS => (Below.heap_setCell _ _ _ _ (fun e => hS (by rw [e]; exact h.s2))).trans (h.same b hlt hS)
    bw := Below.setCell h.bw (by show X.w.heap.size ≤ X.r2; omega) _ }
theorem OS.set2 (h : OS X u1 u2 v1 v2 L1 L2 V) : OS X u1 v2 v1 v2 L1 L2 (V.setCell ⟨X.r3, 0, none⟩ v2) := by
  obtain ⟨r1, r2, r3, r4⟩ := h.rr
  exact { h with
    q2 := by have := h.q2.set_ 0 v2; simpa using this
    q1 := h.q1.far (by show X.r2 ≠ X.r3; omega) _
    q4 := h.q4.far (by show X.r4 ≠ X.r3; omega) _
    o1 := h.o1.flatI fun b hb => Below.heap_setCell _ _ _ _ (by have := h.o1.base b hb; show b ≠ X.r3; omega)
    o2 := h.o2.flatI fun b hb => Below.heap_setCell _ _ _ _ (by have := h.o2.base b hb; show b ≠ X.r3; omega)
    os := h.os, tape := h.tape, output := h.output, size := by simpa using h.size
    same := fun b hlt hS => (Below.heap_setCell _ _ _ _ (fun e => hS (by rw [e]; exact h.s3))).trans (h.same b hlt hS)
    bw := Below.setCell h.bw (by show X.w.heap.size ≤ X.r3; omega) _ }
/-- what is turned behind a round -/
def OP.S' (X : OP) (V : World) (b : Nat) : Prop := X.S b ∨ (X.W.heap.size ≤ b ∧ b < V.heap.size)
theorem OS.chg (h : OS X u1 u2 v1 v2 L1 L2 V) (hlt : ∀ b, X.S b → b < X.W.heap.size) : Chg X.S (X.S' V) X.W V :=
  ⟨h.os, h.tape, h.output, h.size, h.same, fun b hb => hb.elim (fun h1 => ⟨Nat.lt_of_lt_of_le (hlt b h1) h.size, .inl h1⟩) (fun h1 => ⟨h1.2, .inr h1.1⟩)⟩
theorem OS.p1' (h : OS X u1 u2 v1 v2 L1 L2 V) (b : Nat) (hb : v1.ownBlock = some b) : X.S' V b := (h.p1 b hb).imp id fun h1 => ⟨h1, h.o1.lt b hb⟩
theorem OS.p2' (h : OS X u1 u2 v1 v2 L1 L2 V) (b : Nat) (hb : v2.ownBlock = some b) : X.S' V b := (h.p2 b hb).imp id fun h1 => ⟨h1, h.o2.lt b hb⟩
end
end Go.Proofs.Ytclobnojpmgmaaa

/-
  Contracts and plain facts, one after another: An iterator that turns blocks of its own between two rounds: its contract, the law of the loop over it. No program is named here; slices.Collect of texts, over an iterator; From the form's own reading of an argument to a codec's: for a law that only reads its arguments.
-/
import Derived.Test.YtiohhajkegpebaaGreatDoorR2
import Derived.Test.YtiohhajkegpebaaGreatDoorR3
import Derived.Test.YtiohhajkegpebaaGreatDoorR5
import Derived.Test.YtiohhajkegpebaaGreatDoorR7
import Derived.Test.YtiohhajkegpebaaGreatDoorBase
import Derived.Test.YtiohhajkegpebaaGreatDoorRows
import Derived.ProofKit
import Derived.JoinedCond
import Derived.OpenShut
namespace Go.Proofs.YtiohhajkegpebaaGreatDoor
open Go.RowKit
/-- Between two rounds: what lay below n, and the blocks of S, lie as they lay, but for the iterator's own. -/
structure KeptX (X : Nat → Prop) (n : Nat) (S : Nat → Prop) (w w' : World) : Prop where
  os : w'.os = w.os
  tape : w'.tape = w.tape
  output : w'.output = w.output
  size : w.heap.size ≤ w'.heap.size
  same : ∀ b, b < w.heap.size → ¬ X b → (b < n ∨ S b) → w'.heap[b]? = w.heap[b]?
theorem KeptX.refl (X : Nat → Prop) (n : Nat) (S : Nat → Prop) (w : World) : KeptX X n S w w := ⟨rfl, rfl, rfl, Nat.le_refl _, fun _ _ _ _ => rfl⟩
theorem KeptX.trans {X : Nat → Prop} {n : Nat} {S : Nat → Prop} {a b c : World} (h : KeptX X n S a b) (k : KeptX X n S b c) : KeptX X n S a c :=
  ⟨k.os.trans h.os, k.tape.trans h.tape, k.output.trans h.output, Nat.le_trans h.size k.size, fun i hi hx hs => (k.same i (by have := h.size; omega) hx hs).trans (h.same i hi hx hs)⟩
theorem KeptX.of_below {X : Nat → Prop} {n : Nat} {S : Nat → Prop} {w w' : World} (h : Below w.heap.size w w') : KeptX X n S w w' := ⟨h.os, h.tape, h.output, h.size, fun b hb _ _ => h.block b hb⟩
theorem KeptX.of_kept {X : Nat → Prop} {n : Nat} {S : Nat → Prop} {w w' : World} (h : Kept n S w w') : KeptX X n S w w' := ⟨h.os, h.tape, h.output, h.size, fun b hb _ ho => h.same b hb ho⟩
theorem KeptX.putObj {X : Nat → Prop} {n : Nat} {S : Nat → Prop} {w : World} {r : Nat} {o : Obj} (hn : n ≤ r) (hS : ¬ S r) : KeptX X n S w (w.putObj r o) :=
  ⟨rfl, rfl, rfl, by simp, fun b _ _ hb => World.putObj_heap_other (fun e => by subst e; rcases hb with h | h; omega; exact hS h)⟩
theorem KeptX.setCell {X : Nat → Prop} {n : Nat} {S : Nat → Prop} {w : World} {p : Addr} (hx : X p.block) (v : Value) : KeptX X n S w (w.setCell p v) :=
  ⟨rfl, rfl, rfl, by simp, fun b _ hb _ => Below.heap_setCell _ _ _ _ (fun e => hb (e ▸ hx))⟩
/-- '.func gf' with lb behind it yields xs, in order; X: what it turns itself. -/
def IterX {α : Type} (P : Program) (gf : Nat) (lb : Array Value) (encs : α → Array Value) (xs : List α) (X : Nat → Prop) (FP : (Nat → Prop) → World → Prop) : Prop :=
  ∀ (l : Nat) (J Jx : Nat → (Nat → Prop) → World → Prop) (S : Nat → Prop) (W : World), FP S W → (∀ b, S b → b < W.heap.size) →
    (∀ k S W1 W2, J k S W1 → KeptX X W.heap.size S W1 W2 → J k S W2) → (∀ k S W1 W2, Jx k S W1 → KeptX X W.heap.size S W1 W2 → Jx k S W2) →
    (∀ k (h : k < xs.length) S W1, J k S W1 → W.heap.size ≤ W1.heap.size → YieldAt Fence.wide 0 P l (encs xs[k]) W1 fun e W' => ∃ S', Chg S S' W1 W' ∧
      ((e = .returned (.bool true) ∧ J (k + 1) S' W') ∨ (e = .returned (.bool false) ∧ Jx (k + 1) S' W'))) →
    J 0 S W →
    CallsIn Fence.wide 0 P gf (#[.func (.yield l) #[] #[]] ++ lb) W fun e W' => (∃ v, e = .returned v) ∧ ((∃ S', J xs.length S' W') ∨ ∃ k S', Jx k S' W')
theorem wp_rangeFunc_iterX {P : Program} {α : Type} {g : Operand} {ps : Array Tmp} {assign body : Code} {Q : Exit → Act → World → Prop} {a : Act} {w : World}
    {gf : Nat} {lb : Array Value} {encs : α → Array Value} {xs : List α} {FP : (Nat → Prop) → World → Prop} {X : Nat → Prop} (hX : ∀ b, X b → b < w.heap.size)
    (hit : IterX P gf lb encs xs X FP) (hg : a.eval g = .func (.func gf) #[] lb) (eg : ∀ args w, (callFunc gf args).run P w = .ok (.enter gf args) w)
    (hps : ∀ x, (encs x).size = ps.size)
    (I : Nat → (Nat → Prop) → World → Prop) (Ix : Code → Nat → (Nat → Prop) → World → Prop) (S : Nat → Prop)
    (hS : ∀ b, S b → b < w.heap.size)
    (hFP : ∀ S' W, (∀ b, S' b → S b ∨ w.heap.size ≤ b) → Below w.heap.size w W → FP S' W)
    (hI : ∀ k S W W', I k S W → KeptX X w.heap.size S W W' → I k S W') (hIx : ∀ c k S W W', Ix c k S W → KeptX X w.heap.size S W W' → Ix c k S W')
    (h0 : I 0 S w) (a₁ : α → Act)
    (hassign : ∀ (l : Nat) (x : α) (W : World) (K : Act → World → Prop), K (a₁ x) W →
      assign.wpIn (Fence.wide.inRound l) 0 P (Exit.then K (fun _ _ _ => False)) { tmps := (ps.zip (encs x)).foldl (fun t (p, v) => t.setIfInBounds p v) a.tmps, defers := [] } W)
    (hbody : ∀ (l k : Nat) (h : k < xs.length) (S : Nat → Prop) (W : World), I k S W → (∀ b, S b → b < W.heap.size) → w.heap.size ≤ W.heap.size →
      body.wpIn (Fence.wide.inRound l) 0 P (itPost I Ix k S W) (a₁ xs[k]) W)
    (hdone : ∀ (D : Nat) (S : Nat → Prop) (W : World), w.heap.size ≤ D → ¬ S D → I xs.length S W → W.heap[D]? = some (.deferred (some [])) → Q .normal { a with defers := { target := .collected D, args := #[] } :: a.defers } W)
    (hstop : ∀ (D : Nat) (c : Code) (k : Nat) (S : Nat → Prop) (W : World), w.heap.size ≤ D → ¬ S D → Ix c k S W → W.heap[D]? = some (.deferred (some [])) → c.wp P Q { a with defers := { target := .collected D, args := #[] } :: a.defers } W) :
    (Code.rangeFunc g ps assign body).wp P Q a w := by
  refine (wpIn_wide (n := 0)).1 (wpIn_rangeFunc ?_)
  intro fn hfn
  obtain ⟨rec, hrec⟩ : ∃ rec : LoopState → Option Code → Loop, rec = fun st pe => { state := st, pending := pe, fn, tmps := a.tmps, params := ps, assign, body, defers := w.heap.size } := ⟨_, rfl⟩
  obtain ⟨W1, hW1⟩ : ∃ W1, (w.alloc (.deferred (some []))).alloc (.loop (rec .ready none)) = W1 := ⟨_, rfl⟩
  have hs1 : W1.heap.size = w.heap.size + 2 := by rw [← hW1]; simp
  have hL1 : W1.heap[w.heap.size + 1]? = some (.loop (rec .ready none)) := by
    rw [← hW1]; have := World.alloc_heap_new (w.alloc (.deferred (some []))) (.loop (rec .ready none)); rwa [World.size_alloc] at this
  have hK1 : W1.heap[w.heap.size]? = some (.deferred (some [])) := by
    rw [← hW1]; exact (Below.heap_alloc _ _ _ (by simp)).trans (World.alloc_heap_new w _)
  have hb1 : Below w.heap.size w W1 := by
    rw [← hW1]; exact ((Below.refl _ w).alloc (Nat.le_refl _) _).alloc (by simp) _
  -- the iterator's invariant: the caller's, and the two blocks of book-keeping
  let bk (T S : Nat → Prop) : Prop := (∀ b, T b ↔ S b ∨ b = w.heap.size ∨ b = w.heap.size + 1) ∧ ¬ S w.heap.size ∧ ¬ S (w.heap.size + 1)
  let J : Nat → (Nat → Prop) → World → Prop := fun k T W => ∃ S, bk T S ∧ I k S W ∧ (∀ b, S b → b < W.heap.size) ∧ W.heap[w.heap.size + 1]? = some (.loop (rec .ready none)) ∧ W.heap[w.heap.size]? = some (.deferred (some []))
  let Jx : Nat → (Nat → Prop) → World → Prop := fun k T W => ∃ S c, bk T S ∧ Ix c k S W ∧ W.heap[w.heap.size + 1]? = some (.loop (rec .done (some c))) ∧ W.heap[w.heap.size]? = some (.deferred (some []))
  have keptS : ∀ {T S : Nat → Prop} {A B : World}, bk T S → KeptX X W1.heap.size T A B → KeptX X w.heap.size S A B := fun hb hk =>
    ⟨hk.os, hk.tape, hk.output, hk.size, fun b hlt hx hor => hk.same b hlt hx (hor.elim (fun h => .inl (by omega)) (fun h => .inr ((hb.1 b).2 (.inl h))))⟩
  refine ⟨w.heap.size + 1, [{ target := .collected w.heap.size, args := #[] }], W1, { target := .fn (.func gf) lb, args := #[.func (.yield (w.heap.size + 1)) #[] #[]] }, W1, gf,
    #[.func (.yield (w.heap.size + 1)) #[] #[]] ++ lb, W1, ?_, ?_, ?_, ?_, fun h => by simp [Fence.wide] at h, ?_⟩
  · rw [← hW1, hrec]; exact run_enterLoop_outer _ _ _ _ _
  · simp only [resolve, hg]
    simp [go_sem]
  · intro f' _; trivial
  · simp [invoke, go_sem, eg]
  · refine (hit (w.heap.size + 1) J Jx (fun b => S b ∨ b = w.heap.size ∨ b = w.heap.size + 1) W1
      (hFP _ _ (fun b hb => hb.elim .inl fun h => .inr (by omega)) hb1) (fun b hb => by rcases hb with h | h | h; have := hS b h; omega; omega; omega) ?_ ?_ ?_ ?_).mono ?_
    · rintro k T A B ⟨S', hbk, hi, hlt, hl, hk⟩ hkept
      exact ⟨S', hbk, hI _ _ _ _ hi (keptS hbk hkept), fun b hb => Nat.lt_of_lt_of_le (hlt b hb) hkept.size,
        (hkept.same _ (Array.getElem?_eq_some_iff.1 hl).1 (fun h => by have := hX _ h; omega) (.inl (by omega))).trans hl, (hkept.same _ (Array.getElem?_eq_some_iff.1 hk).1 (fun h => by have := hX _ h; omega) (.inl (by omega))).trans hk⟩
    · rintro k T A B ⟨S', c, hbk, hi, hl, hk⟩ hkept
      exact ⟨S', c, hbk, hIx _ _ _ _ _ hi (keptS hbk hkept),
        (hkept.same _ (Array.getElem?_eq_some_iff.1 hl).1 (fun h => by have := hX _ h; omega) (.inl (by omega))).trans hl, (hkept.same _ (Array.getElem?_eq_some_iff.1 hk).1 (fun h => by have := hX _ h; omega) (.inl (by omega))).trans hk⟩
    · -- one round
      rintro k hk T W ⟨S', hbk, hi, hlt, hl, hd⟩ hsz
      have hll : w.heap.size + 1 < W.heap.size := (Array.getElem?_eq_some_iff.1 hl).1
      have hy := run_yield (P := P) (args := encs xs[k]) hl (by rw [hrec]; exact hps _)
      rw [hrec] at hy
      refine ⟨fn, _, assign, body, hy, roundIn_of_wpIn hfn (hassign _ xs[k] W _ ⟨_, run_beginRound hl (by rw [hrec]), ?_⟩)⟩
      obtain ⟨W2, hW2⟩ : ∃ W2, W.putObj (w.heap.size + 1) (.loop { rec .ready none with state := .busy }) = W2 := ⟨_, rfl⟩
      have hl2 : W2.heap[w.heap.size + 1]? = some (.loop { rec .ready none with state := .busy }) := by rw [← hW2]; exact World.putObj_heap_same hll
      have hd2 : W2.heap[w.heap.size]? = some (.deferred (some [])) := by rw [← hW2]; exact (World.putObj_heap_other (by omega)).trans hd
      have hs2 : W2.heap.size = W.heap.size := by rw [← hW2]; simp
      have hi2 : I k S' W2 := by rw [← hW2]; exact hI _ _ _ _ hi (KeptX.putObj (by omega) hbk.2.2)
      have hsame2 : ∀ b, b ≠ w.heap.size + 1 → W2.heap[b]? = W.heap[b]? := fun b hb => by rw [← hW2]; exact World.putObj_heap_other hb
      have ho2 : W2.os = W.os ∧ W2.tape = W.tape ∧ W2.output = W.output := by rw [← hW2]; exact ⟨rfl, rfl, rfl⟩
      rw [hW2]
      refine wpIn_mono (hbody _ k hk S' W2 hi2 (fun b hb => by rw [hs2]; exact hlt b hb) (by omega)) ?_
      have fin : ∀ (jump : Option Code) (S'' : Nat → Prop) (W3 : World), Chg S' S'' W2 W3 →
          (Instr.endRound (w.heap.size + 1) jump).run P W3 = .ok (.bool jump.isNone) (W3.putObj (w.heap.size + 1) (.loop (rec (if jump.isNone then .ready else .done) jump))) ∧
          Chg T (fun b => S'' b ∨ b = w.heap.size ∨ b = w.heap.size + 1) W (W3.putObj (w.heap.size + 1) (.loop (rec (if jump.isNone then .ready else .done) jump))) ∧
          bk (fun b => S'' b ∨ b = w.heap.size ∨ b = w.heap.size + 1) S'' ∧
          KeptX X w.heap.size S'' W3 (W3.putObj (w.heap.size + 1) (.loop (rec (if jump.isNone then .ready else .done) jump))) ∧
          (W3.putObj (w.heap.size + 1) (.loop (rec (if jump.isNone then .ready else .done) jump))).heap[w.heap.size + 1]? = some (.loop (rec (if jump.isNone then .ready else .done) jump)) ∧
          (W3.putObj (w.heap.size + 1) (.loop (rec (if jump.isNone then .ready else .done) jump))).heap[w.heap.size]? = some (.deferred (some [])) := fun jump S'' W3 hc => by
        have hl3 : W3.heap[w.heap.size + 1]? = some (.loop { rec .ready none with state := .busy }) := (hc.same _ (by omega) hbk.2.2).trans hl2
        have hd3 : W3.heap[w.heap.size]? = some (.deferred (some [])) := (hc.same _ (by omega) hbk.2.1).trans hd2
        have hsz3 := hc.size
        have hn1 : ¬ S'' w.heap.size := fun h => (hc.own _ h).2.elim hbk.2.1 (by omega)
        have hn2 : ¬ S'' (w.heap.size + 1) := fun h => (hc.own _ h).2.elim hbk.2.2 (by omega)
        have hr := run_endRound (P := P) jump hl3
        rw [hrec] at hr ⊢
        refine ⟨hr, ⟨hc.os.trans ho2.1, hc.tape.trans ho2.2.1, hc.output.trans ho2.2.2, by rw [World.putObj_size]; omega, fun b hb hT => ?_, fun b hb => ?_⟩, ⟨fun b => Iff.rfl, hn1, hn2⟩, KeptX.putObj (by omega) hn2, World.putObj_heap_same (by omega), (World.putObj_heap_other (by omega)).trans hd3⟩
        · have hb1 : b ≠ w.heap.size + 1 := fun e => hT ((hbk.1 b).2 (.inr (.inr e)))
          exact (World.putObj_heap_other hb1).trans ((hc.same b (by omega) (fun h => hT ((hbk.1 b).2 (.inl h)))).trans (hsame2 b hb1))
        · rw [World.putObj_size]
          rcases hb with h | h | h
          · obtain ⟨h1, h2⟩ := hc.own b h
            exact ⟨h1, h2.elim (fun h => .inl ((hbk.1 b).2 (.inl h))) (fun h => .inr (by omega))⟩
          · exact ⟨by omega, .inl ((hbk.1 b).2 (.inr (.inl h)))⟩
          · exact ⟨by omega, .inl ((hbk.1 b).2 (.inr (.inr h)))⟩
      rintro e a3 W3 hp
      cases e with
      | normal =>
        obtain ⟨S'', hc, hi3⟩ := hp
        obtain ⟨hr, hc4, hbk4, hk4, hl4, hd4⟩ := fin none S'' W3 hc
        exact ⟨_, _, hr, _, hc4, .inl ⟨rfl, S'', hbk4, hI _ _ _ _ hi3 hk4, fun b hb => by rw [World.putObj_size]; exact (hc.own b hb).1, hl4, hd4⟩⟩
      | ret =>
        obtain ⟨S'', hc, hi3⟩ := hp
        obtain ⟨hr, hc4, hbk4, hk4, hl4, hd4⟩ := fin (some .ret) S'' W3 hc
        exact ⟨_, _, hr, _, hc4, .inr ⟨rfl, S'', .ret, hbk4, hIx _ _ _ _ _ hi3 hk4, hl4, hd4⟩⟩
      | exit id =>
        obtain ⟨S'', hc, hi3⟩ := hp
        obtain ⟨hr, hc4, hbk4, hk4, hl4, hd4⟩ := fin (some (.exit id)) S'' W3 hc
        exact ⟨_, _, hr, _, hc4, .inr ⟨rfl, S'', .exit id, hbk4, hIx _ _ _ _ _ hi3 hk4, hl4, hd4⟩⟩
      | goto t => exact hp.elim
      | panic ch => exact hp.elim
      | outgrown => exact hp.elim
    · exact ⟨S, ⟨fun b => Iff.rfl, fun h => by have := hS _ h; omega, fun h => by have := hS _ h; omega⟩, hI _ _ _ _ h0 (KeptX.of_below hb1), fun b hb => by have := hS b hb; omega, hL1, hK1⟩
    · -- behind the iterator
      rintro e W2 ⟨⟨v, rfl⟩, (⟨T, S', hbk, hi, _, hl, hd⟩ | ⟨k, T, S', c, hbk, hi, hl, hd⟩)⟩
      · refine ⟨none, _, by have := run_endLoop (P := P) hl (by rw [hrec]; simp); rw [hrec] at this; exact this, hdone _ S' _ (Nat.le_refl _) hbk.2.1 (hI _ _ _ _ hi (KeptX.putObj (by omega) hbk.2.2)) ((World.putObj_heap_other (by omega)).trans hd)⟩
      · exact ⟨some c, _, by have := run_endLoop (P := P) hl (by rw [hrec]; simp); rw [hrec] at this; exact this,
          (wpIn_wide (n := 0)).2 (hstop _ c k S' _ (Nat.le_refl _) hbk.2.1 (hIx _ _ _ _ _ hi (KeptX.putObj (by omega) hbk.2.2)) ((World.putObj_heap_other (by omega)).trans hd))⟩

end Go.Proofs.YtiohhajkegpebaaGreatDoor
namespace Go.Proofs.YtiohhajkegpebaaGreatDoor
open Go.RowKit
set_option linter.unusedVariables false
theorem wpListIn_append_runS {F : Fence} {nF : Nat} {P : Program} {w : World} {ops : Array Oper} {rest : List Oper} {o : Oper} {a : Act} {Q : Exit → Act → World → Prop} (hgd : o.guard = none) (s x : Operand) (t : TypeId)
    (ho : o.op = .call { callee := .builtin .append, args := #[s, x], argTypes := #[t, t] }) {vs vx v : Value} {w' : World} (hs : a.eval s = vs) (hx : a.eval x = vx) (hrun : (Builtin.append_ #[t, t] o.type #[vs, vx]).run P w = .ok v w')
    (h : wpListIn F nF P ops Q rest (a.put o.dst v) w') : wpListIn F nF P ops Q (o :: rest) a w := by
  refine wpListIn_plain hgd fun K hK => ?_
  unfold Oper.wpIn
  refine ⟨by simp [Oper.about, ho, resolve, Target.leads, Sem.run_pure], ?_⟩
  rw [Oper.semAt_plain F _ _ (by rw [ho]; intro c hc'; cases hc')]
  simp [execOp, ho, resolve, invoke, builtin, hs, hx, hrun, Result.andThen]
  exact hK _ _ h
set_option maxRecDepth 100000 in
set_option maxHeartbeats 4000000 in
theorem appendSeqS_ok (gf : FuncId) (lb : Array Value) (xs : List Str) (FP : (Nat → Prop) → World → Prop) (hit : Iter Tryz.prog gf lb encW xs FP) (eg : ∀ args w, (callFunc gf args).run Tryz.prog w = .ok (.enter gf args) w) (hx : ∀ x ∈ xs, x.length ≤ maxLen) (hn : xs.length ≤ 1000000) (w : World)
    (hFP : ∀ S' W, (∀ b, S' b → w.heap.size ≤ b) → Below w.heap.size w W → FP S' W) :
    Calls Tryz.prog 86 #[.slice none 0 0, .func (.func gf) #[] lb] w fun e w' => ∃ (A : Option Addr) (c : Nat) (L : List Str), e = .returned (.slice A L.length c) ∧ Hid (L = xs) ∧ Own strC M0 w' w.heap.size 9 (.slice A L.length c) L ∧ Below w.heap.size w w' := by
  obtain ⟨W0, hW0⟩ : ∃ W0, w.alloc (.cells #[.slice none 0 0] 47) = W0 := ⟨_, rfl⟩
  have hbw : Below w.heap.size w W0 := by rw [← hW0]; exact (Below.refl _ w).alloc (Nat.le_refl _) _
  have k1 : Blk W0 w.heap.size 47 #[.slice none 0 0] := by rw [← hW0]; exact Blk.new w _ _
  have hs1 : W0.heap.size = w.heap.size + 1 := by rw [← hW0]; simp
  have HW := Lib.hid hW0
  clear hW0
  refine calls_of_wp_marks Tryz.func86 rfl ?_
  simp only [Tryz.ntmps86, List.size_toArray, List.length_cons, List.length_nil, Nat.reduceAdd, Nat.reduceSub, Array.replicate_succ, Array.replicate_zero, List.push_toArray, List.append_toArray, List.nil_append, List.cons_append]
  obtain ⟨g, hg⟩ : ∃ g, w.heap.size = g := ⟨_, rfl⟩
  have Hs1 := Lib.hid hs1
  rw [hg] at k1
  clear hs1
  go_wp2
  rw [HW.out]
  refine wp_rangeFunc_iter hit rfl eg (fun _ => rfl)
    (fun k S W => S g ∧ (∀ b, S b → g ≤ b) ∧ Below w.heap.size w W ∧ ∃ A' c' L, Hid (L = xs.take k) ∧ Blk W g 47 #[.slice A' L.length c'] ∧ Own strC M0 W (g + 1) 9 (.slice A' L.length c') L ∧
      (∀ b, (Value.slice A' L.length c').ownBlock = some b → S b)) (fun _ _ _ _ => False) (fun b => b = g) ?_ ?_ ?_ (fun _ _ _ _ _ h _ => h)
    ⟨rfl, fun b hb => by rw [hb]; exact Nat.le_refl _, hbw, none, 0, [], Lib.hid (by simp), k1, Own.nil _ _ _ _ _, fun b hb => by simp [Value.ownBlock] at hb⟩
    (fun x => { tmps := #[.slice none 0 0, .func (.func gf) #[] lb, .pointer (some ⟨g, 0, none⟩), undef, .slice none 0 0, .string (bs x), .func (.func gf) #[] lb, .string (bs x), undef, undef, undef, undef, undef], defers := [] }) ?_ ?_ ?_ ?_
  · rintro b rfl; have := Hs1.out; omega
  · intro S' W hS' hbW
    exact hFP S' W (fun b hb => by rcases hS' b hb with h | h; omega; have := Hs1.out; omega) (hbw.trans (hbW.mono hbw.size))
  · rintro k S W W' ⟨h1, h2, h3, A', c', L, hL, h4, h5, h6⟩ hkept
    exact ⟨h1, h2, hkept.below (by have := Hs1.out; omega) h3 h3.size, A', c', L, hL, h4.keep (hkept.same _ h4.lt (.inr h1)), h5.flatC flatC_str (fun b hb => hkept.same b (h5.lt b hb) (.inr (h6 b hb))), h6⟩
  · intro l' x W K hK
    simp only [encW]
    gi_wp2_with (rw [Oper.semAt_eq _ _ _ (fun c h => by cases h)]; go_simp)
    exact hK
  · rintro l' k hk S W ⟨h1, h2, h3, A', c', L, hL, h4, h5, h6⟩ hlt hsz
    obtain ⟨hc, hz, hb⟩ := h4.one
    obtain ⟨r, hr⟩ : ∃ r, r = xs[k] := ⟨_, rfl⟩
    have hrx := hx _ (List.getElem_mem hk)
    rw [← hr] at hrx ⊢
    have Hr := Lib.hid hr
    clear hr
    obtain ⟨i, hi, hzz, q1, q2⟩ := info_parts (by kernel_rfl : (Tryz.prog.info? 9).map (fun i => (i.zero, i.size, i.bytes)) = some (some (.string ⟨#[]⟩), 1, 16))
    have hal := (Below.refl W.heap.size W).alloc (Nat.le_refl _) (.cells #[.string (bs r)] 9)
    have kn := Blk.new W 9 #[.string (bs r)]
    have hLk : L.length ≤ 1000000 := by rw [hL.out, List.length_take]; omega
    have hgsz : w.heap.size + 1 ≤ W.heap.size := by have := Hs1.out; omega
    obtain ⟨v', W9, hrun, hown', hgr, hor⟩ := run_append_Own (P := Tryz.prog) strC (w := W.alloc (.cells #[.string (bs r)] 9)) (M := M0) 47 47 9 i (.string ⟨#[]⟩) 16 Tryz.underlying47 hi hzz q1 q2 rfl (h5.ext hal) (some ⟨W.heap.size, 0, none⟩) 1 1 [.string (bs r)] (l' := [r]) (Els.single ⟨rfl, hrx⟩) rfl
      (fun _ => ⟨W.heap.size, 0, rfl, fun j u hu => by rw [Nat.zero_add, kn.cell]; simpa using hu⟩) (by simp [maxLen]; omega) (by simp; omega) (by simp; omega)
    obtain ⟨A9, c9, rfl, _, _⟩ := hown'.shape
    have hne : some g ≠ (Value.slice A' L.length c').ownBlock := fun e => by have := h5.base _ e.symm; omega
    have h49 := (h4.ext hal).grown hgr hne
    obtain ⟨x0, x1, _⟩ := h49.one
    have hbg := hgr.size
    rw [World.size_alloc] at hbg
    have Hown := Lib.hid hown'; have Hgr := Lib.hid hgr; have Hor := Lib.hid hor; have H49 := Lib.hid h49
    have Hrun := Lib.hid hrun
    clear hown' hgr hor h49 kn hrun
    gi_wp2_with (first | (gi_at_builtin; refine wpListIn_append_runS rfl (.tmp 8) (.tmp 10) 47 rfl rfl rfl Hrun.out ?_) | (rw [Oper.semAt_eq _ _ _ (fun c h => by cases h)]; go_simp))
    have hown' := Hown.out
    have hgr := Hgr.out
    have hblk : ∀ b, b < W.heap.size → some b ≠ (Value.slice A' L.length c').ownBlock → W9.heap[b]? = W.heap[b]? := fun b hb1 hb2 => (hgr.block b (by rw [World.size_alloc]; omega) hb2).trans (hal.block b hb1)
    have hown4 : ∀ b, (Value.slice A9 (L ++ [r]).length c9).ownBlock = some b → (S b ∨ (W.heap.size ≤ b ∧ b < W9.heap.size)) ∧ b ≠ g := fun b ho => by
      refine ⟨?_, by have := hown'.base b ho; omega⟩
      rcases Hor.out with e | e
      · exact .inl (h6 b (e ▸ ho))
      · have h7 := hown'.lt b ho
        rw [e, World.size_alloc] at ho; injection ho with ho
        exact .inr ⟨by omega, h7⟩
    refine ⟨fun b => S b ∨ (W.heap.size ≤ b ∧ b < W9.heap.size), ⟨hgr.os.trans hal.os, hgr.tape.trans hal.tape, hgr.output.trans hal.output, by simp; omega, fun b hb1 hnS => ?_, fun b hb1 => ?_⟩, .inl h1, fun b hb1 => ?_, ?_, A9, c9, L ++ [r], ?_, ?_, ?_, fun b ho => (hown4 b ho).1⟩
    · exact (Below.heap_setCell _ _ _ _ fun e => hnS (by rw [e]; exact h1)).trans (hblk b hb1 fun e => hnS (h6 b e.symm))
    · rcases hb1 with h7 | h7
      · exact ⟨by have := hlt b h7; simp; omega, .inl h7⟩
      · exact ⟨by simp; omega, .inr h7.1⟩
    · rcases hb1 with h7 | h7
      · exact h2 b h7
      · omega
    · refine Below.setCell (p := ⟨g, 0, none⟩) (h3.trans ⟨hgr.os.trans hal.os, hgr.tape.trans hal.tape, hgr.output.trans hal.output, by omega, fun b hb1 => hblk b (by omega) fun e => by have := h5.base _ e.symm; omega⟩) (by show w.heap.size ≤ g; omega) _
    · exact Lib.hid (by rw [hL.out, List.take_succ_eq_append_getElem hk, ← Hr.out])
    · have := H49.out.set_ 0 (Value.slice A9 (L ++ [r]).length c9); simpa using this
    · exact hown'.flatC flatC_str fun b hb => Below.heap_setCell _ _ _ _ (hown4 b hb).2
  · rintro D S W hD hSD ⟨h1, h2, h3, A', c', L, hL, h4, h5, h6⟩ hWD
    obtain ⟨hc, hz, hb⟩ := h4.one
    go_wp2
    have hLe : L = xs := by rw [hL.out, List.take_length]
    have hDg : D ≠ g := fun e => hSD (e ▸ h1)
    have hDw : w.heap.size ≤ D := by have := Hs1.out; omega
    refine bodyPostM_one hWD (v := .slice A' L.length c') (by simp [results, Tryz.results86, go_sem]) ⟨A', c', L, rfl, Lib.hid hLe, ?_, ⟨h3.os, h3.tape, h3.output, by rw [World.putObj_size]; exact h3.size, fun k hk => (World.putObj_heap_other (by omega)).trans (h3.block k hk)⟩⟩
    have h11 : Own strC M0 (W.putObj D (.deferred none)) (g + 1) 9 (.slice A' L.length c') L := h5.flatC flatC_str fun b ho => World.putObj_heap_other (fun e => hSD (e ▸ h6 b ho))
    exact h11.weak (by omega) (fun _ h => h)
  · rintro D c' k S W _ _ h
    exact h.elim
theorem collectS_ok (gf : FuncId) (lb : Array Value) (xs : List Str) (FP : (Nat → Prop) → World → Prop) (hit : Iter Tryz.prog gf lb encW xs FP) (eg : ∀ args w, (callFunc gf args).run Tryz.prog w = .ok (.enter gf args) w) (hx : ∀ x ∈ xs, x.length ≤ maxLen) (hn : xs.length ≤ 1000000) (w : World)
    (hFP : ∀ S' W, (∀ b, S' b → w.heap.size ≤ b) → Below w.heap.size w W → FP S' W) :
    Calls Tryz.prog 55 #[.func (.func gf) #[] lb] w fun e w' => ∃ (A : Option Addr) (c : Nat) (L : List Str), e = .returned (.slice A L.length c) ∧ Hid (L = xs) ∧ Own strC M0 w' w.heap.size 9 (.slice A L.length c) L ∧ Below w.heap.size w w' := by
  have hc := appendSeqS_ok gf lb xs FP hit eg hx hn w hFP
  have Hc := Lib.hid hc
  clear hc hit hFP
  go_enter Tryz.func55, Tryz.ntmps55
  go_wp2_with fail
  refine Hc.out.mono ?_
  rintro e w1 ⟨A, c, L, rfl, hL, hown, hb⟩
  go_wp2_with fail
  go_ret
  exact ⟨A, c, L, rfl, hL, hown, hb⟩
end Go.Proofs.YtiohhajkegpebaaGreatDoor
namespace Go.Proofs.YtiohhajkegpebaaGreatDoor
open Go.ChangeShapes Go.WideShapes Go.ChangeAt Go.RowKit

theorem add_add' (a : Addr) (i j : Nat) : (a.add i).add j = a.add (i + j) := by
  unfold Addr.add
  by_cases hi : i = 0 <;> by_cases hj : j = 0 <;> simp [hi, hj, Nat.add_assoc]
/-- What the form reads at type t, C reads; bk: what the datum weighs in the form's bulk. -/
def Reads (P : Program) (t : TypeId) {α : Type} (C : Codec α) (bk : α → Nat) : Prop :=
  P.cellsOf t = C.n ∧ ∀ (H : Type) (enc : TypeId × Value → H) (w : World) (spare : Nat → Bool) (held : Bool) (fuel : Nat) (cs : List Value) (x : DataW H × List MemPlace),
    DataW.trod enc P w 0 spare held fuel t cs = some x → ∃ a : α, C.rd M0 w cs a ∧ bk a ≤ Rows.uptoBulk x.1

theorem bulk_pos {H : Type} (d : DataW H) : 1 ≤ Rows.uptoBulk d := by
  cases d with
  | lit l => cases l <;> simp [Rows.uptoBulk]
  | nil => simp [Rows.uptoBulk]
  | ptr d => simp [Rows.uptoBulk]
  | slice elems spare => simp [Rows.uptoBulk]
  | agg parts => simp [Rows.uptoBulk]
  | iface t d => simp [Rows.uptoBulk]
  | map entries => simp [Rows.uptoBulk]
  | held h => simp [Rows.uptoBulk]
theorem bulk_all {H : Type} : ∀ l : List (DataW H), Rows.uptoBulkAll l = (l.map Rows.uptoBulk).sum
  | [] => by simp [Rows.uptoBulkAll]
  | d :: l => by simp [Rows.uptoBulkAll, bulk_all l]

theorem reads_int {P : Program} {t : TypeId} (ht : P.underlying t = some (.int .i64)) (hc : P.cellsOf t = 1) : Reads P t intC (fun _ => 1) :=
  ⟨hc, fun H enc w spare held fuel cs x h => by
    obtain ⟨n, rfl, rfl, hw⟩ := DataW.trod_int ht h
    refine ⟨n, ⟨rfl, ?_⟩, bulk_pos _⟩
    simpa [Lit.wf, IntKind.min, IntKind.max, IntKind.signed, IntKind.bits] using hw⟩
theorem reads_byte {P : Program} {t : TypeId} (ht : P.underlying t = some (.int .u8)) (hc : P.cellsOf t = 1) : Reads P t byteC (fun _ => 1) :=
  ⟨hc, fun H enc w spare held fuel cs x h => by
    obtain ⟨n, rfl, rfl, hw⟩ := DataW.trod_int ht h
    have hw' : 0 ≤ n ∧ n ≤ 255 := by simpa [Lit.wf, IntKind.min, IntKind.max, IntKind.signed, IntKind.bits] using hw
    refine ⟨UInt8.ofNat n.toNat, ?_, bulk_pos _⟩
    show [Value.int .u8 n] = [Value.int .u8 ((UInt8.ofNat n.toNat).toNat : Int)]
    rw [UInt8.toNat_ofNat']
    congr 2
    omega⟩
theorem reads_bool {P : Program} {t : TypeId} (ht : P.underlying t = some .bool) (hc : P.cellsOf t = 1) : Reads P t boolC (fun _ => 1) :=
  ⟨hc, fun H enc w spare held fuel cs x h => by
    obtain ⟨b, rfl, rfl⟩ := DataW.trod_bool ht h
    exact ⟨b, rfl, bulk_pos _⟩⟩
theorem reads_string {P : Program} {t : TypeId} (ht : P.underlying t = some .string) (hc : P.cellsOf t = 1) : Reads P t strC (fun l => l.length + 1) :=
  ⟨hc, fun H enc w spare held fuel cs x h => by
    obtain ⟨s, rfl, rfl, hs⟩ := DataW.trod_string ht h
    refine ⟨s.data.toList, ⟨by rw [← bs_of], by rw [Array.length_toList]; exact hs⟩, ?_⟩
    rw [Rows.uptoBulk]
    exact Nat.le_refl _⟩
theorem exists_list {α : Type} (n : Nat) (p : Nat → α → Prop) (h : ∀ i, i < n → ∃ a, p i a) : ∃ l : List α, l.length = n ∧ ∀ (i : Nat) (hi : i < l.length), p i l[i] := by
  induction n with
  | zero => exact ⟨[], rfl, fun i hi => by simp at hi⟩
  | succ n ih =>
    obtain ⟨l, hl, hp⟩ := ih fun i hi => h i (by omega)
    obtain ⟨a, ha⟩ := h n (by omega)
    refine ⟨l ++ [a], by simp [hl], fun i hi => ?_⟩
    by_cases hi' : i < l.length
    · rw [List.getElem_append_left hi']; exact hp i hi'
    · have : i = n := by simp at hi; omega
      subst this
      rw [List.getElem_append_right (by omega)]
      simpa [hl] using ha
theorem sum_le_of {α β : Type} (f : α → Nat) (g : β → Nat) : ∀ (l : List α) (m : List β), l.length ≤ m.length → (∀ (i : Nat) (h : i < l.length) (h' : i < m.length), f l[i] ≤ g m[i]) → (l.map f).sum ≤ (m.map g).sum
  | [], m, _, _ => by simp
  | a :: l, [], h, _ => by simp at h
  | a :: l, b :: m, h, hh => by
    have h0 := hh 0 (by simp) (by simp)
    have ih := sum_le_of f g l m (by simpa using h) fun i h1 h2 => by
      have := hh (i + 1) (by simpa using h1) (by simpa using h2)
      simpa using this
    simp at h0
    simp; omega
theorem reads_slice {P : Program} {t e : TypeId} {α : Type} {C : Codec α} {bk : α → Nat} (hR : Reads P e C bk) (ht : P.underlying t = some (.slice e)) (hc : P.cellsOf t = 1) : Reads P t (sliceC C) (fun l => 1 + (l.map bk).sum) :=
  ⟨hc, fun H enc w spare held fuel cs x h => by
    obtain ⟨hn, hR⟩ := hR
    rcases DataW.trod_slice ht h with ⟨rfl, rfl⟩ | ⟨a, len, cap, elems, rest, n, _, rfl, rfl, _, hl, hm, hlen, hel, _, _⟩
    · exact ⟨[], ⟨_, rfl, SlR.nil C M0 w⟩, by simp [Rows.uptoBulk]⟩
    · rw [hn] at hel
      have each : ∀ i, i < len → ∃ y : α, (∃ cs' : List Value, cs'.length = C.n ∧ (∀ j, j < C.n → w.cell? ((a.add (i * C.n)).add j) = cs'[j]?) ∧ C.rd M0 w cs' y) ∧ ∀ (hi : i < elems.length), bk y ≤ Rows.uptoBulk (elems[i].1) := by
        intro i hi
        have h1 := hel i hi
        have hi' : i < elems.length := by omega
        rw [List.getElem?_eq_getElem hi', Option.bind_eq_some_iff] at h1
        obtain ⟨cs', hc', ht'⟩ := h1
        obtain ⟨_, hcl, hat⟩ := World.cells?_some hc'
        obtain ⟨y, hy1, hy2⟩ := hR H enc w spare held n cs' _ ht'
        exact ⟨y, ⟨cs', hcl, fun j hj => hat j hj, hy1⟩, fun _ => hy2⟩
      obtain ⟨l, hll, hp⟩ := exists_list len _ each
      obtain ⟨xs, hxl, hx⟩ := exists_list (len * C.n) (fun j (u : Value) => w.cell? (a.add j) = some u) (fun j hj => by
        have hq : j / C.n < len := (Nat.div_lt_iff_lt_mul C.pos).2 hj
        obtain ⟨y, ⟨cs', hcl, hat, _⟩, _⟩ := each _ hq
        have hm := Nat.mod_lt j C.pos
        have hc := hat (j % C.n) hm
        rw [add_add'] at hc
        have hdm := Nat.div_add_mod j C.n
        rw [Nat.mul_comm] at hdm
        rw [hdm] at hc
        rw [List.getElem?_eq_getElem (by omega)] at hc
        exact ⟨_, hc⟩)
      refine ⟨l, ⟨_, rfl, some a, len, cap, xs, rfl, hll.symm, hl, hm, ⟨by rw [hxl, hll], fun i hi => ?_⟩, fun h0 => ?_⟩, ?_⟩
      · obtain ⟨⟨cs', hcl, hat, hrd⟩, _⟩ := hp i hi
        have hik : (i + 1) * C.n ≤ len * C.n := Nat.mul_le_mul_right _ (by omega)
        rw [Nat.add_mul, Nat.one_mul] at hik
        have : (xs.drop (i * C.n)).take C.n = cs' := by
          apply List.ext_getElem?
          intro j
          by_cases hj : j < C.n
          · rw [List.getElem?_take, if_pos hj, List.getElem?_drop, ← hat j hj, add_add', hx (i * C.n + j) (by omega), List.getElem?_eq_getElem (by omega)]
          · rw [List.getElem?_eq_none (by rw [List.length_take]; omega), List.getElem?_eq_none (by omega)]
        rw [this]
        exact hrd
      · have hp := C.pos
        have h00 : 0 < xs.length := by rw [hxl]; exact Nat.mul_pos h0 hp
        have hc0 := hx 0 h00
        have hspot : a.spot = none := by
          have : a.add 0 = a := by simp [Addr.add]
          rw [this] at hc0
          exact World.cell?_spot hc0
        obtain ⟨b, off, spot⟩ := a
        simp only at hspot
        subst hspot
        have hlt := World.block_lt_of_cell? w _ hc0
        refine ⟨b, off, rfl, fun h => h.elim, by simpa [Addr.add] using hlt, fun j u hu => ?_⟩
        have hj : j < xs.length := (List.getElem?_eq_some_iff.1 hu).1
        have := hx j hj
        rw [Addr.add_lit] at this
        rw [this, ← hu, List.getElem?_eq_getElem hj]
      · have := sum_le_of bk (fun y : DataW H × List MemPlace => Rows.uptoBulk y.1) l elems (by omega) fun i h1 h2 => (hp i h1).2 h2
        simp only [Rows.uptoBulk, bulk_all, List.map_map]
        have e : (Rows.uptoBulk ∘ fun x : DataW H × List MemPlace => x.1) = fun y : DataW H × List MemPlace => Rows.uptoBulk y.1 := rfl
        rw [e]
        omega⟩

theorem reads_struct2 {P : Program} {t : TypeId} {f0 f1 : Field} {α β : Type} {C : Codec α} {D : Codec β} {bc : α → Nat} {bd : β → Nat} (hC : Reads P f0.type C bc) (hD : Reads P f1.type D bd)
    (ht : P.underlying t = some (.struct #[f0, f1])) (hc : P.cellsOf t = C.n + D.n) (h0 : f0.offset = 0) (h1 : f1.offset = C.n) : Reads P t (pairC C D) (fun p => bc p.1 + bd p.2) :=
  ⟨hc, fun H enc w spare held fuel cs x h => by
    obtain ⟨xs, n, rfl, rfl, hl, hn, hf⟩ := DataW.trod_struct ht h
    obtain ⟨kC, rC⟩ := hC
    obtain ⟨kD, rD⟩ := hD
    match xs, hn with
    | [x0, x1], _ =>
      have e0 := hf 0 f0 rfl
      have e1 := hf 1 f1 rfl
      rw [h0, List.drop_zero, kC] at e0
      rw [h1, kD] at e1
      obtain ⟨a, ha, ba⟩ := rC H enc w spare held n _ x0 e0
      obtain ⟨b, hb, bb⟩ := rD H enc w spare held n _ x1 e1
      refine ⟨(a, b), ⟨_, _, ?_, ha, hb⟩, ?_⟩
      · rw [List.take_of_length_le (l := cs.drop C.n) (by rw [List.length_drop, hl, hc]; omega), List.take_append_drop]
      · simp only [Rows.uptoBulk, bulk_all, List.map_cons, List.map_nil, List.sum_cons, List.sum_nil]
        omega⟩
theorem reads_struct3 {P : Program} {t : TypeId} {f0 f1 f2 : Field} {α β γ : Type} {C : Codec α} {D : Codec β} {E : Codec γ} {bc : α → Nat} {bd : β → Nat} {be : γ → Nat} (hC : Reads P f0.type C bc) (hD : Reads P f1.type D bd) (hE : Reads P f2.type E be)
    (ht : P.underlying t = some (.struct #[f0, f1, f2])) (hc : P.cellsOf t = C.n + (D.n + E.n)) (h0 : f0.offset = 0) (h1 : f1.offset = C.n) (h2 : f2.offset = C.n + D.n) : Reads P t (pairC C (pairC D E)) (fun p => bc p.1 + bd p.2.1 + be p.2.2) :=
  ⟨hc, fun H enc w spare held fuel cs x h => by
    obtain ⟨xs, n, rfl, rfl, hl, hn, hf⟩ := DataW.trod_struct ht h
    obtain ⟨kC, rC⟩ := hC
    obtain ⟨kD, rD⟩ := hD
    obtain ⟨kE, rE⟩ := hE
    match xs, hn with
    | [x0, x1, x2], _ =>
      have e0 := hf 0 f0 rfl
      have e1 := hf 1 f1 rfl
      have e2 := hf 2 f2 rfl
      rw [h0, List.drop_zero, kC] at e0
      rw [h1, kD] at e1
      rw [h2, kE] at e2
      obtain ⟨a, ha, ba⟩ := rC H enc w spare held n _ x0 e0
      obtain ⟨b, hb, bb⟩ := rD H enc w spare held n _ x1 e1
      obtain ⟨c, hc', bc'⟩ := rE H enc w spare held n _ x2 e2
      refine ⟨(a, b, c), ⟨_, _, ?_, ha, _, _, rfl, hb, hc'⟩, ?_⟩
      · rw [List.take_of_length_le (l := cs.drop (C.n + D.n)) (by rw [List.length_drop, hl, hc]; omega), ← List.drop_drop, List.take_append_drop, List.take_append_drop]
      · simp only [Rows.uptoBulk, bulk_all, List.map_cons, List.map_nil, List.sum_cons, List.sum_nil]
        omega⟩
/-- What is handed to the call: the value's cells, read. -/
theorem reads_arg {P : Program} {t : TypeId} {α : Type} {C : Codec α} {bk : α → Nat} (hR : Reads P t C bk) {H : Type} {enc : TypeId × Value → H} {w : World} {spare : Nat → Bool} {held : Bool} {cs : List Value} {d : DataW H} {p : List MemPlace}
    (h : ∃ fuel, DataW.trod enc P w 0 spare held fuel t cs = some (d, p)) : ∃ a : α, C.rd M0 w cs a ∧ bk a ≤ Rows.uptoBulk d := by
  obtain ⟨fuel, h⟩ := h
  exact hR.2 H enc w spare held fuel cs _ h
theorem SlR.of_rd {α : Type} {C : Codec α} {M : Nat → Prop} {w : World} {a : Option Addr} {n c : Nat} {l : List α} (h : (sliceC C).rd M w (Value.slice a n c).cells.toList l) : SlR C M w (.slice a n c) l := by
  obtain ⟨v, hv, hs⟩ := h
  simp [Value.cells] at hv
  exact hv ▸ hs
theorem of_rd_str {M : Nat → Prop} {w : World} {s : ByteArray} {x : List UInt8} (h : strC.rd M w (Value.string s).cells.toList x) : s = bs x ∧ x.length ≤ maxLen := by
  obtain ⟨hv, hs⟩ := h
  simp [Value.cells] at hv
  exact ⟨hv, hs⟩
theorem of_rd_int {M : Nat → Prop} {w : World} {a x : Int} (h : intC.rd M w (Value.int .i64 a).cells.toList x) : a = x ∧ -9223372036854775808 ≤ x ∧ x ≤ 9223372036854775807 := by
  obtain ⟨hv, hs⟩ := h
  simp [Value.cells] at hv
  exact ⟨hv, hs⟩
theorem of_rd_bool {M : Nat → Prop} {w : World} {a x : Bool} (h : boolC.rd M w (Value.bool a).cells.toList x) : a = x := by
  have hv : (Value.bool a).cells.toList = [Value.bool x] := h
  simpa [Value.cells] using hv
theorem readsBytes (P : Program) {t e : TypeId} (ht : P.underlying t = some (.slice e)) (he : P.underlying e = some (.int .u8)) (h1 : P.cellsOf t = 1) (h2 : P.cellsOf e = 1) : Reads P t (sliceC byteC) (fun l => 1 + (l.map fun _ => 1).sum) :=
  reads_slice (reads_byte he h2) ht h1
end Go.Proofs.YtiohhajkegpebaaGreatDoor

/-
  Contracts and plain facts, one after another: A store into a slice of the call's own. No program is named here; A range over a function: an iterator's contract against any loop body, and the law of the loop. No program is named here.
-/
import Derived.Test.YtfjpedgddgbelaaGreatDoorBase
import Derived.Laws.IdiomStrings
import Derived.RangeFuncFrom
import Derived.Shelf.Abstract
namespace Go.Proofs.YtfjpedgddgbelaaGreatDoor
open Go.RowKit

theorem Own.blk {α : Type} {C : Codec α} {M : Nat → Prop} {w : World} {B : Nat} {e : TypeId} {v : Value} {l : List α} (h : Own C M w B e v l) (h0 : 0 < l.length) :
    ∃ g c cur, v = .slice (some ⟨g, 0, none⟩) l.length c ∧ l.length ≤ c ∧ c ≤ maxLen ∧ B ≤ g ∧ Blk w g e cur ∧ cur.size = c * C.n := by
  obtain ⟨xs, ho, _⟩ := h
  rcases ho.2 with ⟨rfl, h1⟩ | ⟨g, cap, cur, rfl, hb, hg, h1, h2, h3, _⟩
  · omega
  · exact ⟨g, cap, cur, rfl, h1, h2, hb, hg, h3⟩
/-- One cell of an element of one cell is turned. -/
theorem Own.put1 {α : Type} {C : Codec α} {M : Nat → Prop} {w : World} {B : Nat} {e : TypeId} {l : List α} {g n c : Nat} (hC : C.n = 1) (h : Own C M w B e (.slice (some ⟨g, 0, none⟩) n c) l) {k : Nat} (hk : k < l.length) {u : Value} {a : α}
    (hr : C.rd (fun b => M b ∨ b = g) w [u] a) : Own C M (w.setCell ⟨g, k, none⟩ u) B e (.slice (some ⟨g, 0, none⟩) n c) (l.set k a) := by
  obtain ⟨xs, ho, he⟩ := h
  have hxl : xs.length = l.length := by rw [he.1, hC, Nat.mul_one]
  rcases ho with ⟨hl, ⟨hv, _⟩ | ⟨g', cap, cur, hv, hb, hblk, h1, h2, hsz, htk⟩⟩
  · cases hv
  · injection hv with hv1 hv2 hv3
    injection hv1 with hv1
    injection hv1 with hv1
    subst hv1 hv2 hv3
    have hkc : k < cur.size := by rw [hsz, hC]; omega
    refine ⟨xs.set k u, ⟨by rw [List.length_set, List.length_set, hl], .inr ⟨g, c, cur.setIfInBounds k u, by rw [List.length_set], hb, ?_, by rw [List.length_set]; exact h1, h2, by rw [Array.size_setIfInBounds, hsz], ?_⟩⟩, ?_⟩
    · simp [World.setCell, Array.getElem?_modify, hblk]
    · rw [Array.toList_setIfInBounds, List.take_set, List.length_set, htk]
    · refine ⟨by rw [List.length_set, List.length_set, he.1], fun i hi => ?_⟩
      rw [List.length_set] at hi
      have keep : ∀ (cs : List Value) (x : α), C.rd (fun b => M b ∨ b = g) w cs x → C.rd (fun b => M b ∨ (Value.slice (some ⟨g, 0, none⟩) l.length c).ownBlock = some b) (w.setCell ⟨g, k, none⟩ u) cs x := fun cs x hx => by
        have h3 := C.keep (w' := w.setCell ⟨g, k, none⟩ u) hx (fun b _ hn => Below.heap_setCell w ⟨g, k, none⟩ u b fun e => hn (.inr e)) (by simp)
        exact C.sub h3 fun b _ hor => hor.imp id fun ho => by simp only [Value.ownBlock, Option.some.injEq] at ho; exact ho.symm
      by_cases hik : i = k
      · subst hik
        rw [List.getElem_set_self]
        have : ((xs.set i u).drop (i * C.n)).take C.n = [u] := by
          apply List.ext_getElem?
          intro j
          rw [hC]
          simp only [List.getElem?_take, List.getElem?_drop, Nat.mul_one]
          rcases j with _ | j
          · simp [List.getElem?_set_self (show i < xs.length by omega)]
          · simp
        rw [this]
        exact keep _ _ hr
      · rw [List.getElem_set_ne (by omega)]
        have : ((xs.set k u).drop (i * C.n)).take C.n = (xs.drop (i * C.n)).take C.n := by
          apply List.ext_getElem?
          intro j
          rw [hC]
          simp only [List.getElem?_take, List.getElem?_drop, Nat.mul_one]
          split
          · rw [List.getElem?_set_ne (by omega)]
          · rfl
        rw [this]
        refine keep _ _ (C.sub (he.2 i hi) fun b _ hor => hor.imp id fun e => by rw [e]; rfl)
/-- A codec of one cell that leads nowhere. -/
def Codec.Flat {α : Type} (C : Codec α) : Prop := C.n = 1 ∧ ∀ (M M' : Nat → Prop) (w w' : World) (cs : List Value) (a : α), C.rd M w cs a → C.rd M' w' cs a
theorem flat_byte : byteC.Flat := ⟨rfl, fun _ _ _ _ _ _ h => h⟩
theorem flat_int : intC.Flat := ⟨rfl, fun _ _ _ _ _ _ h => h⟩
theorem flat_bool : boolC.Flat := ⟨rfl, fun _ _ _ _ _ _ h => h⟩
theorem flat_str : strC.Flat := ⟨rfl, fun _ _ _ _ _ _ h => h⟩
/-- A store into a slice whose elements lead nowhere. -/
theorem SlR.set1 {α : Type} {C : Codec α} (hF : C.Flat) {M : Nat → Prop} {w : World} {l : List α} {b off n c k : Nat} (h : SlR C M w (.slice (some ⟨b, off, none⟩) n c) l) (hk : k < l.length) {u : Value} {a : α} (hu : C.rd M w [u] a) :
    SlR C M (w.setCell ⟨b, off + k, none⟩ u) (.slice (some ⟨b, off, none⟩) n c) (l.set k a) := by
  obtain ⟨A, n', c', xs, hv, rfl, hc, hm, he, ha⟩ := h
  injection hv with e1 e2 e3
  subst e1 e2 e3
  obtain ⟨hC, hfl⟩ := hF
  have hxl : xs.length = l.length := by rw [he.1, hC, Nat.mul_one]
  refine ⟨_, _, _, xs.set k u, rfl, by rw [List.length_set], hc, hm, ⟨by rw [List.length_set, List.length_set, he.1], fun i hi => ?_⟩, fun h0 => ?_⟩
  · rw [List.length_set] at hi
    refine hfl M M w _ _ _ ?_
    by_cases hik : i = k
    · subst hik
      rw [List.getElem_set_self]
      have : ((xs.set i u).drop (i * C.n)).take C.n = [u] := by
        apply List.ext_getElem?
        intro j
        rw [hC]
        simp only [List.getElem?_take, List.getElem?_drop, Nat.mul_one]
        rcases j with _ | j
        · simp [List.getElem?_set_self (show i < xs.length by omega)]
        · simp
      rw [this]
      exact hu
    · rw [List.getElem_set_ne (by omega)]
      have : ((xs.set k u).drop (i * C.n)).take C.n = (xs.drop (i * C.n)).take C.n := by
        apply List.ext_getElem?
        intro j
        rw [hC]
        simp only [List.getElem?_take, List.getElem?_drop, Nat.mul_one]
        split
        · rw [List.getElem?_set_ne (by omega)]
        · rfl
      rw [this]
      exact he.2 i hi
  · obtain ⟨b', off', hA, hM, hb, hcell⟩ := ha h0
    cases hA
    refine ⟨b, off, rfl, hM, by simpa using hb, fun j v hv => ?_⟩
    by_cases hjk : j = k
    · subst hjk
      rw [List.getElem?_set_self (by omega)] at hv
      injection hv with hv
      subst hv
      obtain ⟨v0, hv0⟩ : ∃ v0, xs[j]? = some v0 := ⟨_, List.getElem?_eq_getElem (show j < xs.length by omega)⟩
      exact World.cell?_setCell_same _ _ _ (hcell j v0 hv0)
    · rw [List.getElem?_set_ne (by omega)] at hv
      exact (World.cell?_setCell_other _ _ _ _ (by intro e; injection e with _ e; omega)).trans (hcell j v hv)
/-- A block with a mark. -/
def BlkM (w : World) (g : Nat) (t : TypeId) (n : Nat) : Prop := ∃ cs : Array Value, w.heap[g]? = some (.cells cs t (n, n + 1))
theorem BlkM.frozen {w : World} {g : Nat} {t : TypeId} {n i : Nat} (h : BlkM w g t n) (hi : i < n) : w.frozen? ⟨g, i, none⟩ = false := by
  obtain ⟨cs, h⟩ := h
  simp only [World.frozen?, h]
  simp; omega
theorem BlkM.set {w : World} {g : Nat} {t : TypeId} {n : Nat} (h : BlkM w g t n) (i : Nat) (u : Value) : BlkM (w.setCell ⟨g, i, none⟩ u) g t n := by
  obtain ⟨cs, h⟩ := h
  exact ⟨cs.setIfInBounds i u, by simp [World.setCell, Array.getElem?_modify, h]⟩
theorem BlkM.lt {w : World} {g : Nat} {t : TypeId} {n : Nat} (h : BlkM w g t n) : g < w.heap.size := by
  obtain ⟨cs, h⟩ := h
  exact (Array.getElem?_eq_some_iff.1 h).1
theorem lit_bytes (M : Nat → Prop) (w : World) : ∀ l : List UInt8, Els byteC M w (l.map fun b => .int .u8 (b.toNat : Int)) l
  | [] => Els.nil _ _ _
  | b :: l => (Els.single (C := byteC) (cs := [.int .u8 (b.toNat : Int)]) rfl).append (lit_bytes M w l)
/-- '[]byte(s)': what it leaves. -/
theorem run_bytes_of {P : Program} (w : World) (src dst e : TypeId) (s : List UInt8) (hn : s.length ≤ maxLen) (hs : P.underlying src = some .string) (hd : P.underlying dst = some (.slice e)) (he : P.underlying e = some (.int .u8)) :
    ∃ c w', (convert src dst (.string (bs s))).run P w = .ok (.slice (some ⟨w.heap.size, 0, none⟩) s.length c) w' ∧ s.length ≤ c ∧ c ≤ maxLen ∧ SlR byteC M0 w' (.slice (some ⟨w.heap.size, 0, none⟩) s.length c) s ∧ (∃ m, s.length ≤ m ∧ BlkM w' w.heap.size e m) ∧ Below w.heap.size w w' := by
  have h1 := run_bytes_of_string (P := P) w src dst e (bs s) hs hd he
  rw [bs_size] at h1
  have hge := grownCap_ge w s.length 0 e
  have hle := grownCap_le_maxLen w s.length 0 e (by simpa using hn)
  have hrow : bytesRow (bs s) (grownCap w s.length 0 e) = (s.map fun b => Value.int .u8 (b.toNat : Int)).toArray ++ Array.replicate (grownCap w s.length 0 e - s.length) (.int .u8 0) := by
    simp [bytesRow, bs, ByteArray.size]
  have hlen : (bytesRow (bs s) (grownCap w s.length 0 e)).size = grownCap w s.length 0 e := by rw [hrow]; simp; omega
  refine ⟨_, _, h1, hge, hle, ?_, ⟨(bytesRow (bs s) (grownCap w s.length 0 e)).size, by rw [hlen]; exact hge, ⟨_, heap_alloc_new _ _⟩⟩, ((Below.refl _ w).trans (below_drewN' _ w 1)).alloc (Nat.le_refl _) _⟩
  refine ⟨_, _, _, s.map fun b => Value.int .u8 (b.toNat : Int), rfl, rfl, hge, hle, lit_bytes _ _ s, fun _ => ⟨_, 0, rfl, fun h => h, by simp, fun j u hu => ?_⟩⟩
  rw [Nat.zero_add]
  have hb : (w.drew.alloc (.cells (bytesRow (bs s) (grownCap w s.length 0 e)) e ((bytesRow (bs s) (grownCap w s.length 0 e)).size, (bytesRow (bs s) (grownCap w s.length 0 e)).size + 1))).heap[w.heap.size]? = some _ := heap_alloc_new w.drew _
  simp only [World.cell?, hb]
  rw [hrow]
  have hj : j < s.length := by have := (List.getElem?_eq_some_iff.1 hu).1; simpa using this
  simpa [Array.getElem?_append, hj] using hu
/-! ### Elements, read -/
section
variable {M : Nat → Prop} {w : World} {A : Option Addr} {n c : Nat}
theorem SlR.byteAt {l : List UInt8} (h : SlR byteC M w (.slice A n c) l) {k : Nat} (hk : k < l.length) :
    ∃ b off, A = some ⟨b, off, none⟩ ∧ ¬ M b ∧ b < w.heap.size ∧ w.cell? ⟨b, off + k, none⟩ = some (.int .u8 (l[k].toNat : Int)) := by
  obtain ⟨b, off, cs, rfl, hM, hb, hr, hc⟩ := h.at_ hk
  refine ⟨b, off, rfl, hM, hb, ?_⟩
  have := hc 0 (.int .u8 (l[k].toNat : Int)) (by have : cs = _ := hr; rw [this]; rfl)
  simpa [byteC] using this
theorem SlR.strAt {l : List (List UInt8)} (h : SlR strC M w (.slice A n c) l) {k : Nat} (hk : k < l.length) :
    ∃ b off, A = some ⟨b, off, none⟩ ∧ ¬ M b ∧ b < w.heap.size ∧ w.cell? ⟨b, off + k, none⟩ = some (.string (bs l[k])) ∧ l[k].length ≤ maxLen := by
  obtain ⟨b, off, cs, rfl, hM, hb, hr, hc⟩ := h.at_ hk
  refine ⟨b, off, rfl, hM, hb, ?_, hr.2⟩
  have := hc 0 (.string (bs l[k])) (by have : cs = _ := hr.1; rw [this]; rfl)
  simpa [strC] using this
theorem SlR.intAt {l : List Int} (h : SlR intC M w (.slice A n c) l) {k : Nat} (hk : k < l.length) :
    ∃ b off, A = some ⟨b, off, none⟩ ∧ ¬ M b ∧ b < w.heap.size ∧ w.cell? ⟨b, off + k, none⟩ = some (.int .i64 l[k]) ∧ -9223372036854775808 ≤ l[k] ∧ l[k] ≤ 9223372036854775807 := by
  obtain ⟨b, off, cs, rfl, hM, hb, hr, hc⟩ := h.at_ hk
  refine ⟨b, off, rfl, hM, hb, ?_, hr.2⟩
  have := hc 0 (.int .i64 l[k]) (by have : cs = _ := hr.1; rw [this]; rfl)
  simpa [intC] using this
theorem SlR.sliceAt {α : Type} {C : Codec α} {l : List (List α)} (h : SlR (sliceC C) M w (.slice A n c) l) {k : Nat} (hk : k < l.length) :
    ∃ b off A2 c2, A = some ⟨b, off, none⟩ ∧ ¬ M b ∧ b < w.heap.size ∧ w.cell? ⟨b, off + k, none⟩ = some (.slice A2 (l[k]).length c2) ∧ SlR C M w (.slice A2 (l[k]).length c2) l[k] := by
  obtain ⟨b, off, cs, rfl, hM, hb, ⟨v, rfl, hv⟩, hc⟩ := h.at_ hk
  obtain ⟨A2, c2, rfl, _⟩ := hv.form
  refine ⟨b, off, A2, c2, rfl, hM, hb, ?_, hv⟩
  have := hc 0 _ rfl
  simpa [sliceC] using this
/-- The first z elements. -/
theorem SlR.firsts {α : Type} {C : Codec α} {l : List α} (h : SlR C M w (.slice A n c) l) {z : Nat} (hz : z ≤ l.length) : SlR C M w (.slice A z c) (l.take z) := by
  obtain ⟨A', n', c', xs, hv, rfl, hc, hm, he, ha⟩ := h
  injection hv with e1 e2 e3
  subst e1 e2 e3
  have hlen : (l.take z).length = z := by simp [Nat.min_eq_left hz]
  refine ⟨A, z, c, xs.take (z * C.n), rfl, hlen.symm, by omega, hm, he.take z, ?_⟩
  intro h0
  obtain ⟨b, off, hA, hM, hb, hcell⟩ := ha (by omega)
  refine ⟨b, off, hA, hM, hb, fun j u hu => hcell j u ?_⟩
  rw [List.getElem?_take] at hu
  split at hu
  · exact hu
  · cases hu
end
end Go.Proofs.YtfjpedgddgbelaaGreatDoor
namespace Go.Proofs.YtfjpedgddgbelaaGreatDoor
open Go.RowKit

/-- A round: it turns the blocks of S alone; behind it S' may be turned: S and what it has made. -/
structure Chg (S S' : Nat → Prop) (w w' : World) : Prop where
  os : w'.os = w.os
  tape : w'.tape = w.tape
  output : w'.output = w.output
  size : w.heap.size ≤ w'.heap.size
  same : ∀ b, b < w.heap.size → ¬ S b → w'.heap[b]? = w.heap[b]?
  own : ∀ b, S' b → b < w'.heap.size ∧ (S b ∨ w.heap.size ≤ b)
/-- Between two rounds: what lay below n, and the blocks of S, lie as they lay. -/
structure Kept (n : Nat) (S : Nat → Prop) (w w' : World) : Prop where
  os : w'.os = w.os
  tape : w'.tape = w.tape
  output : w'.output = w.output
  size : w.heap.size ≤ w'.heap.size
  same : ∀ b, b < w.heap.size → (b < n ∨ S b) → w'.heap[b]? = w.heap[b]?
theorem Kept.refl (n : Nat) (S : Nat → Prop) (w : World) : Kept n S w w := ⟨rfl, rfl, rfl, Nat.le_refl _, fun _ _ _ => rfl⟩
theorem Kept.trans {n : Nat} {S : Nat → Prop} {a b c : World} (h : Kept n S a b) (k : Kept n S b c) : Kept n S a c :=
  ⟨k.os.trans h.os, k.tape.trans h.tape, k.output.trans h.output, Nat.le_trans h.size k.size, fun i hi hs => (k.same i (by have := h.size; omega) hs).trans (h.same i hi hs)⟩
theorem Kept.of_below {n : Nat} {S : Nat → Prop} {w w' : World} (h : Below w.heap.size w w') : Kept n S w w' := ⟨h.os, h.tape, h.output, h.size, fun b hb _ => h.block b hb⟩
theorem Kept.below {n B : Nat} {S : Nat → Prop} {a w w' : World} (h : Kept n S w w') (hB : B ≤ n) (hb : Below B a w) (hn : B ≤ w.heap.size) : Below B a w' :=
  ⟨h.os.trans hb.os, h.tape.trans hb.tape, h.output.trans hb.output, Nat.le_trans hb.size h.size, fun k hk => (h.same k (by omega) (.inl (by omega))).trans (hb.block k hk)⟩
theorem Kept.putObj {n : Nat} {S : Nat → Prop} {w : World} {r : Nat} {o : Obj} (hn : n ≤ r) (hS : ¬ S r) : Kept n S w (w.putObj r o) :=
  ⟨rfl, rfl, rfl, by simp, fun b _ hb => World.putObj_heap_other (fun e => by subst e; rcases hb with h | h; omega; exact hS h)⟩

/-- The iterator value '.func gf' with lb behind it yields the elements xs, in order, to whatever body: FP: what it reads (it lies outside S). -/
def Iter {α : Type} (P : Program) (gf : Nat) (lb : Array Value) (encs : α → Array Value) (xs : List α) (FP : (Nat → Prop) → World → Prop) : Prop :=
  ∀ (l : Nat) (J Jx : Nat → (Nat → Prop) → World → Prop) (S : Nat → Prop) (W : World), FP S W → (∀ b, S b → b < W.heap.size) →
    (∀ k S W1 W2, J k S W1 → Kept W.heap.size S W1 W2 → J k S W2) → (∀ k S W1 W2, Jx k S W1 → Kept W.heap.size S W1 W2 → Jx k S W2) →
    (∀ k (h : k < xs.length) S W1, J k S W1 → W.heap.size ≤ W1.heap.size → YieldAt Fence.wide 0 P l (encs xs[k]) W1 fun e W' => ∃ S', Chg S S' W1 W' ∧
      ((e = .returned (.bool true) ∧ J (k + 1) S' W') ∨ (e = .returned (.bool false) ∧ Jx (k + 1) S' W'))) →
    J 0 S W →
    CallsIn Fence.wide 0 P gf (#[.func (.yield l) #[] #[]] ++ lb) W fun e W' => (∃ v, e = .returned v) ∧ ((∃ S', J xs.length S' W') ∨ ∃ k S', Jx k S' W')

/-- How the body of a round may be left. -/
def itPost (I : Nat → (Nat → Prop) → World → Prop) (Ix : Code → Nat → (Nat → Prop) → World → Prop) (k : Nat) (S : Nat → Prop) (W : World) : Exit → Act → World → Prop
  | .normal, _, W' => ∃ S', Chg S S' W W' ∧ I (k + 1) S' W'
  | .ret, _, W' => ∃ S', Chg S S' W W' ∧ Ix .ret (k + 1) S' W'
  | .exit id, _, W' => ∃ S', Chg S S' W W' ∧ Ix (.exit id) (k + 1) S' W'
  | _, _, _ => False

theorem wp_rangeFunc_iter {P : Program} {α : Type} {g : Operand} {ps : Array Tmp} {assign body : Code} {Q : Exit → Act → World → Prop} {a : Act} {w : World}
    {gf : Nat} {lb : Array Value} {encs : α → Array Value} {xs : List α} {FP : (Nat → Prop) → World → Prop}
    (hit : Iter P gf lb encs xs FP) (hg : a.eval g = .func (.func gf) #[] lb) (eg : ∀ args w, (callFunc gf args).run P w = .ok (.enter gf args) w)
    (hps : ∀ x, (encs x).size = ps.size)
    (I : Nat → (Nat → Prop) → World → Prop) (Ix : Code → Nat → (Nat → Prop) → World → Prop) (S : Nat → Prop)
    (hS : ∀ b, S b → b < w.heap.size)
    (hFP : ∀ S' W, (∀ b, S' b → S b ∨ w.heap.size ≤ b) → Below w.heap.size w W → FP S' W)
    (hI : ∀ k S W W', I k S W → Kept w.heap.size S W W' → I k S W') (hIx : ∀ c k S W W', Ix c k S W → Kept w.heap.size S W W' → Ix c k S W')
    (h0 : I 0 S w) (a₁ : α → Act)
    (hassign : ∀ (l : Nat) (x : α) (W : World) (K : Act → World → Prop), K (a₁ x) W →
      assign.wpIn (Fence.wide.inRound l) 0 P (Exit.then K (fun _ _ _ => False)) { tmps := (ps.zip (encs x)).foldl (fun t (p, v) => t.setIfInBounds p v) a.tmps, defers := [] } W)
    (hbody : ∀ (l k : Nat) (h : k < xs.length) (S : Nat → Prop) (W : World), I k S W → (∀ b, S b → b < W.heap.size) → w.heap.size ≤ W.heap.size →
      body.wpIn (Fence.wide.inRound l) 0 P (itPost I Ix k S W) (a₁ xs[k]) W)
    (hdone : ∀ (D : Nat) (S : Nat → Prop) (W : World), w.heap.size ≤ D → ¬ S D → I xs.length S W → W.heap[D]? = some (.deferred (some [])) → Q .normal { a with defers := { target := .collected D, args := #[] } :: a.defers } W)
    (hstop : ∀ (D : Nat) (c : Code) (k : Nat) (S : Nat → Prop) (W : World), w.heap.size ≤ D → ¬ S D → Ix c k S W → W.heap[D]? = some (.deferred (some [])) → c.wp P Q { a with defers := { target := .collected D, args := #[] } :: a.defers } W) :
    (Code.rangeFunc g ps assign body).wp P Q a w := by
  refine (wpIn_wide (n := 0)).1 (wpIn_rangeFunc ?_)
  intro fn hfn
  obtain ⟨rec, hrec⟩ : ∃ rec : LoopState → Option Code → Loop, rec = fun st pe => { state := st, pending := pe, fn, tmps := a.tmps, params := ps, assign, body, defers := w.heap.size } := ⟨_, rfl⟩
  obtain ⟨W1, hW1⟩ : ∃ W1, (w.alloc (.deferred (some []))).alloc (.loop (rec .ready none)) = W1 := ⟨_, rfl⟩
  have hs1 : W1.heap.size = w.heap.size + 2 := by rw [← hW1]; simp
  have hL1 : W1.heap[w.heap.size + 1]? = some (.loop (rec .ready none)) := by
    rw [← hW1]; have := World.alloc_heap_new (w.alloc (.deferred (some []))) (.loop (rec .ready none)); rwa [World.size_alloc] at this
  have hK1 : W1.heap[w.heap.size]? = some (.deferred (some [])) := by
    rw [← hW1]; exact (Below.heap_alloc _ _ _ (by simp)).trans (World.alloc_heap_new w _)
  have hb1 : Below w.heap.size w W1 := by
    rw [← hW1]; exact ((Below.refl _ w).alloc (Nat.le_refl _) _).alloc (by simp) _
  -- the iterator's invariant: the caller's, and the two blocks of book-keeping
  let bk (T S : Nat → Prop) : Prop := (∀ b, T b ↔ S b ∨ b = w.heap.size ∨ b = w.heap.size + 1) ∧ ¬ S w.heap.size ∧ ¬ S (w.heap.size + 1)
  let J : Nat → (Nat → Prop) → World → Prop := fun k T W => ∃ S, bk T S ∧ I k S W ∧ (∀ b, S b → b < W.heap.size) ∧ W.heap[w.heap.size + 1]? = some (.loop (rec .ready none)) ∧ W.heap[w.heap.size]? = some (.deferred (some []))
  let Jx : Nat → (Nat → Prop) → World → Prop := fun k T W => ∃ S c, bk T S ∧ Ix c k S W ∧ W.heap[w.heap.size + 1]? = some (.loop (rec .done (some c))) ∧ W.heap[w.heap.size]? = some (.deferred (some []))
  have keptS : ∀ {T S : Nat → Prop} {A B : World}, bk T S → Kept W1.heap.size T A B → Kept w.heap.size S A B := fun hb hk =>
    ⟨hk.os, hk.tape, hk.output, hk.size, fun b hlt hor => hk.same b hlt (hor.elim (fun h => .inl (by omega)) (fun h => .inr ((hb.1 b).2 (.inl h))))⟩
  refine ⟨w.heap.size + 1, [{ target := .collected w.heap.size, args := #[] }], W1, { target := .fn (.func gf) lb, args := #[.func (.yield (w.heap.size + 1)) #[] #[]] }, W1, gf,
    #[.func (.yield (w.heap.size + 1)) #[] #[]] ++ lb, W1, ?_, ?_, ?_, ?_, fun h => by simp [Fence.wide] at h, ?_⟩
  · rw [← hW1, hrec]; exact run_enterLoop_outer _ _ _ _ _
  · simp only [resolve, hg]
    simp [go_sem]
  · intro f' _; trivial
  · simp [invoke, go_sem, eg]
  · refine (hit (w.heap.size + 1) J Jx (fun b => S b ∨ b = w.heap.size ∨ b = w.heap.size + 1) W1
      (hFP _ _ (fun b hb => hb.elim .inl fun h => .inr (by omega)) hb1) (fun b hb => by rcases hb with h | h | h; have := hS b h; omega; omega; omega) ?_ ?_ ?_ ?_).mono ?_
    · rintro k T A B ⟨S', hbk, hi, hlt, hl, hk⟩ hkept
      exact ⟨S', hbk, hI _ _ _ _ hi (keptS hbk hkept), fun b hb => Nat.lt_of_lt_of_le (hlt b hb) hkept.size,
        (hkept.same _ (Array.getElem?_eq_some_iff.1 hl).1 (.inl (by omega))).trans hl, (hkept.same _ (Array.getElem?_eq_some_iff.1 hk).1 (.inl (by omega))).trans hk⟩
    · rintro k T A B ⟨S', c, hbk, hi, hl, hk⟩ hkept
      exact ⟨S', c, hbk, hIx _ _ _ _ _ hi (keptS hbk hkept),
        (hkept.same _ (Array.getElem?_eq_some_iff.1 hl).1 (.inl (by omega))).trans hl, (hkept.same _ (Array.getElem?_eq_some_iff.1 hk).1 (.inl (by omega))).trans hk⟩
    · -- one round
      rintro k hk T W ⟨S', hbk, hi, hlt, hl, hd⟩ hsz
      have hll : w.heap.size + 1 < W.heap.size := (Array.getElem?_eq_some_iff.1 hl).1
      have hy := run_yield (P := P) (args := encs xs[k]) hl (by rw [hrec]; exact hps _)
      rw [hrec] at hy
      refine ⟨fn, _, assign, body, hy, roundIn_of_wpIn hfn (hassign _ xs[k] W _ ⟨_, run_beginRound hl (by rw [hrec]), ?_⟩)⟩
      obtain ⟨W2, hW2⟩ : ∃ W2, W.putObj (w.heap.size + 1) (.loop { rec .ready none with state := .busy }) = W2 := ⟨_, rfl⟩
      have hl2 : W2.heap[w.heap.size + 1]? = some (.loop { rec .ready none with state := .busy }) := by rw [← hW2]; exact World.putObj_heap_same hll
      have hd2 : W2.heap[w.heap.size]? = some (.deferred (some [])) := by rw [← hW2]; exact (World.putObj_heap_other (by omega)).trans hd
      have hs2 : W2.heap.size = W.heap.size := by rw [← hW2]; simp
      have hi2 : I k S' W2 := by rw [← hW2]; exact hI _ _ _ _ hi (Kept.putObj (by omega) hbk.2.2)
      have hsame2 : ∀ b, b ≠ w.heap.size + 1 → W2.heap[b]? = W.heap[b]? := fun b hb => by rw [← hW2]; exact World.putObj_heap_other hb
      have ho2 : W2.os = W.os ∧ W2.tape = W.tape ∧ W2.output = W.output := by rw [← hW2]; exact ⟨rfl, rfl, rfl⟩
      rw [hW2]
      refine wpIn_mono (hbody _ k hk S' W2 hi2 (fun b hb => by rw [hs2]; exact hlt b hb) (by omega)) ?_
      have fin : ∀ (jump : Option Code) (S'' : Nat → Prop) (W3 : World), Chg S' S'' W2 W3 →
          (Instr.endRound (w.heap.size + 1) jump).run P W3 = .ok (.bool jump.isNone) (W3.putObj (w.heap.size + 1) (.loop (rec (if jump.isNone then .ready else .done) jump))) ∧
          Chg T (fun b => S'' b ∨ b = w.heap.size ∨ b = w.heap.size + 1) W (W3.putObj (w.heap.size + 1) (.loop (rec (if jump.isNone then .ready else .done) jump))) ∧
          bk (fun b => S'' b ∨ b = w.heap.size ∨ b = w.heap.size + 1) S'' ∧
          Kept w.heap.size S'' W3 (W3.putObj (w.heap.size + 1) (.loop (rec (if jump.isNone then .ready else .done) jump))) ∧
          (W3.putObj (w.heap.size + 1) (.loop (rec (if jump.isNone then .ready else .done) jump))).heap[w.heap.size + 1]? = some (.loop (rec (if jump.isNone then .ready else .done) jump)) ∧
          (W3.putObj (w.heap.size + 1) (.loop (rec (if jump.isNone then .ready else .done) jump))).heap[w.heap.size]? = some (.deferred (some [])) := fun jump S'' W3 hc => by
        have hl3 : W3.heap[w.heap.size + 1]? = some (.loop { rec .ready none with state := .busy }) := (hc.same _ (by omega) hbk.2.2).trans hl2
        have hd3 : W3.heap[w.heap.size]? = some (.deferred (some [])) := (hc.same _ (by omega) hbk.2.1).trans hd2
        have hsz3 := hc.size
        have hn1 : ¬ S'' w.heap.size := fun h => (hc.own _ h).2.elim hbk.2.1 (by omega)
        have hn2 : ¬ S'' (w.heap.size + 1) := fun h => (hc.own _ h).2.elim hbk.2.2 (by omega)
        have hr := run_endRound (P := P) jump hl3
        rw [hrec] at hr ⊢
        refine ⟨hr, ⟨hc.os.trans ho2.1, hc.tape.trans ho2.2.1, hc.output.trans ho2.2.2, by rw [World.putObj_size]; omega, fun b hb hT => ?_, fun b hb => ?_⟩, ⟨fun b => Iff.rfl, hn1, hn2⟩, Kept.putObj (by omega) hn2, World.putObj_heap_same (by omega), (World.putObj_heap_other (by omega)).trans hd3⟩
        · have hb1 : b ≠ w.heap.size + 1 := fun e => hT ((hbk.1 b).2 (.inr (.inr e)))
          exact (World.putObj_heap_other hb1).trans ((hc.same b (by omega) (fun h => hT ((hbk.1 b).2 (.inl h)))).trans (hsame2 b hb1))
        · rw [World.putObj_size]
          rcases hb with h | h | h
          · obtain ⟨h1, h2⟩ := hc.own b h
            exact ⟨h1, h2.elim (fun h => .inl ((hbk.1 b).2 (.inl h))) (fun h => .inr (by omega))⟩
          · exact ⟨by omega, .inl ((hbk.1 b).2 (.inr (.inl h)))⟩
          · exact ⟨by omega, .inl ((hbk.1 b).2 (.inr (.inr h)))⟩
      rintro e a3 W3 hp
      cases e with
      | normal =>
        obtain ⟨S'', hc, hi3⟩ := hp
        obtain ⟨hr, hc4, hbk4, hk4, hl4, hd4⟩ := fin none S'' W3 hc
        exact ⟨_, _, hr, _, hc4, .inl ⟨rfl, S'', hbk4, hI _ _ _ _ hi3 hk4, fun b hb => by rw [World.putObj_size]; exact (hc.own b hb).1, hl4, hd4⟩⟩
      | ret =>
        obtain ⟨S'', hc, hi3⟩ := hp
        obtain ⟨hr, hc4, hbk4, hk4, hl4, hd4⟩ := fin (some .ret) S'' W3 hc
        exact ⟨_, _, hr, _, hc4, .inr ⟨rfl, S'', .ret, hbk4, hIx _ _ _ _ _ hi3 hk4, hl4, hd4⟩⟩
      | exit id =>
        obtain ⟨S'', hc, hi3⟩ := hp
        obtain ⟨hr, hc4, hbk4, hk4, hl4, hd4⟩ := fin (some (.exit id)) S'' W3 hc
        exact ⟨_, _, hr, _, hc4, .inr ⟨rfl, S'', .exit id, hbk4, hIx _ _ _ _ _ hi3 hk4, hl4, hd4⟩⟩
      | goto t => exact hp.elim
      | panic ch => exact hp.elim
      | outgrown => exact hp.elim
    · exact ⟨S, ⟨fun b => Iff.rfl, fun h => by have := hS _ h; omega, fun h => by have := hS _ h; omega⟩, hI _ _ _ _ h0 (Kept.of_below hb1), fun b hb => by have := hS b hb; omega, hL1, hK1⟩
    · -- behind the iterator
      rintro e W2 ⟨⟨v, rfl⟩, (⟨T, S', hbk, hi, _, hl, hd⟩ | ⟨k, T, S', c, hbk, hi, hl, hd⟩)⟩
      · refine ⟨none, _, by have := run_endLoop (P := P) hl (by rw [hrec]; simp); rw [hrec] at this; exact this, hdone _ S' _ (Nat.le_refl _) hbk.2.1 (hI _ _ _ _ hi (Kept.putObj (by omega) hbk.2.2)) ((World.putObj_heap_other (by omega)).trans hd)⟩
      · exact ⟨some c, _, by have := run_endLoop (P := P) hl (by rw [hrec]; simp); rw [hrec] at this; exact this,
          (wpIn_wide (n := 0)).2 (hstop _ c k S' _ (Nat.le_refl _) hbk.2.1 (hIx _ _ _ _ _ hi (Kept.putObj (by omega) hbk.2.2)) ((World.putObj_heap_other (by omega)).trans hd))⟩

/-- What a body must achieve that holds ranges over functions: 'bodyPostM', unfenced. -/
theorem calls_of_wp_marks {P : Program} {f : FuncId} {fn : Func} {c : Code} {args : Array Value} {w : World} {R : Ending → World → Prop}
    (hf : P.funcs[f]? = some fn) (hb : fn.body = some c)
    (h : c.wp P (bodyPostM Fence.wide 0 P fn R) { tmps := args ++ Array.replicate (fn.ntmps - args.size) undef, defers := [] } w) : Calls P f args w R :=
  callsIn_wide.1 (callsIn_of_wp_marks (F := Fence.wide) (n := 0) hf hb trivial ((wpIn_wide (n := 0)).2 h) rfl)
theorem bodyPostM_none {P : Program} {fn : Func} {R : Ending → World → Prop} {t : Array Value} {w : World} {v : Value} (hv : (results fn t).run P w = .ok v w) (hR : R (.returned v) w) :
    bodyPostM Fence.wide 0 P fn R .ret { tmps := t, defers := [] } w := ⟨_, hv, hR⟩
theorem bodyPostM_one {P : Program} {fn : Func} {R : Ending → World → Prop} {t : Array Value} {w : World} {v : Value} {D : Nat} (hD : w.heap[D]? = some (.deferred (some [])))
    (hv : (results fn t).run P (w.putObj D (.deferred none)) = .ok v (w.putObj D (.deferred none))) (hR : R (.returned v) (w.putObj D (.deferred none))) :
    bodyPostM Fence.wide 0 P fn R .ret { tmps := t, defers := [{ target := .collected D, args := #[] }] } w :=
  ⟨by simp, .inl ⟨_, _, rfl, run_takeDeferred hD, _, hv, hR⟩⟩
end Go.Proofs.YtfjpedgddgbelaaGreatDoor
